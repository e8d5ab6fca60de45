/- The walk of key: a node's text among others. -/
import Derived.Test.YthbfaledmoobjaaDoorKnown
import Derived.Test.YthbfaledmoobjaaDoorShelf
namespace Go.Proofs.YthbfaledmoobjaaDoor
open Go.RowKit

theorem E75 : Elem Tryd.prog 75 5 (.int .u8 0) 1 1 := ⟨Tryd.underlying75, by kernel_rfl, rfl, by omega⟩
/-- the table of powers stands, whatever is done from block B on -/
def Tb (B : Nat) (w : World) : Prop := Lib.TabBelow Tryd.prog B w "internal/strconv.uint64pow10" .u64 Lib.pow10Tab
theorem Tb.on {B : Nat} {w w' : World} (h : Tb B w) (hb : Below B w w') : Tb B w' := Lib.TabBelow.on h hb
theorem Tb.mono {B C : Nat} {w : World} (h : Tb B w) (hb : B ≤ C) : Tb C w := fun w' hw => h w' (hw.mono hb)
def kp (x : NN) (k : Nat) : List UInt8 := Lib.itoa x.op ++ ((x.n :: x.l).take k).flatMap fun v => 32 :: Lib.itoa v
theorem kp_len (x : NN) (hx : W64 x.op) (hl : ∀ v ∈ x.n :: x.l, W64 v) : ∀ k, (kp x k).length ≤ 21 + 22 * k
  | 0 => by
    have := Lib.itoa_length_le x.op hx.1 hx.2
    simp [kp]; omega
  | k + 1 => by
    have ih := kp_len x hx hl k
    unfold kp at *
    rw [List.take_add_one, List.flatMap_append, ← List.append_assoc, List.length_append]
    cases h : (x.n :: x.l)[k]? with
    | none => simp at *; omega
    | some v =>
      have hv := hl v (List.mem_of_getElem? h)
      have := Lib.itoa_length_le v hv.1 hv.2
      simp at *; omega
theorem kp_next (x : NN) {k : Nat} {v : Int} (h : (x.n :: x.l)[k]? = some v) : kp x (k + 1) = kp x k ++ 32 :: Lib.itoa v := by
  unfold kp
  rw [List.take_add_one, h, List.flatMap_append, List.append_assoc]
  simp
theorem kp_all (x : NN) : kp x (x.l.length + 1) ++ 124 :: x.s.data.toList = keyL x := by
  unfold kp keyL
  rw [show x.l.length + 1 = (x.n :: x.l).length from rfl, List.take_length]
theorem str_app (l : List UInt8) (s : ByteArray) : (⟨l.toArray⟩ : ByteArray) ++ ⟨#[124]⟩ ++ s = ⟨(l ++ 124 :: s.data.toList).toArray⟩ := by
  apply ByteArray.ext
  rw [ByteArray.data_append, ByteArray.data_append]
  apply Array.ext'
  simp
theorem own_form {w : World} {B : Nat} {e : TypeId} {v : Value} {n : Nat} {xs : List Value} (h : w.ownsRow B e 1 v n xs) : ∃ A c, v = .slice A n c ∧ Ow w B e 1 A n c xs := by
  rcases h.2 with ⟨rfl, rfl⟩ | ⟨g, cap, cur, rfl, r⟩
  · exact ⟨none, 0, rfl, h⟩
  · exact ⟨_, _, rfl, h⟩
theorem others_app {w w' : World} {B : Nat} {A : Option Addr} {n c : Nat} {xs : List Value} (hO : Ow w B 5 1 A n c xs) (hg : w.grownBy w' (Value.slice A n c).ownBlock) : Lib.OthersKept 5 none w w' :=
  (Lib.OthersKept.refl 5 none w).grown hg fun g hg' => by
    rcases hO.2 with ⟨hv, _⟩ | ⟨g2, cap, cur, hv, _, hh, _⟩
    · rw [hv] at hg'; cases hg'
    · rw [hv] at hg'
      injection hg' with hg'
      subst hg'
      exact ⟨_, _, hh⟩
/-- a row of numbers is no row of bytes -/
theorem others_row {w w' : World} {B : Nat} {A : Option Addr} {n c : Nat} {l : List Int} (h : Lib.OthersKept 5 none w w') (hO : Ow w B 3 1 A n c (iv l)) : Sl w' A n c (iv l) := by
  have hs := hO.sl
  refine ⟨hs.len, hs.cap, hs.top, ?_⟩
  rcases hO.2 with ⟨hv, h0⟩ | ⟨g, cap, cur, hv, _, hh, _⟩
  · left
    have := hs.len
    rw [h0] at this
    exact List.eq_nil_of_length_eq_zero this
  · injection hv with hA _ hc
    subst hA
    have hk := h g _ hh (by simp) (by intro c fz; simp)
    rcases hs.lies with e | ⟨ad, e, hc⟩
    · exact .inl e
    · injection e with e
      subst e
      exact .inr ⟨_, rfl, fun j v hv => by
        have := hc j v hv
        unfold World.cell? at this ⊢
        rw [blk_add] at this ⊢
        rw [hk]
        rw [hh] at this
        exact this⟩
set_option maxRecDepth 100000 in
set_option maxHeartbeats 4000000 in
theorem key_ok (x : NN) (A : Option Addr) (m d : Nat) (w : World) (hl : Sl w A m d (iv x.l)) (h64 : m ≤ 64) (hs : x.s.size ≤ 200) (hw : W64 x.op ∧ W64 x.n ∧ ∀ v ∈ x.l, W64 v) (hT : Tb w.heap.size w) :
    Calls Tryd.prog 39 #[.agg #[.int .i64 x.op, .int .i64 x.n, .string x.s, .slice A m d]] w fun e w' => e = .returned (.string ⟨(keyL x).toArray⟩) ∧ Below w.heap.size w w' := by
  have HM : Hid (x.l.length = m) := Lib.hid (by have := hl.len; rwa [iv_length] at this)
  have HW : Hid (∀ v ∈ x.n :: x.l, W64 v) := Lib.hid (fun v hv => by
    rcases List.mem_cons.1 hv with rfl | hv
    · exact hw.2.1
    · exact hw.2.2 v hv)
  have HKL : Hid (∀ k, k ≤ m + 1 → (kp x k).length ≤ 2000) := Lib.hid (fun k hk => by have := kp_len x hw.1 HW.out k; omega)
  have hop := hw.1
  obtain ⟨op, hope⟩ : ∃ op, x.op = op := ⟨_, rfl⟩
  have HOP := Lib.hid hope
  rw [hope] at hop ⊢
  clear hope hw
  obtain ⟨W0, hW0⟩ : ∃ W0, w.alloc (.cells #[.int .i64 op, .int .i64 x.n, .string x.s, .slice A m d] 56) = W0 := ⟨_, rfl⟩
  have hB0 : Below w.heap.size w W0 := by rw [← hW0]; exact (Below.refl _ w).alloc (Nat.le_refl _) _
  have hl0 : Sl W0 A m d (iv x.l) := by rw [← hW0]; exact hl.alloc _
  have hc0 : W0.cell? ⟨w.heap.size, 0, none⟩ = some (.int .i64 op) := by rw [← hW0]; simp
  have hc1 : W0.cell? ⟨w.heap.size, 1, none⟩ = some (.int .i64 x.n) := by rw [← hW0]; simp
  have hc2 : W0.cell? ⟨w.heap.size, 2, none⟩ = some (.string x.s) := by rw [← hW0]; simp
  have hc3 : W0.cell? ⟨w.heap.size, 3, none⟩ = some (.slice A m d) := by rw [← hW0]; simp
  have hsz : W0.heap.size = w.heap.size + 1 := by rw [← hW0]; simp
  have hT0 : Tb W0.heap.size W0 := (hT.on hB0).mono (by omega)
  obtain ⟨B, hBe⟩ : ∃ B, W0.heap.size = B := ⟨_, rfl⟩
  have HA := Lib.hid (Tryd.appendInt B 0 op hop.1 hop.2 (.slice none 0 0) [] W0 (World.ownsRow_nil _ _ _ _) (by omega) (by omega) (by rw [← hBe]; exact hT0))
  have HW0 := Lib.hid hW0
  have HSZ := Lib.hid hsz
  have HBE := Lib.hid hBe
  clear hBe hsz hl hT
  go_enter Tryd.func39, Tryd.ntmps39
  clear hW0
  go_wp2_with (go_at_call 45; rw [HW0.out]; refine HA.out.mono ?_; rintro e w1 ⟨v1, rfl, hown1, hb1, ho1⟩; refine Hid.out ?_)
  refine Lib.hid ?_
  obtain ⟨VA, vc, rfl, hOb⟩ := own_form hown1
  have d1 : w1.cell? ⟨w.heap.size, 1, none⟩ = some (.int .i64 x.n) := (hb1.cell (by show w.heap.size < B; have := HSZ.out; have := HBE.out; omega)).trans hc1
  have d2 : w1.cell? ⟨w.heap.size, 2, none⟩ = some (.string x.s) := (hb1.cell (by show w.heap.size < B; have := HSZ.out; have := HBE.out; omega)).trans hc2
  have d3 : w1.cell? ⟨w.heap.size, 3, none⟩ = some (.slice A m d) := (hb1.cell (by show w.heap.size < B; have := HSZ.out; have := HBE.out; omega)).trans hc3
  have hB1 : Below w.heap.size w w1 := hB0.trans (hb1.mono (by have := HSZ.out; have := HBE.out; omega))
  have hl1 : Sl w1 A m d (iv x.l) := hl0.below (by rw [HBE.out]; exact hb1)
  have hT1 : Tb B w1 := by have := hT0.on (by rw [HBE.out]; exact hb1); rwa [HBE.out] at this
  have hBw1 : B ≤ w1.heap.size := by have := hb1.size; rwa [HBE.out] at this
  have HOB := Lib.hid hOb
  have hR0 := World.ownsRow_lit w1 (e := 3) (size := 1) #[.int .i64 x.n] 1 (Nat.le_refl _) (by unfold maxLen; omega) rfl
  have d4 : (w1.alloc (.cells #[.int .i64 x.n] 3)).cell? ⟨w.heap.size, 3, none⟩ = some (.slice A m d) := (World.cell?_alloc_lt w1 _ ⟨w.heap.size, 3, none⟩ (World.block_lt_of_cell? _ _ d3)).trans d3
  have hlx := hl1.alloc (.cells #[.int .i64 x.n] 3)
  have hlz := hlx.len
  have HLZ := Lib.hid hlz
  clear hown1 hb1 ho1 hc0 hc1 hc2 hc3 hl0 hT0 HA hOb hlz
  go_wp2_with (at_builtin; refine wpList_app (o := ⟨some 14, _, _, _, _, _⟩) E26 rfl rfl rfl hR0 rfl hlx.lies (by rw [HLZ.out, Nat.mul_one]) (iv_one x.l) (by unfold maxLen; omega) (by omega) (by simp) ?_; intro RA rc w2 hR hGr hBr; refine Hid.out ?_)
  refine Lib.hid ?_
  have hb12 : Below w1.heap.size w1 w2 := ((Below.refl _ w1).alloc (Nat.le_refl _) _).trans hBr
  have hB2 := hB1.trans (hb12.mono hB1.size)
  have hbB2 : Below B w1 w2 := hb12.mono hBw1
  have hR2 : Ow w2 w1.heap.size 3 1 RA (1 + m) rc (iv (x.n :: x.l)) := hR
  have hO2 := (HOB.out).below hb12
  rw [Nat.zero_add, List.nil_append] at hO2
  have hO2' : Ow w2 B 5 1 VA (kp x 0).length vc (bv (kp x 0)) := by
    have e0 : kp x 0 = Lib.itoa op := by unfold kp; simp [HOP.out]
    rw [e0]; exact hO2
  have c1 := (hb12.cell (World.block_lt_of_cell? _ _ d1)).trans d1
  have c2 := (hb12.cell (World.block_lt_of_cell? _ _ d2)).trans d2
  have c3 := (hb12.cell (World.block_lt_of_cell? _ _ d3)).trans d3
  have hT2 := hT1.on hbB2
  have hBw2 : B ≤ w2.heap.size := by have := hbB2.size; omega
  have HO2 := Lib.hid hO2'
  have HR2 := Lib.hid hR2
  have hvl : (Lib.itoa op).length = (kp x 0).length := by unfold kp; simp [HOP.out]
  have HVL := Lib.hid hvl
  clear hR hGr hBr hR0 hlx hO2 hO2' hR2 hb12 hbB2 d1 d2 d3 d4 hT1 hBw1 HOB hB1 hl1 hvl
  go_wp2_with fail
  go_loopw [3, 16] (fun v i wr => ∃ (k : Nat) (A1 : Option Addr) (c1 : Nat), k ≤ m + 1 ∧ i = .int .i64 (k : Int) ∧ v = .slice A1 (kp x k).length c1 ∧ Hid (Ow wr B 5 1 A1 (kp x k).length c1 (bv (kp x k))) ∧ Hid (Lib.OthersKept 5 none w2 wr) ∧ Below B w2 wr) (fun _ i _ => m + 1 - (intOf i).toNat)
  case atStart => exact ⟨0, VA, vc, Nat.zero_le _, rfl, by rw [← HVL.out], HO2, Lib.hid (Lib.OthersKept.refl _ _ _), Below.refl _ _⟩
  case round =>
    obtain ⟨k, A1, c1', hk, rfl, rfl, HO, HK, hB⟩ := hrel
    by_cases hlt : k < m + 1
    · have hRr := others_row HK.out HR2.out
      obtain ⟨ar, hlr, hre, hcr⟩ := hRr.int (k := k) (by omega)
      subst hre
      obtain ⟨v, hv⟩ : ∃ v, (x.n :: x.l)[k]'hlr = v := ⟨_, rfl⟩
      have hv2 : (x.n :: x.l)[k]? = some v := by rw [List.getElem?_eq_getElem hlr, hv]
      rw [hv] at hcr
      have hvw := HW.out v (List.mem_of_getElem? hv2)
      have HN : Hid (kp x (k + 1) = kp x k ++ 32 :: Lib.itoa v) := Lib.hid (kp_next x hv2)
      have hkl := HKL.out k hk
      have hBs := hB.size
      have hOx := HO.out.alloc (.cells #[.int .u8 32] 5)
      have h1k : ((k : Nat) : Int) < ((1 + m : Nat) : Int) := by omega
      clear hv hv2
      go_wp2_with (first
        | (at_builtin; refine wpList_app (o := ⟨some 22, _, _, _, _, _⟩) E75 rfl rfl rfl hOx rfl (lies_new wr _ 5) rfl (by simp [Value.oneCell']) (by unfold maxLen; omega) (by omega) (by simp; omega) ?_; intro A4 c4 w4 hO4 hG4 hB4; refine Hid.out ?_)
        | fail)
      refine Lib.hid ?_
      have hb4 : Below B w2 w4 := (hB.alloc (by omega) _).trans hB4
      have hk4 := (HK.out.alloc (.cells #[.int .u8 32] 5)).trans (others_app hOx hG4)
      have hsz4 := hb4.size
      have HAP := Lib.hid (Tryd.appendInt B ((kp x k).length + 1) v hvw.1 hvw.2 (.slice A4 ((kp x k).length + 1) c4) _ w4 hO4 (by omega) (by omega) (hT2.on hb4))
      have HB4 := Lib.hid hb4
      have HK4 := Lib.hid hk4
      clear hO4 hG4 hB4 hOx hRr hcr hb4 hk4 hB HK HO
      go_wp2_with (go_at_call 45; refine HAP.out.mono ?_; rintro e w5 ⟨v5, rfl, hO5, hb5, hk5⟩; refine Hid.out ?_)
      refine Lib.hid ?_
      obtain ⟨A5, c5, rfl, hO5'⟩ := own_form hO5
      have hlen5 : (kp x k).length + 1 + (Lib.itoa v).length = (kp x (k + 1)).length := by rw [HN.out, List.length_append, List.length_cons]; omega
      have HL5 := Lib.hid hlen5
      have HO5 : Hid (Ow w5 B 5 1 A5 (kp x (k + 1)).length c5 (bv (kp x (k + 1)))) := Lib.hid (by
        rw [hlen5] at hO5'
        have e5 : bv (kp x k) ++ [Value.int .u8 32] ++ Lib.byteCells (Lib.itoa v) = bv (kp x (k + 1)) := by rw [HN.out, bv_append, List.append_assoc]; rfl
        rwa [← e5])
      have HK5 : Hid (Lib.OthersKept 5 none w2 w5) := Lib.hid (HK4.out.trans hk5)
      have hB5 := HB4.out.trans hb5
      clear hO5 hO5' hb5 hk5 hlen5 HAP
      go_wp2_with fail
      go_roundw
      case rel => exact ⟨k + 1, A5, c5, by omega, by go_num, by rw [HL5.out], HO5, HK5, hB5⟩
      case measure => simp [intOf]; omega
    · obtain rfl : k = m + 1 := by omega
      have hcv := (HO.out).sl.str (P := Tryd.prog) Tryd.underlying75 Tryd.underlying5 Tryd.underlying9
      have e2 : wr.cell? ⟨w.heap.size, 2, none⟩ = some (.string x.s) := (hB.cell (by show w.heap.size < B; have := HSZ.out; have := HBE.out; omega)).trans c2
      have hBf := hB2.trans (hB.mono (by have := HSZ.out; have := HBE.out; omega))
      have hkl := HKL.out _ hk
      have HE : Hid (kp x (m + 1) ++ 124 :: x.s.data.toList = keyL x) := Lib.hid (by rw [← HM.out]; exact kp_all x)
      clear HO HK hB
      go_wp2_with fail
      go_ret
      exact ⟨congrArg (fun z => Ending.returned (Value.string z)) (by rw [str_app, HE.out]), hBf⟩
end Go.Proofs.YthbfaledmoobjaaDoor
