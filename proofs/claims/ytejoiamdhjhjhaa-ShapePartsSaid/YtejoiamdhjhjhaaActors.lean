/- The walk of shape.Actors. -/
import Derived.Test.YtejoiamdhjhjhaaNamed
namespace Go.Proofs.Ytejoiamdhjhjhaa
open Go.RowKit

/-- a field by its place -/
def fld (s : St) (i : Nat) : Int := if i = 1 then s.who else s.of
def who (s : St) : List Int := (nm s.d).map (fld s)
def add1 (out : List Int) (x : Int) : List Int := if x ∈ out then out else out ++ [x]
def addS (out : List Int) (s : St) : List Int := (who s).foldl add1 out
/-- who is named -/
def actL (l : List St) : List Int := l.foldl addS []
def StWf (s : St) : Prop := Wf s.d ∧ Wf s.who ∧ Wf s.of
theorem nm_len (d : Int) : (nm d).length ≤ 2 := by unfold nm; split <;> (try split) <;> simp
theorem nm_mem (d : Int) : ∀ i ∈ nm d, i = 1 ∨ i = 2 := by unfold nm; split <;> (try split) <;> simp
theorem fld_wf {s : St} (h : StWf s) (i : Nat) : Wf (fld s i) := by
  unfold fld; split
  · exact h.2.1
  · exact h.2.2
theorem add1_len (o : List Int) (x : Int) : (add1 o x).length ≤ o.length + 1 := by unfold add1; split <;> simp
theorem foldl_len : ∀ (xs o : List Int), (xs.foldl add1 o).length ≤ o.length + xs.length
  | [], o => by simp
  | x :: r, o => by
    have h1 := foldl_len r (add1 o x)
    have h2 := add1_len o x
    simp only [List.foldl_cons, List.length_cons]; omega
theorem addS_len (o : List Int) (s : St) : (addS o s).length ≤ o.length + 2 := by
  have h1 := foldl_len (who s) o
  have h2 := nm_len s.d
  unfold addS; unfold who at h1 ⊢; rw [List.length_map] at h1; omega
theorem act_take (l : List St) (k : Nat) (s : St) (h : l[k]? = some s) : actL (l.take (k + 1)) = addS (actL (l.take k)) s := by
  unfold actL; rw [List.take_add_one, h, Option.toList_some, List.foldl_append]; rfl
theorem act_len (l : List St) : (actL l).length ≤ 2 * l.length := by
  have key : ∀ (l : List St) (o : List Int), (l.foldl addS o).length ≤ o.length + 2 * l.length := by
    intro l
    induction l with
    | nil => intro o; simp
    | cons s r ih =>
      intro o
      have h1 := ih (addS o s)
      have h2 := addS_len o s
      simp only [List.foldl_cons, List.length_cons]; omega
  have := key l []
  simpa [actL] using this
theorem Lies.grown {w w' : World} {A : Option Addr} {xs : List Value} {b : Nat} (h : Lies w A xs) (hg : w.grownBy w' (some b)) (hA : ∀ ad : Addr, A = some ad → ad.block ≠ b) : Lies w' A xs := by
  rcases h with e | ⟨ad, rfl, hc⟩
  · exact .inl e
  · refine .inr ⟨ad, rfl, fun k v hv => ?_⟩
    have h1 := hc k v hv
    rw [← h1]
    have hlt := World.block_lt_of_cell? w _ h1
    refine World.cell?_of_block (hg.block _ hlt ?_)
    rw [blk_add]
    intro e; injection e with e; exact hA ad rfl e
theorem Sl.grown {w w' : World} {A : Option Addr} {n c : Nat} {xs : List Value} {b : Nat} (h : Sl w A n c xs) (hg : w.grownBy w' (some b)) (hA : ∀ ad : Addr, A = some ad → ad.block ≠ b) : Sl w' A n c xs := ⟨h.len, h.cap, h.top, h.lies.grown hg hA⟩
theorem Ow.grown {w w' : World} {base : Nat} {e : TypeId} {A : Option Addr} {n c : Nat} {xs : List Value} {b : Nat} (h : Ow w base e 1 A n c xs) (hg : w.grownBy w' (some b)) (hb : b < base) : Ow w' base e 1 A n c xs := by
  refine World.ownsRow.kept (row := some b) h hg ?_
  cases hv : (Value.slice A n c).ownBlock with
  | none => left; rfl
  | some k => right; intro e; injection e with e; have := h.base_ k hv; omega
theorem E25 : Elem Try.prog 25 3 (.int .i64 0) 1 8 := ⟨Try.underlying25, by kernel_rfl, rfl, by omega⟩
theorem iv_snoc (l : List Int) (x : Int) : iv (l ++ [x]) = iv l ++ [.int .i64 x] := by simp [iv]
/-- the two fields that may name someone -/
def Bx (w : World) (g : Nat) (s : St) : Prop := w.cell? ⟨g, 1, none⟩ = some (.int .i64 s.who) ∧ w.cell? ⟨g, 2, none⟩ = some (.int .i64 s.of) ∧ Tg w g 31
theorem Bx.block {w w' : World} {g : Nat} {s : St} (h : Bx w g s) (e : w'.heap[g]? = w.heap[g]?) : Bx w' g s :=
  ⟨(World.cell?_of_block e).trans h.1, (World.cell?_of_block e).trans h.2.1, h.2.2.block e⟩
theorem Bx.lt {w : World} {g : Nat} {s : St} (h : Bx w g s) : g < w.heap.size := World.block_lt_of_cell? w _ h.1
theorem Bx.below {w w' : World} {g B : Nat} {s : St} (h : Bx w g s) (hb : Below B w w') (hg : g < B) : Bx w' g s :=
  h.block (hb.block g hg)
theorem Bx.alloc {w : World} {g : Nat} {s : St} (h : Bx w g s) (o : Obj) : Bx (w.alloc o) g s :=
  h.block (Below.heap_alloc w o g h.lt)
theorem grown_cell {w w' : World} {b : Nat} (hg : w.grownBy w' (some b)) {p : Addr} {v : Value} (hp : p.block ≠ b) (h : w.cell? p = some v) : w'.cell? p = some v := by
  rw [← h]
  exact World.cell?_of_block (hg.block _ (World.block_lt_of_cell? w _ h) (by intro e; injection e with e; exact hp e))
theorem Bx.grown {w w' : World} {g b : Nat} {s : St} (h : Bx w g s) (hg : w.grownBy w' (some b)) (hb : g ≠ b) : Bx w' g s :=
  h.block (hg.block g h.lt (by intro e; injection e with e; exact hb e))
theorem Bx.at_ {w : World} {g i : Nat} {s : St} (h : Bx w g s) (hi : i = 1 ∨ i = 2) : w.cell? ⟨g, i, none⟩ = some (.int .i64 (fld s i)) := by
  rcases hi with rfl | rfl
  · exact h.1
  · exact h.2.1
theorem MB.congr {w : World} {b n : Nat} {f g : Int → Bool} (h : MB w b n f) (e : ∀ x, f x = g x) : MB w b n g := by
  have : f = g := funext e
  rw [← this]; exact h
set_option maxRecDepth 100000 in
set_option maxHeartbeats 4000000 in
theorem act_ok (A : Option Addr) (n c : Nat) (l : List St) (w : World) (h : Ss w A n c l) (hn : n ≤ 1000) (hwf : Hid (∀ s ∈ l, StWf s)) :
    Calls Try.prog 10 #[.slice A n c] w fun e w' => ∃ A' c', e = .returned (.slice A' (actL l).length c') ∧ Ow w' w.heap.size 3 1 A' (actL l).length c' (iv (actL l)) ∧ Below w.heap.size w w' := by
  have hmm := @run_makeMap Try.prog
  have HL := Lib.hid h.len
  go_enter Try.func10, Try.ntmps10
  go_wp2_with fail
  go_loopw [3, 12] (fun v i wr => ∃ (k : Nat) (A' : Option Addr) (c' : Nat), k ≤ n ∧ i = .int .i64 (k : Int) ∧ v = .slice A' (actL (l.take k)).length c' ∧ Ow wr (w.heap.size + 1) 3 1 A' (actL (l.take k)).length c' (iv (actL (l.take k))) ∧ MB wr w.heap.size (actL (l.take k)).length (fun x => decide (x ∈ actL (l.take k))) ∧ Below w.heap.size w wr ∧ w.heap.size + 1 ≤ wr.heap.size) (fun _ i _ => n - (intOf i).toNat)
  case atStart => exact ⟨0, none, 0, Nat.zero_le _, rfl, rfl, Ow.nil _ _ _ _, MB.new w, (Below.refl _ w).alloc (Nat.le_refl _) _, by simp⟩
  case round =>
    obtain ⟨k, A', c', hk, rfl, rfl, hO, hM, hB, hsz⟩ := hrel
    by_cases hlt : k < n
    · obtain ⟨ad, s, rfl, h1, h2, h3, h4⟩ := (h.below hB).at_ hlt
      have HT := Lib.hid (act_take l k s h1)
      have hsw := hwf.out s (List.mem_of_getElem? h1)
      have hlen := act_len (l.take k)
      rw [List.length_take, HL.out, Nat.min_eq_left hk] at hlen
      obtain ⟨o0, ho0⟩ : ∃ o, actL (l.take k) = o := ⟨_, rfl⟩
      rw [ho0] at hO hM HT hlen ⊢
      clear ho0 h1
      go_wp2_with fail
      have hbox : Bx (wr.alloc (.cells #[.int .i64 s.d, .int .i64 s.who, .int .i64 s.of] 31)) wr.heap.size s := ⟨by simp, by simp, Tg.new _ _ _⟩
      refine (named_ok wr.heap.size 0 s.d _ (by simp)).mono ?_
      rintro e w2 ⟨A6, rfl, hS6, hB2, hA6⟩
      have hO2 := (hO.alloc (.cells #[.int .i64 s.d, .int .i64 s.who, .int .i64 s.of] 31)).below hB2
      have hM2 := (hM.alloc (.cells #[.int .i64 s.d, .int .i64 s.who, .int .i64 s.of] 31)).below hB2 (hM.alloc _).lt
      have hBx2 := hbox.below hB2 (by simp)
      have hB3 := nx (nxa hB (.cells #[.int .i64 s.d, .int .i64 s.who, .int .i64 s.of] 31)) hB2
      have hsz2 : w.heap.size + 1 ≤ w2.heap.size := by have := hB2.size; simp at this; omega
      have hne6 : ∀ ad : Addr, A6 = some ad → ad.block ≠ w.heap.size := fun ad e => by have := (hA6 ad e).1; simp at this; omega
      have hT6 : ∀ ad : Addr, A6 = some ad → Tg w2 ad.block 49 := fun ad e => (hA6 ad e).2
      have hgb : wr.heap.size ≠ w.heap.size := by omega
      obtain ⟨M, hM'⟩ : ∃ M, (nm s.d).length = M := ⟨_, rfl⟩
      obtain ⟨gb, hgbe⟩ : ∃ g, wr.heap.size = g := ⟨_, rfl⟩
      rw [hgbe] at hBx2 hgb hS6 ⊢
      rw [hM'] at hS6 ⊢
      have hMle := nm_len s.d
      rw [hM'] at hMle
      have HMM := Lib.hid hM'
      clear hbox hB2 hA6 hgbe hM' h2 h3 h4 hO hM hB hsz
      go_wp2_with fail
      go_loopw [3, 18] (fun v i w3 => ∃ (j : Nat) (o : List Int) (A2 : Option Addr) (c2 : Nat), j ≤ M ∧ i = .int .i64 (j : Int) ∧ Hid (o = (((nm s.d).take j).map (fld s)).foldl add1 o0) ∧ o.length ≤ o0.length + j ∧ v = .slice A2 o.length c2 ∧ Ow w3 (w.heap.size + 1) 3 1 A2 o.length c2 (iv o) ∧ MB w3 w.heap.size o.length (fun x => decide (x ∈ o)) ∧ Sl w3 A6 M M (ptrs gb 0 (nm s.d)) ∧ (∀ ad : Addr, A6 = some ad → Tg w3 ad.block 49) ∧ Bx w3 gb s ∧ Below w.heap.size w w3 ∧ w.heap.size + 1 ≤ w3.heap.size) (fun _ i _ => M - (intOf i).toNat)
      case atStart => exact ⟨0, o0, A', c', Nat.zero_le _, rfl, rfl, Nat.le_refl _, rfl, hO2, hM2, hS6, hT6, hBx2, hB3, hsz2⟩
      case round =>
        clear hO2 hM2 hS6 hT6 hBx2 hB3 hsz2
        obtain ⟨j, o, A2, c2, hj, rfl, HO, hol, rfl, hO, hM, hS, hT6, hBx, hB, hsz⟩ := hrel
        by_cases hjl : j < M
        · have hji : j < (nm s.d).length := by rw [HMM.out]; exact hjl
          obtain ⟨i, hi⟩ : ∃ i, (nm s.d)[j]? = some i := ⟨_, List.getElem?_eq_getElem hji⟩
          obtain ⟨ad6, u, rfl, hu, hc6⟩ := hS.at_ hjl
          rw [ptrs_get gb _ j i hi] at hu
          obtain rfl := (Option.some.inj hu).symm
          have hx := hBx.at_ (nm_mem s.d i (List.mem_of_getElem? hi))
          have hxw := fld_wf hsw i
          have HOS : Hid ((((nm s.d).take (j + 1)).map (fld s)).foldl add1 o0 = add1 o (fld s i)) := Lib.hid (by
            rw [List.take_add_one, hi, Option.toList_some, List.map_append, List.foldl_append, ← HO.out]; rfl)
          obtain ⟨x, hxe⟩ : ∃ x, fld s i = x := ⟨_, rfl⟩
          rw [hxe] at hx hxw HOS
          have hlk := hM.look hxw
          clear hu hi hji hxe
          by_cases hin : x ∈ o
          · have HA : Hid (add1 o x = o) := if_pos hin
            rw [decide_eq_true hin] at hlk
            go_wp2_with fail
            go_roundw
            case rel => exact ⟨j + 1, o, A2, c2, by omega, by go_num, Lib.hid (by rw [HOS.out, HA.out]), by omega, rfl, hO, hM, hS, hT6, hBx, hB, hsz⟩
            case measure => simp [intOf]; omega
          · have HA : Hid (add1 o x = o ++ [x]) := if_neg hin
            rw [decide_eq_false hin] at hlk
            go_wp2_with (first
              | (at_mapUpdate; refine wpList_putB rfl _ _ _ rfl rfl hM (by unfold maxLen; omega) rfl rfl hxw ?_; intro w5 hM5 hG5; have hx5 := grown_cell hG5 (p := ⟨gb, i, none⟩) hgb hx)
              | (at_builtin; refine wpList_app (o := ⟨some 37, _, _, _, _, _⟩) E25 rfl rfl rfl ((hO.grown hG5 (Nat.lt_succ_self _)).alloc _) rfl (lies_new w5 _ 3) rfl (by simp [Value.oneCell']) (by unfold maxLen; omega) (by omega) (by have := hG5.size; simp; omega) ?_; intro A7 c7 w7 hO7 hG7 hB7))
            go_roundw
            case rel =>
              have hsz5 : w.heap.size + 1 ≤ w5.heap.size := by have := hG5.size; omega
              have hb5 : Below w.heap.size w w5 := hB.grown hG5 (by omega) (fun r e => by injection e with e; omega)
              have hb : Below w.heap.size w w7 := (hb5.alloc (by omega) _).trans (hB7.mono (by omega))
              have hsz7 : w.heap.size + 1 ≤ w7.heap.size := by have := hB7.size; simp at this; omega
              have hS5 := hS.grown hG5 hne6
              have hBx5 := hBx.grown hG5 hgb
              have hO5 := (hO.grown hG5 (Nat.lt_succ_self _)).alloc (.cells #[.int .i64 x] 3)
              have hT5 : ∀ ad : Addr, some ad6 = some ad → Tg w5 ad.block 49 := fun ad e => (hT6 ad e).grown hG5 (by intro q; injection q with q; exact hne6 ad e q)
              have e6 : ∀ ad : Addr, some ad6 = some ad → w7.heap[ad.block]? = w5.heap[ad.block]? := fun ad e =>
                (hG7.block _ ((hT5 ad e).alloc _).lt (((hT5 ad e).alloc _).ne_row hO5 (by decide))).trans (Below.heap_alloc w5 _ _ (hT5 ad e).lt)
              have eb : w7.heap[gb]? = w5.heap[gb]? :=
                (hG7.block _ (hBx5.2.2.alloc _).lt ((hBx5.2.2.alloc _).ne_row hO5 (by decide))).trans (Below.heap_alloc w5 _ _ hBx5.2.2.lt)
              refine ⟨j + 1, o ++ [x], A7, c7, by omega, by go_num, Lib.hid (by rw [HOS.out, HA.out]), by simp; omega, by simp, by rw [iv_snoc, List.length_append]; exact hO7, ?_, hS5.block e6, fun ad e => (hT5 ad e).block (e6 ad e), hBx5.block eb, hb, hsz7⟩
              rw [List.length_append]
              exact ((hM5.congr (g := fun y => decide (y ∈ o ++ [x])) (fun y => by
                by_cases e : y = x
                · simp [e]
                · simp [e])).alloc _).below hB7 (Nat.lt_succ_self _)
            case measure => simp [intOf]; omega
        · obtain rfl : j = M := by omega
          have hoe : addS o0 s = o := by rw [HO.out, List.take_of_length_le (by rw [HMM.out]; exact Nat.le_refl _)]; rfl
          have HA : Hid (actL (l.take (k + 1)) = o) := Lib.hid (by rw [HT.out, hoe])
          clear hoe
          go_wp2_with fail
          go_roundw
          case rel => exact ⟨k + 1, A2, c2, by omega, by go_num, by rw [HA.out], by rw [HA.out]; exact hO, by rw [HA.out]; exact hM, hB, hsz⟩
          case measure => simp [intOf]; omega
    · obtain rfl : k = n := by omega
      have HA : Hid (l.take k = l) := Lib.hid (by rw [← HL.out, List.take_length])
      rw [HA.out] at hO ⊢
      clear hM
      go_wp2_with fail
      go_ret
      exact ⟨A', c', rfl, hO.mono (by omega), hB⟩
end Go.Proofs.Ytejoiamdhjhjhaa
