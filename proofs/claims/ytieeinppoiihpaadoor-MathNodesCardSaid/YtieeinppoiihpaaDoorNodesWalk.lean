/- The walk of the law MathNodes. -/
import Derived.Test.YtieeinppoiihpaaDoorRef3
import Derived.Laws.EntriesVeiled
namespace Go.Proofs.YtieeinppoiihpaaDoor
open Go.RowKit

def Row6 (f g : FuncId) (x u e : Int) : Prop :=
  (∀ W, Tab W → Calls Tryd.prog f #[.int .i64 x] W fun r w' => r = .returned (.tuple #[.int .i64 u, .int .i64 e]) ∧ Below W.heap.size W w') ∧
  (∀ W, Calls Tryd.prog g #[.int .i64 x] W fun r w' => r = .returned (.tuple #[.int .i64 u, .int .i64 e]) ∧ W = w')
def Row6L (x a b e : Int) : Prop :=
  (∀ W, Tab W → Calls Tryd.prog 13 #[.int .i64 x] W fun r w' => r = .returned (.tuple #[.int .i64 a, .int .i64 b, .int .i64 e]) ∧ W = w') ∧
  (∀ W, Calls Tryd.prog 35 #[.int .i64 x] W fun r w' => r = .returned (.tuple #[.int .i64 a, .int .i64 b, .int .i64 e]) ∧ W = w')
def fnv (n : FuncId) : Value := .func (.func n) #[] #[]
def tbl : List Value := [fnv 27, fnv 28, fnv 20, fnv 29, fnv 17, fnv 30, fnv 18, fnv 31, fnv 19, fnv 32, fnv 33, fnv 34]
/-- the table of functions, in its block -/
def TB (g : Nat) (w : World) : Prop := ∀ (j : Nat) (v : Value), tbl[j]? = some v → w.cell? ⟨g, j, none⟩ = some v
theorem TB.lt {g : Nat} {w : World} (h : TB g w) : g < w.heap.size := World.block_lt_of_cell? w _ (h 0 _ rfl)
theorem TB.below {g : Nat} {w w' : World} (h : TB g w) (hb : Below w.heap.size w w') : TB g w' := fun j v hv => (hb.cell (p := ⟨g, j, none⟩) h.lt).trans (h j v hv)
theorem TB.alloc {g : Nat} {w : World} (h : TB g w) (o : Obj) : TB g (w.alloc o) := fun j v hv => (World.cell?_alloc_lt w o ⟨g, j, none⟩ h.lt).trans (h j v hv)
theorem tb_new (w : World) : TB w.heap.size (w.alloc (.cells tbl.toArray 36)) := by
  intro j v hv
  rcases lies_cells w tbl.toArray 36 with h | ⟨ad, h1, h2⟩
  · cases h
  · injection h1 with h1
    subst h1
    have := h2 j v hv
    rwa [add_mk, Nat.zero_add] at this

set_option maxRecDepth 100000 in
set_option maxHeartbeats 4000000 in
theorem nodesAll (x pu0 pe0 pu1 pe1 pu2 pe2 pu3 pe3 pu4 pe4 pu5 pe5 a b c : Int) (w : World) (H0 : Hid (Row6 27 28 x pu0 pe0)) (H1 : Hid (Row6 20 29 x pu1 pe1)) (H2 : Hid (Row6 17 30 x pu2 pe2)) (H3 : Hid (Row6 18 31 x pu3 pe3)) (H4 : Hid (Row6 19 32 x pu4 pe4)) (H5 : Hid (Row6 33 34 x pu5 pe5)) (HL : Hid (Row6L x a b c)) (hT : Tab w) :
    Calls Tryd.prog 6 #[.int .i64 x] w fun e w' => e = .returned (.bool true) ∧ Below w.heap.size w w' := by
  have ta : (a == a) = true := by simp
  have tb : (b == b) = true := by simp
  have tc : (c == c) = true := by simp
  go_enter Tryd.func6, Tryd.ntmps6
  go_wp2_with fail
  refine (lead w hT).mono ?_; rintro e w1 ⟨rfl, hB1⟩
  have T1 := hT.below' hB1
  go_wp2_with fail
  go_loopw [25] (fun i wr => ∃ z : Int, 0 ≤ z ∧ z ≤ 6 ∧ i = .int .i64 z ∧ TB w1.heap.size wr ∧ Below w1.heap.size w1 wr) (fun i _ => 6 - (intOf i).toNat)
  case atStart => exact ⟨0, by omega, by omega, rfl, tb_new w1, (Below.refl _ _).alloc (Nat.le_refl _) _⟩
  case round =>
    obtain ⟨z, z0, z6, rfl, hTB, hB⟩ := hrel
    have Tr := T1.below' hB
    have hz : z = 0 ∨ z = 1 ∨ z = 2 ∨ z = 3 ∨ z = 4 ∨ z = 5 ∨ z = 6 := by omega
    rcases hz with rfl | rfl | rfl | rfl | rfl | rfl | rfl
    · have q0 : wr.cell? ⟨w1.heap.size, 0, none⟩ = some (.func (.func 27) #[] #[]) := hTB 0 _ rfl
      have q1 : wr.cell? ⟨w1.heap.size, 1, none⟩ = some (.func (.func 28) #[] #[]) := hTB 1 _ rfl
      have tu : (pu0 != pu0) = false := by simp
      have te : (pe0 != pe0) = false := by simp
      clear z0 z6
      go_wp2_with fail
      refine (H0.out.1 _ (Tr.alloc _)).mono ?_; rintro e w2 ⟨rfl, hB2⟩
      have q2 : w2.cell? ⟨wr.heap.size, 1, none⟩ = some (.func (.func 28) #[] #[]) := (hB2.cell (p := ⟨wr.heap.size, 1, none⟩) (by simp)).trans (by simp)
      go_wp2_with fail
      refine (H0.out.2 _).mono ?_; rintro e w' ⟨rfl, rfl⟩
      have hTB2 := (hTB.alloc _).below hB2
      have hb := nx (nxa hB _) hB2
      clear q0 q1 hB2
      go_wp2_with fail
      go_roundw
      case rel => exact ⟨1, by omega, by omega, rfl, hTB2, hb⟩
      case measure => simp [intOf]
    · have q0 : wr.cell? ⟨w1.heap.size, 2, none⟩ = some (.func (.func 20) #[] #[]) := hTB 2 _ rfl
      have q1 : wr.cell? ⟨w1.heap.size, 3, none⟩ = some (.func (.func 29) #[] #[]) := hTB 3 _ rfl
      have tu : (pu1 != pu1) = false := by simp
      have te : (pe1 != pe1) = false := by simp
      clear z0 z6
      go_wp2_with fail
      refine (H1.out.1 _ (Tr.alloc _)).mono ?_; rintro e w2 ⟨rfl, hB2⟩
      have q2 : w2.cell? ⟨wr.heap.size, 1, none⟩ = some (.func (.func 29) #[] #[]) := (hB2.cell (p := ⟨wr.heap.size, 1, none⟩) (by simp)).trans (by simp)
      go_wp2_with fail
      refine (H1.out.2 _).mono ?_; rintro e w' ⟨rfl, rfl⟩
      have hTB2 := (hTB.alloc _).below hB2
      have hb := nx (nxa hB _) hB2
      clear q0 q1 hB2
      go_wp2_with fail
      go_roundw
      case rel => exact ⟨2, by omega, by omega, rfl, hTB2, hb⟩
      case measure => simp [intOf]
    · have q0 : wr.cell? ⟨w1.heap.size, 4, none⟩ = some (.func (.func 17) #[] #[]) := hTB 4 _ rfl
      have q1 : wr.cell? ⟨w1.heap.size, 5, none⟩ = some (.func (.func 30) #[] #[]) := hTB 5 _ rfl
      have tu : (pu2 != pu2) = false := by simp
      have te : (pe2 != pe2) = false := by simp
      clear z0 z6
      go_wp2_with fail
      refine (H2.out.1 _ (Tr.alloc _)).mono ?_; rintro e w2 ⟨rfl, hB2⟩
      have q2 : w2.cell? ⟨wr.heap.size, 1, none⟩ = some (.func (.func 30) #[] #[]) := (hB2.cell (p := ⟨wr.heap.size, 1, none⟩) (by simp)).trans (by simp)
      go_wp2_with fail
      refine (H2.out.2 _).mono ?_; rintro e w' ⟨rfl, rfl⟩
      have hTB2 := (hTB.alloc _).below hB2
      have hb := nx (nxa hB _) hB2
      clear q0 q1 hB2
      go_wp2_with fail
      go_roundw
      case rel => exact ⟨3, by omega, by omega, rfl, hTB2, hb⟩
      case measure => simp [intOf]
    · have q0 : wr.cell? ⟨w1.heap.size, 6, none⟩ = some (.func (.func 18) #[] #[]) := hTB 6 _ rfl
      have q1 : wr.cell? ⟨w1.heap.size, 7, none⟩ = some (.func (.func 31) #[] #[]) := hTB 7 _ rfl
      have tu : (pu3 != pu3) = false := by simp
      have te : (pe3 != pe3) = false := by simp
      clear z0 z6
      go_wp2_with fail
      refine (H3.out.1 _ (Tr.alloc _)).mono ?_; rintro e w2 ⟨rfl, hB2⟩
      have q2 : w2.cell? ⟨wr.heap.size, 1, none⟩ = some (.func (.func 31) #[] #[]) := (hB2.cell (p := ⟨wr.heap.size, 1, none⟩) (by simp)).trans (by simp)
      go_wp2_with fail
      refine (H3.out.2 _).mono ?_; rintro e w' ⟨rfl, rfl⟩
      have hTB2 := (hTB.alloc _).below hB2
      have hb := nx (nxa hB _) hB2
      clear q0 q1 hB2
      go_wp2_with fail
      go_roundw
      case rel => exact ⟨4, by omega, by omega, rfl, hTB2, hb⟩
      case measure => simp [intOf]
    · have q0 : wr.cell? ⟨w1.heap.size, 8, none⟩ = some (.func (.func 19) #[] #[]) := hTB 8 _ rfl
      have q1 : wr.cell? ⟨w1.heap.size, 9, none⟩ = some (.func (.func 32) #[] #[]) := hTB 9 _ rfl
      have tu : (pu4 != pu4) = false := by simp
      have te : (pe4 != pe4) = false := by simp
      clear z0 z6
      go_wp2_with fail
      refine (H4.out.1 _ (Tr.alloc _)).mono ?_; rintro e w2 ⟨rfl, hB2⟩
      have q2 : w2.cell? ⟨wr.heap.size, 1, none⟩ = some (.func (.func 32) #[] #[]) := (hB2.cell (p := ⟨wr.heap.size, 1, none⟩) (by simp)).trans (by simp)
      go_wp2_with fail
      refine (H4.out.2 _).mono ?_; rintro e w' ⟨rfl, rfl⟩
      have hTB2 := (hTB.alloc _).below hB2
      have hb := nx (nxa hB _) hB2
      clear q0 q1 hB2
      go_wp2_with fail
      go_roundw
      case rel => exact ⟨5, by omega, by omega, rfl, hTB2, hb⟩
      case measure => simp [intOf]
    · have q0 : wr.cell? ⟨w1.heap.size, 10, none⟩ = some (.func (.func 33) #[] #[]) := hTB 10 _ rfl
      have q1 : wr.cell? ⟨w1.heap.size, 11, none⟩ = some (.func (.func 34) #[] #[]) := hTB 11 _ rfl
      have tu : (pu5 != pu5) = false := by simp
      have te : (pe5 != pe5) = false := by simp
      clear z0 z6
      go_wp2_with fail
      refine (H5.out.1 _ (Tr.alloc _)).mono ?_; rintro e w2 ⟨rfl, hB2⟩
      have q2 : w2.cell? ⟨wr.heap.size, 1, none⟩ = some (.func (.func 34) #[] #[]) := (hB2.cell (p := ⟨wr.heap.size, 1, none⟩) (by simp)).trans (by simp)
      go_wp2_with fail
      refine (H5.out.2 _).mono ?_; rintro e w' ⟨rfl, rfl⟩
      have hTB2 := (hTB.alloc _).below hB2
      have hb := nx (nxa hB _) hB2
      clear q0 q1 hB2
      go_wp2_with fail
      go_roundw
      case rel => exact ⟨6, by omega, by omega, rfl, hTB2, hb⟩
      case measure => simp [intOf]
    · clear z0 z6
      go_wp2_with fail
      refine (HL.out.1 _ Tr).mono ?_; rintro e w' ⟨rfl, rfl⟩
      go_wp2_with fail
      refine (HL.out.2 _).mono ?_; rintro e w' ⟨rfl, rfl⟩
      go_wp2_with fail
      go_ret
      exact ⟨rfl, nx hB1 hB⟩
theorem nodesWalk (x : Int) (w : World) (_ : -9223372036854775808 ≤ x ∧ x ≤ 9223372036854775807) (hT : Tab w) :
    Calls Tryd.prog 6 #[.int .i64 x] w fun e w' => e = .returned (.bool true) ∧ Below w.heap.size w w' := by
  have h01 : ∃ u0 u1 e, Row6 27 28 x u0 e ∧ Row6 20 29 x u1 e := by
    by_cases h : x < 1 ∨ 256 < x ∨ x.toNat ∉ sizes
    · have h' : x < 0 ∨ x.toNat ∉ sizes := by
        rcases h with h | h | h
        · rcases Int.lt_or_le x 0 with h0 | h0
          · exact .inl h0
          · refine .inr fun hs => ?_
            have := size_le hs; omega
        · refine .inr fun hs => ?_
          have := size_le hs; omega
        · exact .inr h
      exact ⟨0, 0, 1, ⟨fun W _ => width_no x W h, fun W => rwidth_no x W h'⟩, ⟨fun W _ => root_no x W h, fun W => rroot_no x W h'⟩⟩
    · have hs : x.toNat ∈ sizes := Classical.byContradiction fun h2 => h (.inr (.inr h2))
      obtain ⟨n, rfl⟩ : ∃ n : Nat, x = n := ⟨x.toNat, by omega⟩
      rw [Int.toNat_natCast] at hs
      exact ⟨_, _, 0, ⟨fun W _ => width_ok n W hs, fun W => rwidth_ok n W hs⟩, ⟨fun W _ => root_ok n W hs, fun W => rroot_ok n W hs⟩⟩
  have h2 : ∃ u a b e, Row6 17 30 x u e ∧ Row6L x a b e := by
    by_cases h : x < 0 ∨ 510 < x
    · exact ⟨0, 0, 0, 1, ⟨fun W _ => lvl_no x W h, fun W => rlev_no x W h⟩, ⟨fun W _ => leaves_no x W h, fun W => rleaves_no x W h⟩⟩
    · obtain ⟨n, rfl⟩ : ∃ n : Nat, x = n := ⟨x.toNat, by omega⟩
      have hn : n < 511 := by omega
      exact ⟨_, _, _, 0, ⟨fun W hW => lvl_ok n W hn hW, fun W => rlev_ok n W hn⟩, ⟨fun W hW => leaves_ok n W hn hW, fun W => rleaves_ok n W hn⟩⟩
  have h34 : ∃ u0 u1 e, Row6 18 31 x u0 e ∧ Row6 19 32 x u1 e := by
    by_cases h : x < 0 ∨ 510 < x ∨ (0 ≤ x ∧ x ≤ 510 ∧ x % 2 = 0)
    · exact ⟨0, 0, 1, ⟨fun W _ => left_no x W h, fun W => rleft_no x W h⟩, ⟨fun W _ => right_no x W h, fun W => rright_no x W h⟩⟩
    · obtain ⟨n, rfl⟩ : ∃ n : Nat, x = n := ⟨x.toNat, by omega⟩
      have hn : n < 511 := by omega
      have ho : n % 2 = 1 := by omega
      exact ⟨_, _, 0, ⟨fun W hW => left_ok n W hn ho hW, fun W => rleft_ok n W hn ho⟩, ⟨fun W hW => right_ok n W hn ho hW, fun W => rright_ok n W hn ho⟩⟩
  have h5 : ∃ u e, Row6 33 34 x u e := by
    by_cases h : x < 1 ∨ 256 < x
    · exact ⟨0, 1, fun W _ => size_no x W h, fun W => rsize_no x W h⟩
    · obtain ⟨n, rfl⟩ : ∃ n : Nat, x = n := ⟨x.toNat, by omega⟩
      exact ⟨_, 0, fun W _ => size_ok n W (by omega) (by omega), fun W => rsize_ok n W (by omega) (by omega)⟩
  obtain ⟨u0, u1, e0, a0, a1⟩ := h01
  obtain ⟨u2, a, b, e2, a2, aL⟩ := h2
  obtain ⟨u3, u4, e3, a3, a4⟩ := h34
  obtain ⟨u5, e5, a5⟩ := h5
  exact nodesAll x u0 e0 u1 e0 u2 e2 u3 e3 u4 e3 u5 e5 a b e2 w (Lib.hid a0) (Lib.hid a1) (Lib.hid a2) (Lib.hid a3) (Lib.hid a4) (Lib.hid a5) (Lib.hid aL) hT
end Go.Proofs.YtieeinppoiihpaaDoor
