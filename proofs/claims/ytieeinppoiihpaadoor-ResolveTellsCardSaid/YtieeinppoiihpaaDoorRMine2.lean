/- The walk of resolve.Mine. -/
import Derived.Test.YtieeinppoiihpaaDoorRRes
namespace Go.Proofs.YtieeinppoiihpaaDoor
open Go.RowKit

theorem res_inN {t : List TN} {x : Nat} (h : HasT t (x : Int)) : ∀ y ∈ resN t x, InRes t x y := by
  have hi := h.ins
  rw [Int.toNat_natCast] at hi
  exact res_in h.1 (lev x) x hi rfl
theorem mine_no (A : Option Addr) (n c : Nat) (t : List TN) (i x : Int) (w : World) (h : Ts w A n c t) (hn : n ≤ 1000) (hwf : Hid (∀ s ∈ t, TWf s)) (hu : Hid (∀ s ∈ t, s.un.length ≤ 1000)) (hT : Tab w) (hno : ¬ (HasL t i ∧ HasT t x)) :
    Calls Tryd.prog 43 #[.slice A n c, .int .i64 i, .int .i64 x] w fun e w' => e = .returned (.tuple #[.int .i64 0, .int .i64 1]) ∧ Below w.heap.size w w' := by
  have hB0 : Below w.heap.size w ((w.alloc (.cells #[.slice A n c] 39)).alloc (.cells #[.int .i64 i] 3)) := ((Below.refl _ w).alloc (Nat.le_refl _) _).alloc (by simp) _
  have h2 := (h.alloc (.cells #[.slice A n c] 39)).alloc (.cells #[.int .i64 i] 3)
  have hT2 := (hT.alloc (.cells #[.slice A n c] 39)).alloc (.cells #[.int .i64 i] 3)
  have hc1 : ((w.alloc (.cells #[.slice A n c] 39)).alloc (.cells #[.int .i64 i] 3)).cell? ⟨w.heap.size, 0, none⟩ = some (.slice A n c) := by simp
  have hd1 : ((w.alloc (.cells #[.slice A n c] 39)).alloc (.cells #[.int .i64 i] 3)).cell? ⟨w.heap.size + 1, 0, none⟩ = some (.int .i64 i) := by simp
  have hs1 : w.heap.size < ((w.alloc (.cells #[.slice A n c] 39)).alloc (.cells #[.int .i64 i] 3)).heap.size := by simp; omega
  obtain ⟨w0, hw0⟩ : ∃ w0, (w.alloc (.cells #[.slice A n c] 39)).alloc (.cells #[.int .i64 i] 3) = w0 := ⟨_, rfl⟩
  obtain ⟨g, hg⟩ : ∃ g, w.heap.size = g := ⟨_, rfl⟩
  by_cases hl : HasL t i
  · have H := Lib.hid (fun W hW hT => leaf_bool A n c t i W hW hn hwf hu hT true (by simp [hl]))
    have H2 := Lib.hid (fun W hW hT => node_bool A n c t x W hW hn hwf hu hT false (by simp; exact fun q => hno ⟨hl, q⟩))
    clear hwf hu hno hl h hT
    rw [hw0] at h2 hT2 hB0 hc1 hd1 hs1
    rw [hg] at hB0 hc1 hd1 hs1
    go_enter Tryd.func43, Tryd.ntmps43
    go_wp2_with fail
    refine (H.out w0 h2 hT2).mono ?_; rintro e w1 ⟨rfl, hB⟩
    have hc2 := (hB.cell (p := ⟨g, 0, none⟩) hs1).trans hc1
    have h3 := h2.below hB
    have hT3 := hT2.below' hB
    go_wp2_with (go_at_call 71; refine (H2.out _ h3 hT3).mono ?_; rintro e w2 ⟨rfl, hB2⟩)
    go_ret2
    exact ⟨rfl, by rw [hg]; exact hB0.trans ((hB.trans (hB2.mono hB.size)).mono (by omega))⟩
  · have H := Lib.hid (fun W hW hT => leaf_bool A n c t i W hW hn hwf hu hT false (by simp [hl]))
    clear hwf hu hno hl h hT
    rw [hw0] at h2 hT2 hB0 hc1 hd1 hs1
    rw [hg] at hB0 hc1 hd1 hs1
    go_enter Tryd.func43, Tryd.ntmps43
    go_wp2_with fail
    refine (H.out w0 h2 hT2).mono ?_; rintro e w1 ⟨rfl, hB⟩
    go_wp2_with fail
    go_ret2
    exact ⟨rfl, by rw [hg]; exact hB0.trans (hB.mono (by omega))⟩
/-- what Mine answers -/
def MineP (t : List TN) (i x : Nat) (w : World) (e : Ending) (w' : World) : Prop :=
  ∃ (y : Int) (r : Int), e = .returned (.tuple #[.int .i64 y, .int .i64 r]) ∧ ((r = 0 ∧ y ∈ resN t x ∧ HoldT t i y.toNat) ∨ (r = 4 ∧ y = 0 ∧ ∀ y ∈ resN t x, ¬ HoldT t i y.toNat)) ∧ Below w.heap.size w w'
set_option maxRecDepth 100000 in
set_option maxHeartbeats 4000000 in
theorem mine_yes (A : Option Addr) (n c : Nat) (t : List TN) (i x : Nat) (w : World) (h : Ts w A n c t) (hn : n ≤ 1000) (hwf : Hid (∀ s ∈ t, TWf s)) (hu : Hid (∀ s ∈ t, s.un.length ≤ 1000)) (hT : Tab w) (hl : HasL t (i : Int)) (hx : HasT t (x : Int)) :
    Calls Tryd.prog 43 #[.slice A n c, .int .i64 (i : Int), .int .i64 (x : Int)] w (MineP t i x w) := by
  have hmf : ∀ (fn : Fn) (first cap : Array Value) (w : World), (Instr.makeFunc fn first cap).run Tryd.prog w = .ok (.func fn first cap) w := fun _ _ _ _ => rfl
  have hB0 : Below w.heap.size w ((w.alloc (.cells #[.slice A n c] 39)).alloc (.cells #[.int .i64 (i : Int)] 3)) := ((Below.refl _ w).alloc (Nat.le_refl _) _).alloc (by simp) _
  have h2 := (h.alloc (.cells #[.slice A n c] 39)).alloc (.cells #[.int .i64 (i : Int)] 3)
  have hT2 := (hT.alloc (.cells #[.slice A n c] 39)).alloc (.cells #[.int .i64 (i : Int)] 3)
  have hc1 : ((w.alloc (.cells #[.slice A n c] 39)).alloc (.cells #[.int .i64 (i : Int)] 3)).cell? ⟨w.heap.size, 0, none⟩ = some (.slice A n c) := by simp
  have hd1 : ((w.alloc (.cells #[.slice A n c] 39)).alloc (.cells #[.int .i64 (i : Int)] 3)).cell? ⟨w.heap.size + 1, 0, none⟩ = some (.int .i64 (i : Int)) := by simp
  have hs1 : ((w.alloc (.cells #[.slice A n c] 39)).alloc (.cells #[.int .i64 (i : Int)] 3)).heap.size = w.heap.size + 2 := by simp
  obtain ⟨w0, hw0⟩ : ∃ w0, (w.alloc (.cells #[.slice A n c] 39)).alloc (.cells #[.int .i64 (i : Int)] 3) = w0 := ⟨_, rfl⟩
  obtain ⟨g, hg⟩ : ∃ g, w.heap.size = g := ⟨_, rfl⟩
  have hsm := hx.small
  have hlen := h.len
  have h511 : n ≤ 511 := by omega
  have hins := hx.ins
  rw [Int.toNat_natCast] at hins
  have h8 := lev_le hins.lt
  have hp : 2 ^ lev x ≤ 2 ^ 8 := Nat.pow_le_pow_right (by omega) h8
  have hi2 : 2 * i < n := by have := hl.2.2; rw [hlen] at this; omega
  have H := Lib.hid (fun W hW hT => leaf_bool A n c t i W hW hn hwf hu hT true (by simp [hl]))
  have H2 := Lib.hid (fun W hW hT => node_bool A n c t x W hW hn hwf hu hT true (by simp [hx]))
  have H3 := Lib.hid (fun W hW hT => walk_ok A n c t W hW h511 (Lib.hid hx.1) hu hT (lev x) x [] none 0 W rfl hins (Below.refl _ _) (Ow.nil _ _ _ _) (by simp only [List.length_nil]; omega))
  rw [List.nil_append] at H3
  have HIN := Lib.hid (res_inN hx)
  have HR : Hid (resL t (lev x) x = resN t x) := Lib.hid rfl
  obtain ⟨r, hr⟩ : ∃ r, resL t (lev x) x = r := ⟨_, rfl⟩
  rw [hr] at HR H3
  have H5 : Hid (∀ W, Below w0.heap.size w0 W → Ts w0 A n c t → Tab w0 → ∀ y ∈ r, Calls Tryd.prog 76 (#[.int .i64 y] ++ #[.pointer (some ⟨g, 0, none⟩), .pointer (some ⟨g + 1, 0, none⟩)]) W fun e w' => e = .returned (.bool (decide (HoldT t i y.toNat))) ∧ W = w') := Lib.hid (fun W hW hts htab y hy => by
    obtain ⟨z, rfl, z1, _, _⟩ := HIN.out y (by rw [← HR.out]; exact hy)
    rw [Int.toNat_natCast]
    exact min_ok g t A n c i z W (by rw [← hw0] at hW; rw [← hg]; exact (hW.cell (p := ⟨w.heap.size, 0, none⟩) (by rw [hs1]; show w.heap.size < _; omega)).trans hc1) (by rw [← hw0] at hW; rw [← hg]; exact (hW.cell (p := ⟨w.heap.size + 1, 0, none⟩) (by rw [hs1]; show w.heap.size + 1 < _; omega)).trans hd1) (hts.below hW) h511 hi2 (by omega) (htab.below' hW))
  clear hwf hu hl hx h hT hins h8 hp hr hsm
  rw [hw0] at h2 hT2 hB0 hc1 hd1 hs1
  rw [hg] at hB0 hc1 hd1 hs1
  unfold MineP
  rw [hg]
  rw [← HR.out]
  obtain ⟨P, hP⟩ : ∃ P : Int → Prop, (fun y => HoldT t i y.toNat) = P := ⟨_, rfl⟩
  have hg1 : g < w0.heap.size := by omega
  go_enter Tryd.func43, Tryd.ntmps43
  go_wp2_with fail
  refine (H.out w0 h2 hT2).mono ?_; rintro e w1 ⟨rfl, hB1⟩
  have hc2 := (hB1.cell (p := ⟨g, 0, none⟩) hg1).trans hc1
  have h3 := h2.below hB1
  have hT3 := hT2.below' hB1
  go_wp2_with (go_at_call 71; refine (H2.out _ h3 hT3).mono ?_; rintro e w2 ⟨rfl, hB2⟩; have hB12 := hB1.trans (hB2.mono hB1.size); have hc3 := (hB12.cell (p := ⟨g, 0, none⟩) hg1).trans hc1)
  refine (H3.out w2 (h2.below hB12) (hT2.below' hB12)).mono ?_; rintro e w3 ⟨B, d, rfl, hO, hB3⟩
  have hB13 := hB12.trans (hB3.mono hB12.size)
  have H6 := Lib.hid (idxf_ok 76 #[.pointer (some ⟨g, 0, none⟩), .pointer (some ⟨g + 1, 0, none⟩)] (fun y => decide (HoldT t i y.toNat)) B r.length d r w3 hO.sl cf76 (Lib.hid (H5.out w3 hB13 h2 hT2)))
  go_wp2_with fail
  refine H6.out.mono ?_; rintro e w4 ⟨z, rfl, hz, rfl⟩
  have hBf : Below g w w3 := hB0.trans (hB13.mono (by omega))
  rcases hz with ⟨rfl, hall⟩ | ⟨k, y, rfl, hky, hpy, _⟩
  · have HA : Hid (∀ y ∈ r, ¬ HoldT t i y.toNat) := Lib.hid (fun y hy => by simpa using hall y hy)
    clear hall
    go_wp2_with fail
    go_ret2
    exact ⟨_, _, rfl, .inr ⟨rfl, rfl, HA.out⟩, hBf⟩
  · have hkl := (List.getElem?_eq_some_iff.1 hky).1
    obtain ⟨au, hlu, rfl, hcu⟩ := hO.sl.int hkl
    have hyy : r[k]'hlu = y := by rw [List.getElem?_eq_getElem hlu] at hky; exact Option.some.inj hky
    rw [hyy] at hcu
    have i1 : (k : Int) < (r.length : Int) := by omega
    have t1 : decide ((k : Int) < 0) = false := decide_eq_false (by omega)
    have HY : Hid (y ∈ r ∧ HoldT t i y.toNat) := Lib.hid ⟨List.mem_of_getElem? hky, by simpa using hpy⟩
    clear hyy hky hpy
    go_wp2_with fail
    go_ret2
    exact ⟨_, _, rfl, .inl ⟨rfl, HY.out.1, HY.out.2⟩, hBf⟩
end Go.Proofs.YtieeinppoiihpaaDoor
