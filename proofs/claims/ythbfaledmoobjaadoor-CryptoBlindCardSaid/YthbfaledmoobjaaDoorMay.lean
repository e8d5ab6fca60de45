/- The walk of may. -/
import Derived.Test.YthbfaledmoobjaaDoorKnown
import Derived.Deep.QuietTactic
import Derived.BigQuiet
namespace Go.Proofs.YthbfaledmoobjaaDoor
open Go.RowKit

theorem empty_iff (s : ByteArray) : s.toList.isEmpty = true ↔ s = ⟨#[]⟩ := by
  rw [ByteArray.toList_eq, List.isEmpty_iff]
  constructor
  · intro h
    apply ByteArray.ext
    apply Array.ext'
    simpa using h
  · rintro rfl; rfl
def MayP (ns : List NN) (x : NN) (w : World) (e : Ending) (w' : World) : Prop := ∃ b, e = .returned (.bool b) ∧ (b = true ↔ May ns x) ∧ Below w.heap.size w w'
set_option maxRecDepth 100000 in
set_option maxHeartbeats 8000000 in
theorem may_ok (base b : Nat) (ns : List NN) (x : NN) (A : Option Addr) (m d : Nat) (w : World) (h : AR w base b ns) (hl : Sl w A m d (iv x.l)) :
    Calls Tryd.prog 38 #[.pointer (some ⟨b, 0, none⟩), .agg #[.int .i64 x.op, .int .i64 x.n, .string x.s, .slice A m d]] w (MayP ns x w) := by
  have HM : Hid (x.l.length = m) := Lib.hid (by have := hl.len; rwa [iv_length] at this)
  have hL0 : m ≤ 9223372036854775807 := by have h1 := hl.top; have h2 := hl.cap; unfold maxLen at h1; omega
  obtain ⟨op, hop⟩ : ∃ op, x.op = op := ⟨_, rfl⟩
  have HOP := Lib.hid hop
  rw [hop]
  obtain ⟨W, hW⟩ : ∃ W, (w.alloc (.cells #[.pointer (some ⟨b, 0, none⟩)] 25)).alloc (.cells #[.int .i64 op, .int .i64 x.n, .string x.s, .slice A m d] 56) = W := ⟨_, rfl⟩
  have HWE := Lib.hid hW
  have hB0 : Below w.heap.size w W := by rw [← hW]; exact ((Below.refl _ w).alloc (Nat.le_refl _) _).alloc (by simp) _
  have hp : W.cell? ⟨w.heap.size, 0, none⟩ = some (.pointer (some ⟨b, 0, none⟩)) := by rw [← hW]; simp
  have hc0 : W.cell? ⟨w.heap.size + 1, 0, none⟩ = some (.int .i64 op) := by rw [← hW]; simp
  have hc1 : W.cell? ⟨w.heap.size + 1, 1, none⟩ = some (.int .i64 x.n) := by rw [← hW]; simp
  have hc2 : W.cell? ⟨w.heap.size + 1, 2, none⟩ = some (.string x.s) := by rw [← hW]; simp
  have hc3 : W.cell? ⟨w.heap.size + 1, 3, none⟩ = some (.slice A m d) := by rw [← hW]; simp
  have hAR : Hid (AR W base b ns) := Lib.hid (h.below hB0)
  have hSL : Hid (Sl W A m d (iv x.l)) := Lib.hid (hl.below hB0)
  have HA := Lib.hid (arity_ok op W)
  obtain ⟨k, hk⟩ : ∃ k, arF op = k := ⟨_, rfl⟩
  rw [hk] at HA
  have HK := Lib.hid hk
  clear hW h hl hop hk
  by_cases h1 : k = -2
  · have HR : Hid (¬ May ns x) := Lib.hid (fun q => q.kind (by rw [HOP.out, HK.out, h1]))
    have t1 : (k == -2) = true := by rw [beq_iff_eq]; exact h1
    clear h1
    go_enter Tryd.func38, Tryd.ntmps38
    go_wp2_with (go_at_call 42; rw [HWE.out]; refine HA.out.mono ?_; rintro e w1 ⟨rfl, hB1⟩)
    go_ret
    exact ⟨false, rfl, by simp [HR.out], hB0.trans (hB1.mono hB0.size)⟩
  have t1 : (k == -2) = false := by rw [beq_eq_false_iff_ne]; exact h1
  by_cases h2 : 0 ≤ k ∧ (m : Int) ≠ k
  · have HR : Hid (¬ May ns x) := Lib.hid (fun q => h2.2 (by have := q.parts (by rw [HOP.out, HK.out]; exact h2.1); rw [HOP.out, HK.out, HM.out] at this; exact this))
    have t2 : decide (0 ≤ k) = true := decide_eq_true h2.1
    have t3 : ((m : Int) != k) = true := by rw [bne_iff_ne]; exact h2.2
    clear h1 h2
    go_enter Tryd.func38, Tryd.ntmps38
    go_wp2_with (go_at_call 42; rw [HWE.out]; refine HA.out.mono ?_; rintro e w1 ⟨rfl, hB1⟩; have e3 := (hB1.cell (World.block_lt_of_cell? _ _ hc3)).trans hc3)
    go_ret
    exact ⟨false, rfl, by simp [HR.out], hB0.trans (hB1.mono hB0.size)⟩
  have HPART : Hid (0 ≤ k → (m : Int) = k) := Lib.hid (fun q => Classical.byContradiction fun r => h2 ⟨q, r⟩)
  have HNK := Lib.hid h1
  have tt : (decide (0 ≤ k) = false ∧ True) ∨ (decide (0 ≤ k) = true ∧ ((m : Int) != k) = false) := by
    by_cases q : 0 ≤ k
    · exact .inr ⟨decide_eq_true q, by rw [bne_eq_false_iff_eq]; exact HPART.out q⟩
    · exact .inl ⟨decide_eq_false q, trivial⟩
  clear h1 h2
  rcases tt with ⟨t2, t3⟩ | ⟨t2, t3⟩
  all_goals
    by_cases h3 : 64 < m
    · have HR : Hid (¬ May ns x) := Lib.hid (fun q => by have := q.few; rw [HM.out] at this; omega)
      have t4 : decide ((64 : Int) < (m : Int)) = true := decide_eq_true (by omega)
      have t4' : decide (64 < m) = true := decide_eq_true h3
      clear h3
      go_enter Tryd.func38, Tryd.ntmps38
      go_wp2_with (go_at_call 42; rw [HWE.out]; refine HA.out.mono ?_; rintro e w1 ⟨rfl, hB1⟩; have e3 := (hB1.cell (World.block_lt_of_cell? _ _ hc3)).trans hc3)
      go_ret
      exact ⟨false, rfl, by simp [HR.out], hB0.trans (hB1.mono hB0.size)⟩
    have t4 : decide ((64 : Int) < (m : Int)) = false := decide_eq_false (by omega)
    have t4' : decide (64 < m) = false := decide_eq_false h3
    by_cases h5 : x.n < 0
    · have HR : Hid (¬ May ns x) := Lib.hid (fun q => by have := q.num; omega)
      have t5 : decide (x.n < 0) = true := decide_eq_true h5
      clear h3 h5
      go_enter Tryd.func38, Tryd.ntmps38
      go_wp2_with (go_at_call 42; rw [HWE.out]; refine HA.out.mono ?_; rintro e w1 ⟨rfl, hB1⟩; have e3 := (hB1.cell (World.block_lt_of_cell? _ _ hc3)).trans hc3; have e1 := (hB1.cell (World.block_lt_of_cell? _ _ hc1)).trans hc1)
      go_ret
      exact ⟨false, rfl, by simp [HR.out], hB0.trans (hB1.mono hB0.size)⟩
    have t5 : decide (x.n < 0) = false := decide_eq_false h5
    by_cases h6 : 200 < x.s.size
    · have HR : Hid (¬ May ns x) := Lib.hid (fun q => by have := q.short; omega)
      have t6 : decide ((200 : Int) < (x.s.size : Int)) = true := decide_eq_true (by omega)
      have t6' : decide (200 < x.s.size) = true := decide_eq_true h6
      clear h3 h5 h6
      go_enter Tryd.func38, Tryd.ntmps38
      go_wp2_with (go_at_call 42; rw [HWE.out]; refine HA.out.mono ?_; rintro e w1 ⟨rfl, hB1⟩; have e3 := (hB1.cell (World.block_lt_of_cell? _ _ hc3)).trans hc3; have e1 := (hB1.cell (World.block_lt_of_cell? _ _ hc1)).trans hc1; have e2 := (hB1.cell (World.block_lt_of_cell? _ _ hc2)).trans hc2)
      go_ret
      exact ⟨false, rfl, by simp [HR.out], hB0.trans (hB1.mono hB0.size)⟩
    have t6 : decide ((200 : Int) < (x.s.size : Int)) = false := decide_eq_false (by omega)
    have t6' : decide (200 < x.s.size) = false := decide_eq_false h6
    by_cases h7 : op ≠ 1 ∧ x.n ≠ 0
    · have HR : Hid (¬ May ns x) := Lib.hid (fun q => h7.2 (q.atom (by rw [HOP.out]; exact h7.1)))
      have t7 : (op != 1) = true := by rw [bne_iff_ne]; exact h7.1
      have t8 : (x.n != 0) = true := by rw [bne_iff_ne]; exact h7.2
      clear h3 h5 h6 h7
      go_enter Tryd.func38, Tryd.ntmps38
      go_wp2_with (go_at_call 42; rw [HWE.out]; refine HA.out.mono ?_; rintro e w1 ⟨rfl, hB1⟩; have e3 := (hB1.cell (World.block_lt_of_cell? _ _ hc3)).trans hc3; have e1 := (hB1.cell (World.block_lt_of_cell? _ _ hc1)).trans hc1; have e2 := (hB1.cell (World.block_lt_of_cell? _ _ hc2)).trans hc2; have e0 := (hB1.cell (World.block_lt_of_cell? _ _ hc0)).trans hc0)
      go_ret
      exact ⟨false, rfl, by simp [HR.out], hB0.trans (hB1.mono hB0.size)⟩
    by_cases h8 : op ≠ 2 ∧ x.s ≠ ⟨#[]⟩
    · have HR : Hid (¬ May ns x) := Lib.hid (fun q => h8.2 (q.text (by rw [HOP.out]; exact h8.1)))
      have t9 : (op != 2) = true := by rw [bne_iff_ne]; exact h8.1
      have tt2 : ((op != 1) = false ∧ True) ∨ ((op != 1) = true ∧ (x.n != 0) = false) := by
        by_cases q : op = 1
        · exact .inl ⟨by rw [bne_eq_false_iff_eq]; exact q, trivial⟩
        · exact .inr ⟨by rw [bne_iff_ne]; exact q, by rw [bne_eq_false_iff_eq]; exact Classical.byContradiction fun r => h7 ⟨q, r⟩⟩
      have t10 : x.s.toList.isEmpty = false := by
        cases q : x.s.toList.isEmpty
        · rfl
        · exact absurd ((empty_iff _).1 q) h8.2
      clear h3 h5 h6 h7 h8
      rcases tt2 with ⟨t7, t8⟩ | ⟨t7, t8⟩
      all_goals
        go_enter Tryd.func38, Tryd.ntmps38
        go_wp2_with (go_at_call 42; rw [HWE.out]; refine HA.out.mono ?_; rintro e w1 ⟨rfl, hB1⟩; have e3 := (hB1.cell (World.block_lt_of_cell? _ _ hc3)).trans hc3; have e1 := (hB1.cell (World.block_lt_of_cell? _ _ hc1)).trans hc1; have e2 := (hB1.cell (World.block_lt_of_cell? _ _ hc2)).trans hc2; have e0 := (hB1.cell (World.block_lt_of_cell? _ _ hc0)).trans hc0)
        go_ret
        exact ⟨false, rfl, by simp [HR.out], hB0.trans (hB1.mono hB0.size)⟩
    have HATOM : Hid (op ≠ 1 → x.n = 0) := Lib.hid (fun q => Classical.byContradiction fun r => h7 ⟨q, r⟩)
    have HTEXT : Hid (op ≠ 2 → x.s = ⟨#[]⟩) := Lib.hid (fun q => Classical.byContradiction fun r => h8 ⟨q, r⟩)
    have tt2 : ((op != 1) = false ∧ True) ∨ ((op != 1) = true ∧ (x.n != 0) = false) := by
      by_cases q : op = 1
      · exact .inl ⟨by rw [bne_eq_false_iff_eq]; exact q, trivial⟩
      · exact .inr ⟨by rw [bne_iff_ne]; exact q, by rw [bne_eq_false_iff_eq]; exact HATOM.out q⟩
    have tt3 : ((op != 2) = false ∧ True) ∨ ((op != 2) = true ∧ x.s.toList.isEmpty = true) := by
      by_cases q : op = 2
      · exact .inl ⟨by rw [bne_eq_false_iff_eq]; exact q, trivial⟩
      · exact .inr ⟨by rw [bne_iff_ne]; exact q, (empty_iff _).2 (HTEXT.out q)⟩
    have HNUM : Hid (0 ≤ x.n ∧ x.s.size ≤ 200 ∧ m ≤ 64) := Lib.hid ⟨by omega, by omega, by omega⟩
    have hsome := Lib.hid (fun W1 hB1 e => some_ok w.heap.size base b ns A m d x.l W1 e (hAR.out.below hB1) (hSL.out.below hB1))
    clear h3 h5 h6 h7 h8
    by_cases h9 : knownF ns x.l = true
    rotate_left
    · have HR : Hid (¬ May ns x) := Lib.hid (fun q => h9 (by unfold knownF; rw [List.all_eq_true]; exact q.has))
      have h9' : knownF ns x.l = false := by cases q : knownF ns x.l; rfl; exact absurd q h9
      rw [h9'] at hsome
      clear h9 h9'
      rcases tt2 with ⟨t7, t8⟩ | ⟨t7, t8⟩ <;> rcases tt3 with ⟨t9, t10⟩ | ⟨t9, t10⟩
      all_goals
        go_enter Tryd.func38, Tryd.ntmps38
        go_wp2_with (first | (go_at_call 42; rw [HWE.out]; refine HA.out.mono ?_; rintro e w1 ⟨rfl, hB1⟩; have e3 := (hB1.cell (World.block_lt_of_cell? _ _ hc3)).trans hc3; have e1 := (hB1.cell (World.block_lt_of_cell? _ _ hc1)).trans hc1; have e2 := (hB1.cell (World.block_lt_of_cell? _ _ hc2)).trans hc2; have e0 := (hB1.cell (World.block_lt_of_cell? _ _ hc0)).trans hc0) | (go_at_call 43; refine (hsome.out w1 hB1 ((hB1.cell (World.block_lt_of_cell? _ _ hp)).trans hp)).mono ?_; rintro e w2 ⟨rfl, rfl⟩))
        go_ret
        exact ⟨false, rfl, by simp [HR.out], hB0.trans (hB1.mono hB0.size)⟩
    have HHAS : Hid (∀ t ∈ x.l, hasF ns t = true) := Lib.hid (by unfold knownF at h9; rwa [List.all_eq_true] at h9)
    rw [h9] at hsome
    clear h9
    by_cases h10 : op = 6
    rotate_left
    · have HR : Hid (May ns x) := Lib.hid ⟨by rw [HOP.out, HK.out]; exact HNK.out, by rw [HOP.out, HK.out, HM.out]; exact HPART.out, by rw [HM.out]; exact HNUM.out.2.2, HNUM.out.1, HNUM.out.2.1, by rw [HOP.out]; exact HATOM.out, by rw [HOP.out]; exact HTEXT.out, HHAS.out, by rw [HOP.out]; exact fun q => absurd q h10⟩
      have t11 : (op != 6) = true := by rw [bne_iff_ne]; exact h10
      clear h10
      rcases tt2 with ⟨t7, t8⟩ | ⟨t7, t8⟩ <;> rcases tt3 with ⟨t9, t10⟩ | ⟨t9, t10⟩
      all_goals
        go_enter Tryd.func38, Tryd.ntmps38
        go_wp2_with (first | (go_at_call 42; rw [HWE.out]; refine HA.out.mono ?_; rintro e w1 ⟨rfl, hB1⟩; have e3 := (hB1.cell (World.block_lt_of_cell? _ _ hc3)).trans hc3; have e1 := (hB1.cell (World.block_lt_of_cell? _ _ hc1)).trans hc1; have e2 := (hB1.cell (World.block_lt_of_cell? _ _ hc2)).trans hc2; have e0 := (hB1.cell (World.block_lt_of_cell? _ _ hc0)).trans hc0) | (go_at_call 43; refine (hsome.out w1 hB1 ((hB1.cell (World.block_lt_of_cell? _ _ hp)).trans hp)).mono ?_; rintro e w2 ⟨rfl, rfl⟩; refine Hid.out ?_))
        refine Lib.hid ?_
        go_wp2_with fail
        go_quiet (fail)
        go_wp2_with fail
        go_ret
        exact ⟨true, rfl, by simp [HR.out], below_drewN (hB0.trans (hB1.mono hB0.size)) _⟩
    subst h10
    have hk3 : k = 3 := by have := HK.out; unfold arF at this; simpa using this.symm
    have hm3 : m = 3 := by have := HPART.out (by omega); omega
    obtain ⟨t, ht⟩ : ∃ t, x.l[1]? = some t := ⟨_, List.getElem?_eq_getElem (by rw [HM.out]; omega)⟩
    have hht := HHAS.out t (List.mem_of_getElem? ht)
    have ht2 : 0 ≤ t ∧ t < (ns.length : Int) := by unfold hasF at hht; simpa using hht
    obtain ⟨j, rfl⟩ : ∃ j : Nat, t = (j : Int) := ⟨t.toNat, by omega⟩
    obtain ⟨y, hy⟩ : ∃ y, ns[j]? = some y := ⟨_, List.getElem?_eq_getElem (by omega)⟩
    have HOPF : Hid (opF ns (x.l.getD 1 0) = y.op) := Lib.hid (by rw [List.getD_eq_getElem?_getD, ht, Option.getD_some]; unfold opF; rw [Int.toNat_natCast, hy])
    have HR : Hid (May ns x ↔ y.op = 2) := Lib.hid ⟨fun q => by have := q.key HOP.out; rwa [HOPF.out] at this, fun q => ⟨by rw [HOP.out, HK.out]; exact HNK.out, by rw [HOP.out, HK.out, HM.out]; exact HPART.out, by rw [HM.out]; exact HNUM.out.2.2, HNUM.out.1, HNUM.out.2.1, by rw [HOP.out]; exact HATOM.out, by rw [HOP.out]; exact HTEXT.out, HHAS.out, fun _ => by rw [HOPF.out]; exact q⟩⟩
    have HND := Lib.hid (fun W1 (hB1 : Below W.heap.size W W1) => (hAR.out.below hB1).node hy)
    have HCL := Lib.hid (fun W1 (hB1 : Below W.heap.size W W1) => (hSL.out.below hB1).int (k := 1) (by omega))
    have HT1 : Hid (∀ hl : 1 < x.l.length, x.l[1]'hl = (j : Int)) := Lib.hid (fun hl => by rw [List.getElem?_eq_getElem hl] at ht; injection ht)
    have hjn : (j : Int) < (ns.length : Int) := ht2.2
    have hjb : (j : Int) < 9223372036854775807 := by have := (hAR.out).len_le; unfold maxLen at this; omega
    clear ht hht ht2 hy
    rcases tt2 with ⟨t7, t8⟩ | ⟨t7, t8⟩ <;> rcases tt3 with ⟨t9, t10⟩ | ⟨t9, t10⟩
    all_goals
      first
        | (exfalso; revert t7; decide)
        | (exfalso; revert t9; decide)
        | skip
    all_goals
      subst hk3
      subst hm3
      go_enter Tryd.func38, Tryd.ntmps38
      go_wp2_with (first | (go_at_call 42; rw [HWE.out]; refine HA.out.mono ?_; rintro e w1 ⟨rfl, hB1⟩; have e3 := (hB1.cell (World.block_lt_of_cell? _ _ hc3)).trans hc3; have e1 := (hB1.cell (World.block_lt_of_cell? _ _ hc1)).trans hc1; have e2 := (hB1.cell (World.block_lt_of_cell? _ _ hc2)).trans hc2; have e0 := (hB1.cell (World.block_lt_of_cell? _ _ hc0)).trans hc0) | (go_at_call 43; refine (hsome.out w1 hB1 ((hB1.cell (World.block_lt_of_cell? _ _ hp)).trans hp)).mono ?_; rintro e w2 ⟨rfl, rfl⟩; refine Hid.out ?_))
      refine Lib.hid ?_
      have ep := (hB1.cell (World.block_lt_of_cell? _ _ hp)).trans hp
      obtain ⟨g, gc, M, NB, nm, nd, f0, f1, hat, _⟩ := HND.out w1 hB1
      have a0 := hat.c0
      have a1 : w1.cell? ⟨g, j * 4, none⟩ = some (.int .i64 y.op) := by rw [add_mk] at a0; simpa using a0
      obtain ⟨al, hll, rfl, hcl⟩ := HCL.out w1 hB1
      rw [HT1.out] at hcl
      have hcl2 : w1.cell? ⟨al.block, al.off + 1, none⟩ = some (.int .i64 (j : Int)) := hcl
      have hBf := hB0.trans (hB1.mono hB0.size)
      clear hat hB1 hll
      go_wp2_with fail
      go_quiet (fail)
      go_wp2_with fail
      go_ret
      exact ⟨y.op == 2, rfl, by rw [HR.out, beq_iff_eq], below_drewN hBf _⟩
end Go.Proofs.YthbfaledmoobjaaDoor
