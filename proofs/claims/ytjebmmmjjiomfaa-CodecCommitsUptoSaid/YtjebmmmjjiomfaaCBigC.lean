/- The walks of bigCommit, of the reference's Same (proposals) and SameCommit. -/
import Derived.Test.YtjebmmmjjiomfaaCMem
import Derived.Test.YtjebmmmjjiomfaaCSame2
import Derived.StillTailTactics
namespace Go.Proofs.Ytjebmmmjjiomfaa
open Go.RowKit

theorem pr_iff (x y : PR) : (x.k = y.k ∧ x.from_ = y.from_ ∧ x.leaf = y.leaf ∧ x.at_ = y.at_ ∧ x.term = y.term) ↔ x = y := by
  obtain ⟨a, b, c, d, e⟩ := x; obtain ⟨a', b', c', d', e'⟩ := y; simp
instance : DecidableEq PR := fun x y => decidable_of_iff _ (pr_iff x y)
theorem pn_iff (x y : PN) : (x.enc = y.enc ∧ x.seals = y.seals) ↔ x = y := by
  obtain ⟨a, b⟩ := x; obtain ⟨a', b'⟩ := y; simp
instance : DecidableEq PN := fun x y => decidable_of_iff _ (pn_iff x y)
theorem cm_iff (x y : CM) : (x.by_ = y.by_ ∧ x.epoch = y.epoch ∧ x.props = y.props ∧ x.has = y.has ∧ x.leaf = y.leaf ∧ x.nodes = y.nodes ∧ x.sig = y.sig ∧ x.tag = y.tag) ↔ x = y := by
  obtain ⟨a, b, c, d, e, f, g, h⟩ := x; obtain ⟨a', b', c', d', e', f', g', h'⟩ := y; simp
instance : DecidableEq CM := fun x y => decidable_of_iff _ (cm_iff x y)
theorem sum_take {α : Type} (f : α → Nat) {l : List α} {k : Nat} {s : α} (h : l[k]? = some s) : ((l.take (k + 1)).map f).sum = ((l.take k).map f).sum + f s := by
  rw [List.take_add_one, h]; simp
theorem sum_take_le {α : Type} (f : α → Nat) (l : List α) (k : Nat) : ((l.take k).map f).sum ≤ (l.map f).sum := by
  have : (l.map f).sum = ((l.take k).map f).sum + ((l.drop k).map f).sum := by rw [← List.sum_append, ← List.map_append, List.take_append_drop]
  omega
set_option maxRecDepth 100000 in
set_option maxHeartbeats 4000000 in
theorem bigC_ok (x : CM) (P : CP) (w : World) (hM : CMem w x P) (hz : Hid (szC x ≤ 1048576)) :
    Calls Try.prog 45 #[cv x P] w fun e w' => e = .returned (.bool (decide (5000 < szC x))) ∧ Below w.heap.size w w' := by
  obtain ⟨pA, pn, pc, lA, ln, lc, nA, nn, nc⟩ := P
  obtain ⟨hp, hu, hn⟩ := hM
  dsimp only at hp hu hn
  have htop := hp.top; have hcap := hp.cap; have ntop := hn.top; have ncap := hn.cap; unfold maxLen at htop ntop
  have HLp := Lib.hid hp.len; have HLn := Lib.hid hn.len
  have HLu : Hid (x.leaf.un.length = ln) := Lib.hid (by have := hu.len; rwa [iv_length] at this)
  obtain ⟨g, hg⟩ : ∃ g, w.heap.size = g := ⟨_, rfl⟩
  obtain ⟨wb, hwb⟩ : ∃ wb, w.alloc (.cells (cc x ⟨pA, pn, pc, lA, ln, lc, nA, nn, nc⟩) 72) = wb := ⟨_, rfl⟩
  have hBb : Below w.heap.size w wb := by rw [← hwb]; exact nxa (Below.refl _ _) _
  have k0 : wb.heap[g]? = some (.cells (cc x ⟨pA, pn, pc, lA, ln, lc, nA, nn, nc⟩) 72) := by rw [← hwb, ← hg]; exact heap_alloc_new _ _
  have hgb : g < wb.heap.size := (Array.getElem?_eq_some_iff.1 k0).1
  obtain ⟨S1, hS1⟩ : ∃ S : Nat → Nat, (fun k => ((x.props.take k).map fun p => p.leaf.un.length).sum) = S := ⟨_, rfl⟩
  obtain ⟨S2, hS2⟩ : ∃ S : Nat → Nat, (fun k => ((x.nodes.take k).map fun p => p.seals.length).sum) = S := ⟨_, rfl⟩
  have hz1 : pn + nn + ln + S1 pn + S2 nn = szC x := by
    rw [← hS1, ← hS2]; dsimp only
    unfold szC
    rw [← HLp.out, ← HLn.out, ← HLu.out, List.take_length, List.take_length]
  have hS1' : ∀ k s, x.props[k]? = some s → S1 (k + 1) = S1 k + s.leaf.un.length := fun k s h => by rw [← hS1]; exact sum_take _ h
  have hS2' : ∀ k s, x.nodes[k]? = some s → S2 (k + 1) = S2 k + s.seals.length := fun k s h => by rw [← hS2]; exact sum_take _ h
  have hS1z : S1 0 = 0 := by rw [← hS1]; rfl
  have hS2z : S2 0 = 0 := by rw [← hS2]; rfl
  have hS1l : ∀ k, S1 k ≤ S1 pn := fun k => by rw [← hS1, ← HLp.out]; dsimp only; rw [List.take_length]; exact sum_take_le _ _ _
  have hS2l : ∀ k, S2 k ≤ S2 nn := fun k => by rw [← hS2, ← HLn.out]; dsimp only; rw [List.take_length]; exact sum_take_le _ _ _
  have hzz := hz.out
  have hsum : pn + nn + ln + S1 pn + S2 nn ≤ 1048576 := by omega
  have HZ1 := Lib.hid hz1; have HS1 := Lib.hid hS1'; have HS2 := Lib.hid hS2'; have HS1L := Lib.hid hS1l; have HS2L := Lib.hid hS2l; have HS1Z := Lib.hid hS1z; have HS2Z := Lib.hid hS2z
  have HWB := Lib.hid hwb; have HB := Lib.hid hBb; have K0 := Lib.hid k0
  have hp' := hp.keep (At10.below hBb); have hn' := hn.keep (At2.below hBb)
  have HP := Lib.hid hp'; have HN := Lib.hid hn'
  clear hwb hBb k0 hS1 hS2 hz1 hS1' hS2' hS1z hS2z hS1l hS2l hp hn hu hp' hn' hzz
  unfold cv
  go_enter Try.func45, Try.ntmps45
  go_wp2_with fail
  rw [HWB.out]
  go_loopw [3, 25] (fun v i wr => ∃ k : Nat, k ≤ pn ∧ i = .int .i64 (k : Int) ∧ v = .int .i64 (((pn + nn + ln + S1 k : Nat)) : Int) ∧ Below wb.heap.size wb wr) (fun _ i _ => pn - (intOf i).toNat)
  case atStart => exact ⟨0, Nat.zero_le _, rfl, by rw [HS1Z.out]; go_num, Below.refl _ _⟩
  case round =>
    obtain ⟨k, hk, rfl, rfl, hB⟩ := hrel
    have hlk := HS1L.out k
    by_cases hlt : k < pn
    · obtain ⟨ad, s, rfl, hs, A1, n1, c1, d0, d1, d2, d3, d4, d5, d6, d7, d8, d9, hsl⟩ := (HP.out.keep (At10.below hB)).at_ hlt
      have hun : s.leaf.un.length = n1 := by have := hsl.len; rwa [iv_length] at this
      have hst := HS1.out k s hs
      have HST := Lib.hid hst
      have i1 : (k : Int) < (pn : Int) := by omega
      have hl1 := HS1L.out (k + 1)
      obtain ⟨y, hy⟩ : ∃ y, pn + nn + ln + S1 k = y := ⟨_, rfl⟩
      have hyb : y + n1 ≤ 1048576 := by omega
      have HUN := Lib.hid hun; have HY := Lib.hid hy
      rw [hy]
      clear hs hst hy hun hl1 hlk hsl
      go_wp2_with fail
      go_roundw
      case rel => exact ⟨k + 1, by omega, by go_num, by rw [HST.out, HUN.out, ← HY.out]; go_num, nxa hB _⟩
      case measure => simp [intOf]; omega
    · obtain rfl : k = pn := by omega
      obtain ⟨y, hy⟩ : ∃ y, k + nn + ln + S1 k = y := ⟨_, rfl⟩
      have hyb : y + S2 nn ≤ 1048576 := by omega
      have HY := Lib.hid hy
      rw [hy]
      have m0 := (hB.block g hgb).trans K0.out
      have g10 := cell_of m0 10
      clear hy m0 hlk
      go_wp2_with fail
      go_loopw [3, 40] (fun v i wr => ∃ j : Nat, j ≤ nn ∧ i = .int .i64 (j : Int) ∧ v = .int .i64 (((y + S2 j : Nat)) : Int) ∧ Below wb.heap.size wb wr) (fun _ i _ => nn - (intOf i).toNat)
      case atStart => exact ⟨0, Nat.zero_le _, rfl, by rw [HS2Z.out]; go_num, hB⟩
      case round =>
        clear g10
        obtain ⟨j, hj, rfl, rfl, hB2⟩ := hrel
        have hlj := HS2L.out j
        by_cases hltj : j < nn
        · obtain ⟨ad, s, rfl, hs, A1, n1, c1, d0, d1, hsl⟩ := (HN.out.keep (At2.below hB2)).at_ hltj
          have hun : s.seals.length = n1 := by have := hsl.len; rwa [iv_length] at this
          have hst := HS2.out j s hs
          have HST := Lib.hid hst
          have i2 : (j : Int) < (nn : Int) := by omega
          have hl1 := HS2L.out (j + 1)
          obtain ⟨v, hv⟩ : ∃ v, y + S2 j = v := ⟨_, rfl⟩
          have hvb : v + n1 ≤ 1048576 := by omega
          have HUN := Lib.hid hun; have HV := Lib.hid hv
          rw [hv]
          clear hs hst hv hun hl1 hlj hsl
          go_wp2_with fail
          go_roundw
          case rel => exact ⟨j + 1, by omega, by go_num, by rw [HST.out, HUN.out, ← HV.out]; go_num, nxa hB2 _⟩
          case measure => simp [intOf]; omega
        · obtain rfl : j = nn := by omega
          obtain ⟨v, hv⟩ : ∃ v, y + S2 j = v := ⟨_, rfl⟩
          have HV := Lib.hid hv
          have hvb : v ≤ 1048576 := by omega
          rw [hv]
          clear hv hlj
          go_wp2_with fail
          go_ret
          exact ⟨congrArg (fun b => Ending.returned (.bool b)) (decide_eq_decide.2 (by have := HV.out; have := HY.out; have := HZ1.out; omega)), nx HB.out hB2⟩
abbrev pcA (s : PR) (A : Option Addr) (n c : Nat) : Array Value := #[.int .i64 s.k, .int .i64 s.from_, .int .i64 s.leaf.k, .int .i64 s.leaf.id, .int .i64 s.leaf.enc, .int .i64 s.leaf.sig, .int .i64 s.leaf.hash, .slice A n c, .int .i64 s.at_, .int .i64 s.term]
set_option maxRecDepth 100000 in
set_option maxHeartbeats 4000000 in
theorem samePR_any (A B : Option Addr) (n m c d : Nat) (s u : PR) (w : World) (h : Sl w A n c (iv s.leaf.un)) (k : Sl w B m d (iv u.leaf.un)) :
    Calls Try.prog 79 #[.agg (pcA s A n c), .agg (pcA u B m d)] w fun e w' => e = .returned (.bool (decide (s = u))) ∧ Below w.heap.size w w' := by
  obtain ⟨s0, s1, s2, s3, s4⟩ := s
  obtain ⟨u0, u1, u2, u3, u4⟩ := u
  dsimp only at h k ⊢
  have hBa : Below w.heap.size w ((w.alloc (.cells (pcA ⟨s0, s1, s2, s3, s4⟩ A n c) 109)).alloc (.cells (pcA ⟨u0, u1, u2, u3, u4⟩ B m d) 109)) := nxa (nxa (Below.refl _ _) _) _
  have HC := Lib.hid (sameNode_any A B n m c d s2 u2 _ (h.below hBa) (k.below hBa))
  have HB := Lib.hid hBa
  unfold nv at HC
  clear hBa h k
  by_cases e0 : s0 = u0
  case neg =>
    have HD : Hid (decide ((⟨s0, s1, s2, s3, s4⟩ : PR) = ⟨u0, u1, u2, u3, u4⟩) = false) := Lib.hid (decide_eq_false (fun e => e0 (congrArg PR.k e)))
    rw [HD.out]
    have t : (s0 == u0) = false := by rw [beq_eq_false_iff_ne]; exact e0
    clear e0
    go_enter Try.func79, Try.ntmps79
    go_wp2_with fail
    go_ret
    exact ⟨rfl, HB.out⟩
  subst e0
  by_cases e1 : s1 = u1
  case neg =>
    have HD : Hid (decide ((⟨s0, s1, s2, s3, s4⟩ : PR) = ⟨s0, u1, u2, u3, u4⟩) = false) := Lib.hid (decide_eq_false (fun e => e1 (congrArg PR.from_ e)))
    rw [HD.out]
    have t : (s1 == u1) = false := by rw [beq_eq_false_iff_ne]; exact e1
    clear e1
    go_enter Try.func79, Try.ntmps79
    go_wp2_with fail
    go_ret
    exact ⟨rfl, HB.out⟩
  subst e1
  by_cases e3 : s3 = u3
  case neg =>
    have HD : Hid (decide ((⟨s0, s1, s2, s3, s4⟩ : PR) = ⟨s0, s1, u2, u3, u4⟩) = false) := Lib.hid (decide_eq_false (fun e => e3 (congrArg PR.at_ e)))
    rw [HD.out]
    have t : (s3 == u3) = false := by rw [beq_eq_false_iff_ne]; exact e3
    clear e3
    go_enter Try.func79, Try.ntmps79
    go_wp2_with fail
    go_ret
    exact ⟨rfl, HB.out⟩
  subst e3
  by_cases e4 : s4 = u4
  case neg =>
    have HD : Hid (decide ((⟨s0, s1, s2, s3, s4⟩ : PR) = ⟨s0, s1, u2, s3, u4⟩) = false) := Lib.hid (decide_eq_false (fun e => e4 (congrArg PR.term e)))
    rw [HD.out]
    have t : (s4 == u4) = false := by rw [beq_eq_false_iff_ne]; exact e4
    clear e4
    go_enter Try.func79, Try.ntmps79
    go_wp2_with fail
    go_ret
    exact ⟨rfl, HB.out⟩
  subst e4
  have HD : Hid (decide ((⟨s0, s1, s2, s3, s4⟩ : PR) = ⟨s0, s1, u2, s3, s4⟩) = sameN s2 u2) := Lib.hid (by
    by_cases e : s2 = u2
    · rw [sameN_yes e, e]; simp
    · rw [sameN_no e]; exact decide_eq_false (fun q => e (congrArg PR.leaf q)))
  rw [HD.out]
  go_enter Try.func79, Try.ntmps79
  go_wp2_with (go_at_call 70; refine HC.out.mono ?_; rintro e w1 ⟨rfl, hB1⟩)
  go_ret
  exact ⟨rfl, nx HB.out hB1⟩
end Go.Proofs.Ytjebmmmjjiomfaa
