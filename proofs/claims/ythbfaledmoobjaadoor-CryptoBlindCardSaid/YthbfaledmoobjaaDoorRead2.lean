/- The walks of Unlock, Check, Verify. -/
import Derived.Test.YthbfaledmoobjaaDoorRead1
import Derived.Deep.QuietTactic
import Derived.BigQuiet
import Derived.Laws.Cover3
import Derived.ChangeKeysEq
import Derived.Laws.StructEq
namespace Go.Proofs.YthbfaledmoobjaaDoor
open Go.RowKit

theorem eq3 (w : World) (a b c x y z : Int) : (Op.equalIn 10000 59 (.agg #[.int .i64 a, .int .i64 b, .int .i64 c]) (.agg #[.int .i64 x, .int .i64 y, .int .i64 z])).run Tryd.prog w = .ok (a == x && (b == y && c == z)) w := by
  obtain ⟨i, hi, _, _, _⟩ := info_parts E26.info
  have hc : Tryd.prog.cellsOf 3 = 1 := by kernel_rfl
  have h3 := fun (p q : Int) => run_equalIn_int (P := Tryd.prog) w 9998 3 .i64 .i64 p q Tryd.underlying3
  rw [show (10000 : Nat) = 9999 + 1 from rfl, run_equalIn_array w 9999 _ _ Tryd.underlying59 hi]
  have e : List.range 3 = [0, 1, 2] := rfl
  rw [e, hc]
  simp [Op.eqItems, part, Tryd.isAgg3, h3]
  by_cases h1 : a = x <;> by_cases h2 : b = y <;> by_cases h3' : c = z <;> simp [h1, h2, h3']
def Unlocks (ns : List NN) (k n a locked pl : Int) : Prop := ∃ m, 0 ≤ locked ∧ ns[locked.toNat]? = some m ∧ m.op = 9 ∧ m.l = [k, n, a, pl]
def UlR (ns : List NN) (k n a locked : Int) (t er : Int) : Prop :=
  (knownF ns [k, n, a, locked] = false ∧ t = 0 ∧ er = 1) ∨ (knownF ns [k, n, a, locked] = true ∧ (∀ pl, ¬ Unlocks ns k n a locked pl) ∧ t = 0 ∧ er = 40) ∨ (knownF ns [k, n, a, locked] = true ∧ Unlocks ns k n a locked t ∧ er = 0)
def UlP (ns : List NN) (k n a locked : Int) (w : World) (e : Ending) (w' : World) : Prop :=
  ∃ t er, e = .returned (.tuple #[.int .i64 t, .int .i64 er]) ∧ Below w.heap.size w w' ∧ UlR ns k n a locked t er
set_option maxRecDepth 100000 in
set_option maxHeartbeats 2000000 in
theorem unlock_ok (base b : Nat) (ns : List NN) (x y u z : Int) (w : World) (h : AR w base b ns) :
    Calls Tryd.prog 13 #[.pointer (some ⟨b, 0, none⟩), .int .i64 x, .int .i64 y, .int .i64 u, .int .i64 z] w (UlP ns x y u z w) := by
  have HKN := Lib.hid (known_ok base b ns (some ⟨w.heap.size, 0, none⟩) 4 4 [x, y, u, z] (w.alloc (.cells #[.int .i64 x, .int .i64 y, .int .i64 u, .int .i64 z] 3)) (h.alloc _) (sl_row w [x, y, u, z] (by simp [maxLen])))
  have HAR := Lib.hid h
  obtain ⟨kn, hkn⟩ : ∃ kn, knownF ns [x, y, u, z] = kn := ⟨_, rfl⟩
  rw [hkn] at HKN
  have HK := Lib.hid hkn
  clear h hkn
  go_enter Tryd.func13, Tryd.ntmps13
  go_wp2_with (go_at_call 29; refine HKN.out.mono ?_; rintro e w1 ⟨rfl, hB1⟩; refine Hid.out ?_)
  refine Lib.hid ?_
  have hBw : Below w.heap.size w w1 := ((Below.refl _ w).alloc (Nat.le_refl _) _).trans (hB1.mono (by simp))
  cases kn
  · clear hB1
    go_wp2_with fail
    go_ret2
    exact ⟨0, 1, rfl, hBw, .inl ⟨HK.out, rfl, rfl⟩⟩
  have HND := Lib.hid (nd_ok base b ns z 9 w1 ((HAR.out).below hBw))
  clear hB1
  go_wp2_with (go_at_call 30; refine HND.out.mono ?_; rintro e w2 ⟨n, B, d, is, rfl, hsl, hB2, his⟩; refine Hid.out ?_)
  refine Lib.hid ?_
  have hBw2 := nx hBw hB2
  have hBw3 := nxa hBw2 (.cells #[.int .i64 n.op, .int .i64 n.n, .string n.s, .slice B n.l.length d] 56)
  have HI := Lib.hid his
  clear hB2
  cases is
  · clear his hsl
    go_wp2_with fail
    go_ret2
    refine ⟨0, 40, rfl, hBw3, .inr (.inl ⟨HK.out, fun pl hpl => ?_, rfl, rfl⟩)⟩
    obtain ⟨m, h0, hm, ho, _⟩ := hpl
    rcases HI.out with ⟨q, _⟩ | ⟨_, q⟩
    · cases q
    · exact q m h0 hm ho
  obtain ⟨k0, n1, a2, pl, hl4⟩ := len4 (nd_len HAR.out his (k := 4) (by decide))
  obtain ⟨nop, nn, nst, nl⟩ := n
  simp only at hl4
  subst hl4
  obtain ⟨al, rfl⟩ := sl_some hsl (by simp)
  have hd4 : 4 ≤ d := hsl.cap
  have hs4 := hsl.alloc (.cells #[.int .i64 nop, .int .i64 nn, .string nst, .slice (some al) 4 d] 56)
  have c0 := sl_c0 hs4 (v := k0) rfl
  have c1 := sl_cs hs4 0 (v := n1) rfl
  have c2 := sl_cs hs4 1 (v := a2) rfl
  have c3 := sl_cs hs4 2 (v := pl) rfl
  have hq : Hid (0 ≤ z ∧ ns[z.toNat]? = some ⟨nop, nn, nst, [k0, n1, a2, pl]⟩ ∧ nop = 9) := Lib.hid (by
    rcases HI.out with ⟨_, q1, q2, q3⟩ | ⟨q, _⟩
    · exact ⟨q1, q2, q3⟩
    · cases q)
  have harr := fun (W : World) => run_arrayAt (P := Tryd.prog) (w := W) 59 3 3 (some al) 3 d Tryd.underlying59 (Nat.le_refl _)
  have HB := Lib.hid hBw3
  clear hsl hs4 his hBw hBw2 hBw3
  by_cases ha : k0 = x ∧ n1 = y ∧ a2 = u
  rotate_left
  · have HA : Hid (¬ (k0 = x ∧ n1 = y ∧ a2 = u)) := Lib.hid ha
    have hb : (k0 == x && (n1 == y && a2 == u)) = false := by
      cases q : (k0 == x && (n1 == y && a2 == u))
      · rfl
      · simp at q; exact absurd q ha
    have heq := fun W => (eq3 W k0 n1 a2 x y u).trans (by rw [hb])
    clear ha hb
    go_wp2_with fail
    go_ret2
    refine ⟨0, 40, rfl, HB.out, .inr (.inl ⟨HK.out, fun pl2 hpl => ?_, rfl, rfl⟩)⟩
    obtain ⟨m, h0, hm, ho, hml⟩ := hpl
    rw [hq.out.2.1] at hm
    injection hm with hm
    rw [← hm] at hml
    simp at hml
    exact HA.out ⟨hml.1, hml.2.1, hml.2.2.1⟩
  · obtain ⟨rfl, rfl, rfl⟩ := ha
    have heq := fun W => (eq3 W k0 n1 a2 k0 n1 a2).trans (by simp : _ = Result.ok true W)
    go_wp2_with fail
    go_ret2
    exact ⟨pl, 0, rfl, HB.out, .inr (.inr ⟨HK.out, ⟨_, hq.out.1, hq.out.2.1, hq.out.2.2, rfl⟩, rfl⟩)⟩
def BlP (Q : Prop) (w : World) (e : Ending) (w' : World) : Prop := ∃ r, e = .returned (.bool r) ∧ (r = true ↔ Q) ∧ Below w.heap.size w w'
/-- what was tagged -/
def Checks (ns : List NN) (key m tag : Int) : Prop := ∃ n, 0 ≤ tag ∧ ns[tag.toNat]? = some n ∧ n.op = 11 ∧ n.l = [key, m]
set_option maxRecDepth 100000 in
set_option maxHeartbeats 2000000 in
theorem check_ok (base b : Nat) (ns : List NN) (x y z : Int) (w : World) (h : AR w base b ns) :
    Calls Tryd.prog 15 #[.pointer (some ⟨b, 0, none⟩), .int .i64 x, .int .i64 y, .int .i64 z] w (BlP (Checks ns x y z) w) := by
  have HND := Lib.hid (nd_ok base b ns z 11 w h)
  have HAR := Lib.hid h
  clear h
  go_enter Tryd.func15, Tryd.ntmps15
  go_wp2_with (go_at_call 30; refine HND.out.mono ?_; rintro e w2 ⟨n, B, d, is, rfl, hsl, hB2, his⟩; refine Hid.out ?_)
  refine Lib.hid ?_
  have hBw3 := nxa hB2 (.cells #[.int .i64 n.op, .int .i64 n.n, .string n.s, .slice B n.l.length d] 56)
  have HI := Lib.hid his
  clear hB2
  cases is
  · clear his hsl
    go_wp2_with fail
    go_ret
    refine ⟨false, rfl, ⟨nofun, fun q => ?_⟩, hBw3⟩
    obtain ⟨m, h0, hm, ho, _⟩ := q
    rcases HI.out with ⟨q, _⟩ | ⟨_, q⟩
    · cases q
    · exact absurd ho (q m h0 hm)
  obtain ⟨k0, n1, hl4⟩ := len2 (nd_len HAR.out his (k := 2) (by decide))
  obtain ⟨nop, nn, nst, nl⟩ := n
  simp only at hl4
  subst hl4
  obtain ⟨al, rfl⟩ := sl_some hsl (by simp)
  have hs4 := hsl.alloc (.cells #[.int .i64 nop, .int .i64 nn, .string nst, .slice (some al) 2 d] 56)
  have c0 := sl_c0 hs4 (v := k0) rfl
  have c1 := sl_cs hs4 0 (v := n1) rfl
  have hq : Hid (0 ≤ z ∧ ns[z.toNat]? = some ⟨nop, nn, nst, [k0, n1]⟩ ∧ nop = 11) := Lib.hid (by
    rcases HI.out with ⟨_, q1, q2, q3⟩ | ⟨q, _⟩
    · exact ⟨q1, q2, q3⟩
    · cases q)
  have HB := Lib.hid hBw3
  have hno : Hid (Checks ns x y z → k0 = x ∧ n1 = y) := Lib.hid (by
    rintro ⟨m, h0, hm, ho, hml⟩
    rw [hq.out.2.1] at hm
    injection hm with hm
    rw [← hm] at hml
    simpa using hml)
  clear hsl hs4 his hBw3
  by_cases h1 : k0 = x
  rotate_left
  · have t1 : (k0 == x) = false := by rw [beq_eq_false_iff_ne]; exact h1
    have H1 : Hid (¬ k0 = x) := Lib.hid h1
    clear h1
    go_wp2_with fail
    go_ret
    exact ⟨false, rfl, ⟨nofun, fun q => absurd (hno.out q).1 H1.out⟩, HB.out⟩
  have t1 : (k0 == x) = true := by rw [beq_iff_eq]; exact h1
  have H1 := Lib.hid h1
  clear h1
  by_cases h2 : n1 = y
  rotate_left
  · have t2 : (n1 == y) = false := by rw [beq_eq_false_iff_ne]; exact h2
    have H2 : Hid (¬ n1 = y) := Lib.hid h2
    clear h2
    go_wp2_with fail
    go_ret
    exact ⟨false, rfl, ⟨nofun, fun q => absurd (hno.out q).2 H2.out⟩, HB.out⟩
  have t2 : (n1 == y) = true := by rw [beq_iff_eq]; exact h2
  have H2 := Lib.hid h2
  clear h2
  go_wp2_with fail
  go_ret
  exact ⟨true, rfl, ⟨fun _ => ⟨_, hq.out.1, hq.out.2.1, hq.out.2.2, by simp only; rw [H1.out, H2.out]⟩, fun _ => rfl⟩, HB.out⟩
/-- what was signed -/
def Verifies (ns : List NN) (pk m sig : Int) : Prop := ∃ p s sk, 0 ≤ pk ∧ ns[pk.toNat]? = some p ∧ p.op = 7 ∧ p.l = [sk] ∧ 0 ≤ sig ∧ ns[sig.toNat]? = some s ∧ s.op = 10 ∧ s.l = [sk, m]
set_option maxRecDepth 100000 in
set_option maxHeartbeats 4000000 in
theorem verify_ok (base b : Nat) (ns : List NN) (x y z : Int) (w : World) (h : AR w base b ns) :
    Calls Tryd.prog 14 #[.pointer (some ⟨b, 0, none⟩), .int .i64 x, .int .i64 y, .int .i64 z] w (BlP (Verifies ns x y z) w) := by
  have HND := Lib.hid (nd_ok base b ns x 7 w h)
  have HAR := Lib.hid h
  clear h
  go_enter Tryd.func14, Tryd.ntmps14
  go_wp2_with (go_at_call 30; refine HND.out.mono ?_; rintro e w2 ⟨n, B, d, is, rfl, hsl, hB2, his⟩; refine Hid.out ?_)
  refine Lib.hid ?_
  obtain ⟨W3, hW3⟩ : ∃ W3, w2.alloc (.cells #[.int .i64 n.op, .int .i64 n.n, .string n.s, .slice B n.l.length d] 56) = W3 := ⟨_, rfl⟩
  have hsl3 : Sl W3 B n.l.length d (iv n.l) := by rw [← hW3]; exact hsl.alloc _
  have k3 : W3.heap[w2.heap.size]? = some (.cells #[.int .i64 n.op, .int .i64 n.n, .string n.s, .slice B n.l.length d] 56 (0, 0)) := by rw [← hW3]; exact heap_alloc_new _ _
  have hsz : W3.heap.size = w2.heap.size + 1 := by rw [← hW3]; simp
  have hB3 : Below w.heap.size w W3 := by rw [← hW3]; exact nxa hB2 _
  obtain ⟨g, hg⟩ : ∃ g, w2.heap.size = g := ⟨_, rfl⟩
  rw [hg] at k3 hsz
  have HND2 := Lib.hid (nd_ok base b ns z 10 W3 ((HAR.out).below hB3))
  have HW3 := Lib.hid hW3; have HG := Lib.hid hg; have HSL3 := Lib.hid hsl3; have HK3 := Lib.hid k3; have HSZ := Lib.hid hsz; have HB3 := Lib.hid hB3
  have HI := Lib.hid his
  clear hW3 hg hsl3 k3 hsz hB3 hsl hB2 his
  go_wp2_with (go_at_call 30; rw [HW3.out]; refine HND2.out.mono ?_; rintro e w4 ⟨s, B2, d2, is2, rfl, hsl4, hB4, his2⟩; refine Hid.out ?_)
  refine Lib.hid ?_
  rw [HG.out]
  have hBf := nxa (nx HB3.out hB4) (.cells #[.int .i64 s.op, .int .i64 s.n, .string s.s, .slice B2 s.l.length d2] 56)
  have HI2 := Lib.hid his2
  have HBF := Lib.hid hBf
  have hnoA : is = false → ¬ Verifies ns x y z := by
    rintro rfl ⟨p, s, sk, h0, hp, ho, _⟩
    rcases HI.out with ⟨q, _⟩ | ⟨_, q⟩
    · cases q
    · exact q p h0 hp ho
  have hnoB : is2 = false → ¬ Verifies ns x y z := by
    rintro rfl ⟨p, s, sk, _, _, _, _, h0, hp, ho, _⟩
    rcases HI2.out with ⟨q, _⟩ | ⟨_, q⟩
    · cases q
    · exact q s h0 hp ho
  have HNA := Lib.hid hnoA; have HNB := Lib.hid hnoB
  clear hnoA hnoB hBf
  cases is
  · clear his2 hsl4 hB4
    go_wp2_with fail
    go_quiet (fail)
    go_wp2_with fail
    go_ret
    exact ⟨false, rfl, ⟨nofun, fun q => absurd q (HNA.out (by simp))⟩, below_drewN HBF.out _⟩
  cases is2
  · clear his2 hsl4 hB4
    go_wp2_with fail
    go_quiet (fail)
    go_wp2_with fail
    go_ret
    exact ⟨false, rfl, ⟨nofun, fun q => absurd q (HNB.out (by simp))⟩, below_drewN HBF.out _⟩
  obtain ⟨k0, hl1⟩ := len1 (nd_len HAR.out HI.out (k := 1) (by decide))
  obtain ⟨s0, s1, hl2⟩ := len2 (nd_len HAR.out HI2.out (k := 2) (by decide))
  obtain ⟨nop, nn, nst, nl⟩ := n
  obtain ⟨qop, qn, qst, ql⟩ := s
  simp only at hl1 hl2
  subst hl1
  subst hl2
  obtain ⟨al, rfl⟩ := sl_some HSL3.out (by simp)
  obtain ⟨al2, rfl⟩ := sl_some hsl4 (by simp)
  have hs5 := hsl4.alloc (.cells #[.int .i64 qop, .int .i64 qn, .string qst, .slice (some al2) 2 d2] 56)
  have c0 := sl_c0 hs5 (v := s0) rfl
  have c1 := sl_cs hs5 0 (v := s1) rfl
  have hs6 := (HSL3.out.below hB4).alloc (.cells #[.int .i64 qop, .int .i64 qn, .string qst, .slice (some al2) 2 d2] 56)
  have c2 := sl_c0 hs6 (v := k0) rfl
  have hk4 : (w4.alloc (.cells #[.int .i64 qop, .int .i64 qn, .string qst, .slice (some al2) 2 d2] 56)).heap[g]? = some (.cells #[.int .i64 nop, .int .i64 nn, .string nst, .slice (some al) 1 d] 56 (0, 0)) := by
    have hg4 : g < w4.heap.size := by have := hB4.size; have := HSZ.out; omega
    rw [Below.heap_alloc _ _ _ hg4, hB4.block g (by have := HSZ.out; omega)]
    exact HK3.out
  have c3 : (w4.alloc (.cells #[.int .i64 qop, .int .i64 qn, .string qst, .slice (some al2) 2 d2] 56)).cell? ⟨g, 3, none⟩ = some (.slice (some al) 1 d) := cell_of hk4 3
  have c4 : (w4.alloc (.cells #[.int .i64 qop, .int .i64 qn, .string qst, .slice (some al2) 2 d2] 56)).cell? ⟨w4.heap.size, 3, none⟩ = some (.slice (some al2) 2 d2) := by simp
  have hp : Hid (0 ≤ x ∧ ns[x.toNat]? = some ⟨nop, nn, nst, [k0]⟩ ∧ nop = 7) := Lib.hid (by
    rcases HI.out with ⟨_, q1, q2, q3⟩ | ⟨q, _⟩
    · exact ⟨q1, q2, q3⟩
    · cases q)
  have hq : Hid (0 ≤ z ∧ ns[z.toNat]? = some ⟨qop, qn, qst, [s0, s1]⟩ ∧ qop = 10) := Lib.hid (by
    rcases HI2.out with ⟨_, q1, q2, q3⟩ | ⟨q, _⟩
    · exact ⟨q1, q2, q3⟩
    · cases q)
  have hno : Hid (Verifies ns x y z → s0 = k0 ∧ s1 = y) := Lib.hid (by
    rintro ⟨p, s, sk, h0, hp2, ho, hpl, h1, hs2, ho2, hsl⟩
    rw [hp.out.2.1] at hp2
    rw [hq.out.2.1] at hs2
    injection hp2 with hp2
    injection hs2 with hs2
    rw [← hp2] at hpl
    rw [← hs2] at hsl
    simp at hpl hsl
    exact ⟨by rw [hsl.1, hpl], hsl.2⟩)
  clear hsl4 hB4 his2 hs5 hs6 hk4
  by_cases h1 : s0 = k0
  rotate_left
  · have t1 : (s0 == k0) = false := by rw [beq_eq_false_iff_ne]; exact h1
    have H1 : Hid (¬ s0 = k0) := Lib.hid h1
    clear h1
    go_wp2_with fail
    go_quiet (fail)
    go_wp2_with fail
    go_ret
    exact ⟨false, rfl, ⟨nofun, fun q => absurd (hno.out q).1 H1.out⟩, below_drewN HBF.out _⟩
  have t1 : (s0 == k0) = true := by rw [beq_iff_eq]; exact h1
  have H1 := Lib.hid h1
  clear h1
  by_cases h2 : s1 = y
  rotate_left
  · have t2 : (s1 == y) = false := by rw [beq_eq_false_iff_ne]; exact h2
    have H2 : Hid (¬ s1 = y) := Lib.hid h2
    clear h2
    go_wp2_with fail
    go_quiet (fail)
    go_wp2_with fail
    go_ret
    exact ⟨false, rfl, ⟨nofun, fun q => absurd (hno.out q).2 H2.out⟩, below_drewN HBF.out _⟩
  have t2 : (s1 == y) = true := by rw [beq_iff_eq]; exact h2
  have H2 := Lib.hid h2
  clear h2
  go_wp2_with fail
  go_quiet (fail)
  go_wp2_with fail
  go_ret
  exact ⟨true, rfl, ⟨fun _ => ⟨_, _, k0, hp.out.1, hp.out.2.1, hp.out.2.2, rfl, hq.out.1, hq.out.2.1, hq.out.2.2, by simp only; rw [H1.out, H2.out]⟩, fun _ => rfl⟩, below_drewN HBF.out _⟩
end Go.Proofs.YthbfaledmoobjaaDoor
