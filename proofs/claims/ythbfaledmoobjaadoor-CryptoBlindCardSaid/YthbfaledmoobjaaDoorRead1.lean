/- The walk of Open. -/
import Derived.Test.YthbfaledmoobjaaDoorMakers2
namespace Go.Proofs.YthbfaledmoobjaaDoor
open Go.RowKit

theorem nd_len {w : World} {base b : Nat} {ns : List NN} (h : AR w base b ns) {t op : Int} {x : NN} (hi : IsNd ns t op x true) {k : Nat} (hk : arF op = (k : Int)) : x.l.length = k := by
  rcases hi with ⟨_, h0, hx, ho⟩ | ⟨q, _⟩
  · have := (h.may hx).parts (by rw [ho, hk]; omega)
    rw [ho, hk] at this
    omega
  · cases q
theorem nd_w64 {w : World} {base b : Nat} {ns : List NN} (h : AR w base b ns) {t op : Int} {x : NN} (hi : IsNd ns t op x true) : ∀ v ∈ x.l, W64 v := by
  rcases hi with ⟨_, h0, hx, ho⟩ | ⟨q, _⟩
  · obtain ⟨_, _, _, _, _, _, _, _, _, _, _, _, _, h8⟩ := h
    exact (h8.wf x (List.mem_of_getElem? hx)).2.2
  · cases q
theorem len1 {l : List Int} (h : l.length = 1) : ∃ a, l = [a] := by
  match l, h with
  | [a], _ => exact ⟨a, rfl⟩
theorem len2 {l : List Int} (h : l.length = 2) : ∃ a b, l = [a, b] := by
  match l, h with
  | [a, b], _ => exact ⟨a, b, rfl⟩
theorem len4 {l : List Int} (h : l.length = 4) : ∃ a b c d, l = [a, b, c, d] := by
  match l, h with
  | [a, b, c, d], _ => exact ⟨a, b, c, d, rfl⟩
theorem sl_c0 {w : World} {al : Addr} {m d : Nat} {l : List Int} {v : Int} (h : Sl w (some al) m d (iv l)) (hv : l[0]? = some v) : w.cell? al = some (.int .i64 v) := by
  rcases h.lies with e | ⟨ad, e, hc⟩
  · have : l = [] := by simpa [iv] using e
    rw [this] at hv; cases hv
  · injection e with e
    subst e
    have := hc 0 (.int .i64 v) (by rw [iv_get, hv]; rfl)
    simpa [Addr.add] using this
theorem sl_cs {w : World} {al : Addr} {m d : Nat} {l : List Int} {v : Int} (h : Sl w (some al) m d (iv l)) (k : Nat) (hv : l[k + 1]? = some v) : w.cell? ⟨al.block, al.off + (k + 1), none⟩ = some (.int .i64 v) := by
  rcases h.lies with e | ⟨ad, e, hc⟩
  · have : l = [] := by simpa [iv] using e
    rw [this] at hv; cases hv
  · injection e with e
    subst e
    have := hc (k + 1) (.int .i64 v) (by rw [iv_get, hv]; rfl)
    simpa [Addr.add] using this
theorem sl_some {w : World} {B : Option Addr} {m d : Nat} {l : List Int} (h : Sl w B m d (iv l)) (hl : l ≠ []) : ∃ al, B = some al := by
  rcases h.lies with e | ⟨ad, e, hc⟩
  · exact absurd (by simpa [iv] using e) hl
  · exact ⟨ad, e⟩
/-- what is sealed opens -/
def Opens (ns : List NN) (sk aad sealed pl : Int) : Prop :=
  ∃ n p0 dr pn, 0 ≤ sealed ∧ ns[sealed.toNat]? = some n ∧ n.op = 8 ∧ n.l = [p0, aad, pl, dr] ∧ 0 ≤ p0 ∧ ns[p0.toNat]? = some pn ∧ pn.op = 7 ∧ pn.l = [sk]
def OpR (ns : List NN) (sk aad sealed : Int) (t er : Int) : Prop :=
  (knownF ns [sk, aad, sealed] = false ∧ t = 0 ∧ er = 1) ∨ (knownF ns [sk, aad, sealed] = true ∧ (∀ pl, ¬ Opens ns sk aad sealed pl) ∧ t = 0 ∧ er = 40) ∨ (knownF ns [sk, aad, sealed] = true ∧ Opens ns sk aad sealed t ∧ er = 0)
def OpP (ns : List NN) (sk aad sealed : Int) (w : World) (e : Ending) (w' : World) : Prop :=
  ∃ t er, e = .returned (.tuple #[.int .i64 t, .int .i64 er]) ∧ Below w.heap.size w w' ∧ OpR ns sk aad sealed t er
set_option maxRecDepth 100000 in
set_option maxHeartbeats 2000000 in
theorem open_ok (base b : Nat) (ns : List NN) (x y z : Int) (w : World) (h : AR w base b ns) :
    Calls Tryd.prog 12 #[.pointer (some ⟨b, 0, none⟩), .int .i64 x, .int .i64 y, .int .i64 z] w (OpP ns x y z w) := by
  have HKN := Lib.hid (known_ok base b ns (some ⟨w.heap.size, 0, none⟩) 3 3 [x, y, z] (w.alloc (.cells #[.int .i64 x, .int .i64 y, .int .i64 z] 3)) (h.alloc _) (sl_row w [x, y, z] (by simp [maxLen])))
  have HAR := Lib.hid h
  obtain ⟨kn, hkn⟩ : ∃ kn, knownF ns [x, y, z] = kn := ⟨_, rfl⟩
  rw [hkn] at HKN
  have HK := Lib.hid hkn
  clear h hkn
  go_enter Tryd.func12, Tryd.ntmps12
  go_wp2_with (go_at_call 29; refine HKN.out.mono ?_; rintro e w1 ⟨rfl, hB1⟩; refine Hid.out ?_)
  refine Lib.hid ?_
  have hBw : Below w.heap.size w w1 := ((Below.refl _ w).alloc (Nat.le_refl _) _).trans (hB1.mono (by simp))
  cases kn
  · clear hB1
    go_wp2_with fail
    go_ret2
    exact ⟨0, 1, rfl, hBw, .inl ⟨HK.out, rfl, rfl⟩⟩
  have HND := Lib.hid (nd_ok base b ns z 8 w1 ((HAR.out).below hBw))
  clear hB1
  go_wp2_with (go_at_call 30; refine HND.out.mono ?_; rintro e w2 ⟨n, B, d, is, rfl, hsl, hB2, his⟩; refine Hid.out ?_)
  refine Lib.hid ?_
  have hBw2 := nx hBw hB2
  have hBw3 := nxa hBw2 (.cells #[.int .i64 n.op, .int .i64 n.n, .string n.s, .slice B n.l.length d] 56)
  have HI := Lib.hid his
  clear hB2
  cases is
  · clear his hsl
    go_wp2_with fail
    go_ret2
    refine ⟨0, 40, rfl, hBw3, .inr (.inl ⟨HK.out, fun pl hpl => ?_, rfl, rfl⟩)⟩
    obtain ⟨m, p0, dr, pn, h0, hm, ho, _⟩ := hpl
    rcases HI.out with ⟨q, _⟩ | ⟨_, q⟩
    · cases q
    · exact q m h0 hm ho
  obtain ⟨p0, a1, pl, dr, hl4⟩ := len4 (nd_len HAR.out his (k := 4) (by decide))
  obtain ⟨nop, nn, nst, nl⟩ := n
  simp only at hl4
  subst hl4
  obtain ⟨al, rfl⟩ := sl_some hsl (by simp)
  obtain ⟨W3, hW3⟩ : ∃ W3, w2.alloc (.cells #[.int .i64 nop, .int .i64 nn, .string nst, .slice (some al) 4 d] 56) = W3 := ⟨_, rfl⟩
  have hsl3 : Sl W3 (some al) 4 d (iv [p0, a1, pl, dr]) := by rw [← hW3]; exact hsl.alloc _
  have k3 : W3.heap[w2.heap.size]? = some (.cells #[.int .i64 nop, .int .i64 nn, .string nst, .slice (some al) 4 d] 56 (0, 0)) := by rw [← hW3]; exact heap_alloc_new _ _
  have hsz : W3.heap.size = w2.heap.size + 1 := by rw [← hW3]; simp
  have hB3 : Below w.heap.size w W3 := by rw [← hW3]; exact hBw3
  obtain ⟨g, hg⟩ : ∃ g, w2.heap.size = g := ⟨_, rfl⟩
  rw [hg] at k3 hsz
  have c0 := sl_c0 hsl3 (v := p0) rfl
  have c1 := sl_cs hsl3 0 (v := a1) rfl
  have c3 : W3.cell? ⟨g, 3, none⟩ = some (.slice (some al) 4 d) := cell_of k3 3
  have HSL := Lib.hid hsl3; have HK3 := Lib.hid k3; have HSZ := Lib.hid hsz; have HB3 := Lib.hid hB3; have HW3 := Lib.hid hW3; have HG := Lib.hid hg
  clear hsl hsl3 k3 hsz hB3 hW3 hg his hBw hBw2 hBw3
  have hq : Hid (0 ≤ z ∧ ns[z.toNat]? = some ⟨nop, nn, nst, [p0, a1, pl, dr]⟩ ∧ nop = 8) := Lib.hid (by
    rcases HI.out with ⟨_, q1, q2, q3⟩ | ⟨q, _⟩
    · exact ⟨q1, q2, q3⟩
    · cases q)
  have c0r := c0
  have c1r := c1
  rw [← HW3.out] at c0r c1r
  by_cases ha : a1 = y
  rotate_left
  · have t1 : (a1 != y) = true := by rw [bne_iff_ne]; exact ha
    have HA : Hid (¬ a1 = y) := Lib.hid ha
    clear ha c0 c1
    go_wp2_with fail
    go_ret2
    rw [HW3.out]
    refine ⟨0, 40, rfl, HB3.out, .inr (.inl ⟨HK.out, fun pl2 hpl => ?_, rfl, rfl⟩)⟩
    obtain ⟨m, q0, dr2, pn, h0, hm, ho, hml, _⟩ := hpl
    rw [hq.out.2.1] at hm
    injection hm with hm
    rw [← hm] at hml
    simp at hml
    exact HA.out hml.2.1
  subst ha
  have t1 : (a1 != a1) = false := by simp
  have HND2 := Lib.hid (nd_ok base b ns p0 7 W3 ((HAR.out).below HB3.out))
  clear c0 c1
  go_wp2_with (go_at_call 30; rw [HW3.out]; refine HND2.out.mono ?_; rintro e w4 ⟨pn, B2, d2, is2, rfl, hsl4, hB4, his2⟩; refine Hid.out ?_)
  refine Lib.hid ?_
  rw [HG.out]
  have hB4w := nx HB3.out hB4
  have hB4a := nxa hB4w (.cells #[.int .i64 pn.op, .int .i64 pn.n, .string pn.s, .slice B2 pn.l.length d2] 56)
  have HI2 := Lib.hid his2
  have no : (¬ ∃ pn, 0 ≤ p0 ∧ ns[p0.toNat]? = some pn ∧ pn.op = 7 ∧ pn.l = [x]) → ∀ pl2, ¬ Opens ns x a1 z pl2 := by
    rintro q pl2 ⟨m, q0, dr2, pn2, h0, hm, ho, hml, h0q, hq2, ho2, hl2⟩
    rw [hq.out.2.1] at hm
    injection hm with hm
    rw [← hm] at hml
    simp at hml
    rw [← hml.1] at h0q hq2
    exact q ⟨pn2, h0q, hq2, ho2, hl2⟩
  have HNO := Lib.hid no
  clear no c0r c1r
  cases is2
  · have HB := Lib.hid hB4a
    clear his2 hsl4 hB4 hB4w hB4a
    go_wp2_with fail
    go_ret2
    refine ⟨0, 40, rfl, HB.out, .inr (.inl ⟨HK.out, HNO.out ?_, rfl, rfl⟩)⟩
    rintro ⟨pn2, h0q, hq2, ho2, _⟩
    rcases HI2.out with ⟨q, _⟩ | ⟨_, q⟩
    · cases q
    · exact q pn2 h0q hq2 ho2
  obtain ⟨s0, hl1⟩ := len1 (nd_len HAR.out his2 (k := 1) (by decide))
  obtain ⟨qop, qn, qst, ql⟩ := pn
  simp only at hl1
  subst hl1
  obtain ⟨al2, rfl⟩ := sl_some hsl4 (by simp)
  have c5 := sl_c0 (hsl4.alloc (.cells #[.int .i64 qop, .int .i64 qn, .string qst, .slice (some al2) 1 d2] 56)) (v := s0) rfl
  have hp : Hid (0 ≤ p0 ∧ ns[p0.toNat]? = some ⟨qop, qn, qst, [s0]⟩ ∧ qop = 7) := Lib.hid (by
    rcases HI2.out with ⟨_, q1, q2, q3⟩ | ⟨q, _⟩
    · exact ⟨q1, q2, q3⟩
    · cases q)
  have hk4 : (w4.alloc (.cells #[.int .i64 qop, .int .i64 qn, .string qst, .slice (some al2) 1 d2] 56)).heap[g]? = some (.cells #[.int .i64 nop, .int .i64 nn, .string nst, .slice (some al) 4 d] 56 (0, 0)) := by
    have hg4 : g < w4.heap.size := by have := hB4.size; have := HSZ.out; omega
    rw [Below.heap_alloc _ _ _ hg4, hB4.block g (by have := HSZ.out; omega)]
    exact HK3.out
  have c3 : (w4.alloc (.cells #[.int .i64 qop, .int .i64 qn, .string qst, .slice (some al2) 1 d2] 56)).cell? ⟨g, 3, none⟩ = some (.slice (some al) 4 d) := cell_of hk4 3
  have c6 := sl_cs ((HSL.out.below hB4).alloc (.cells #[.int .i64 qop, .int .i64 qn, .string qst, .slice (some al2) 1 d2] 56)) 1 (v := pl) rfl
  have HB := Lib.hid hB4a
  clear hsl4 hB4 hB4w hB4a his2 hk4
  by_cases hs : s0 = x
  rotate_left
  · have t2 : (s0 != x) = true := by rw [bne_iff_ne]; exact hs
    have HS : Hid (¬ s0 = x) := Lib.hid hs
    clear hs
    go_wp2_with fail
    go_ret2
    refine ⟨0, 40, rfl, HB.out, .inr (.inl ⟨HK.out, HNO.out ?_, rfl, rfl⟩)⟩
    rintro ⟨pn2, h0q, hq2, ho2, hl2⟩
    rw [hp.out.2.1] at hq2
    injection hq2 with hq2
    rw [← hq2] at hl2
    simp at hl2
    exact HS.out hl2
  · subst hs
    have t2 : (s0 != s0) = false := by simp
    go_wp2_with fail
    go_ret2
    exact ⟨pl, 0, rfl, HB.out, .inr (.inr ⟨HK.out, ⟨_, p0, dr, _, hq.out.1, hq.out.2.1, hq.out.2.2, rfl, hp.out.1, hp.out.2.1, hp.out.2.2, rfl⟩, rfl⟩)⟩
end Go.Proofs.YthbfaledmoobjaaDoor
