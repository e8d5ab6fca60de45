/- The walks of Expand, Derive, Seal. -/
import Derived.Test.YthbfaledmoobjaaDoorMakers
import Derived.Test.YthbfaledmoobjaaDoorNode2
namespace Go.Proofs.YthbfaledmoobjaaDoor
open Go.RowKit

/-- an arena that has grown by at most k nodes -/
def Grow (ns ns' : List NN) (k : Nat) : Prop := ns <+: ns' ∧ ns'.length ≤ ns.length + k
theorem Grow.refl (ns : List NN) (k : Nat) : Grow ns ns k := ⟨List.prefix_refl _, by omega⟩
theorem Grow.trans {a b c : List NN} {k m n : Nat} (h : Grow a b k) (g : Grow b c m) (hn : k + m ≤ n) : Grow a c n := ⟨h.1.trans g.1, by have := h.2; have := g.2; omega⟩
theorem Grow.mono {a b : List NN} {k n : Nat} (h : Grow a b k) (hn : k ≤ n) : Grow a b n := ⟨h.1, by have := h.2; omega⟩
theorem Grow.at_ {a b : List NN} {k : Nat} (h : Grow a b k) {j : Nat} {x : NN} (hx : a[j]? = some x) : b[j]? = some x := by
  obtain ⟨r, rfl⟩ := h.1
  rw [List.getElem?_append_left (List.getElem?_eq_some_iff.1 hx).1]; exact hx
theorem Grow.len {a b : List NN} {k : Nat} (h : Grow a b k) : a.length ≤ b.length := h.1.length_le
theorem Grow.has {a b : List NN} {k : Nat} (h : Grow a b k) {t : Int} (ht : hasF a t = true) : hasF b t = true := by
  unfold hasF at *
  simp at *
  have := h.len
  omega
theorem Mk.grow {ns ns' : List NN} {x : NN} {t er : Int} (h : Mk ns x t er ns') : Grow ns ns' 1 := by
  rcases h with ⟨_, _, _, rfl⟩ | ⟨_, _, _, _, rfl⟩ | ⟨_, _, _, _, _, rfl⟩ | ⟨_, _, _, _, _, rfl⟩
  · exact Grow.refl _ _
  · exact Grow.refl _ _
  · exact Grow.refl _ _
  · exact ⟨List.prefix_append _ _, by simp⟩
theorem Mk.ok {ns ns' : List NN} {x : NN} {t er : Int} (h : Mk ns x t er ns') (hm : May ns x) (hl : ns.length < 100000) : er = 0 ∧ 0 ≤ t ∧ ns'[t.toNat]? = some x := by
  rcases h with ⟨q, _⟩ | ⟨_, h0, hx, rfl, rfl⟩ | ⟨_, _, q, _⟩ | ⟨_, _, _, rfl, rfl, rfl⟩
  · exact absurd hm q
  · exact ⟨rfl, h0, hx⟩
  · omega
  · exact ⟨rfl, by omega, by rw [Int.toNat_natCast]; simp⟩
/-- whatever is answered, the arena is one, and what it had it has -/
def GrP (base b : Nat) (ns : List NN) (k : Nat) (w : World) (R : Int → Int → List NN → Prop) (e : Ending) (w' : World) : Prop :=
  ∃ t er ns', e = .returned (.tuple #[.int .i64 t, .int .i64 er]) ∧ AR w' base b ns' ∧ Af base w w' ∧ Grow ns ns' k ∧ W64 t ∧ R t er ns'
theorem MkP.gr {base b : Nat} {ns : List NN} {x : NN} {w w' : World} {e : Ending} (h : MkP base b ns x w e w') : GrP base b ns 1 w (fun t er ns' => Mk ns x t er ns') e w' := by
  obtain ⟨t, er, ns', he, h1, h2, h3⟩ := h
  refine ⟨t, er, ns', he, h1, h2, h3.grow, ?_, h3⟩
  have hl := h1.len_le
  unfold maxLen at hl
  rcases h3 with ⟨_, rfl, _⟩ | ⟨_, h0, hx, _, rfl⟩ | ⟨_, _, _, rfl, _⟩ | ⟨_, _, q, rfl, _, rfl⟩
  · exact W64.zero
  · have := (List.getElem?_eq_some_iff.1 hx).1
    unfold W64; omega
  · exact W64.zero
  · unfold W64; omega
def ExpR (ns : List NN) (s : Int) (p : ByteArray) (c : Int) (t er : Int) (ns' : List NN) : Prop :=
  knownF ns [s, c] = true → p.size ≤ 200 → ns.length + 2 ≤ 100000 → er = 0 ∧ ∃ u, 0 ≤ u ∧ ns'[u.toNat]? = some ⟨2, 0, p, []⟩ ∧ 0 ≤ t ∧ ns'[t.toNat]? = some (ofN 6 [s, u, c])
theorem may_text {ns : List NN} {p : ByteArray} (hp : p.size ≤ 200) : May ns ⟨2, 0, p, []⟩ :=
  ⟨by simp [arF], by simp [arF], by simp, by simp, hp, by simp, by simp, by simp, by simp⟩
theorem hasF_at {ns : List NN} {t : Int} {x : NN} (h0 : 0 ≤ t) (hx : ns[t.toNat]? = some x) : hasF ns t = true := by
  have := (List.getElem?_eq_some_iff.1 hx).1
  unfold hasF
  rw [decide_eq_true h0, decide_eq_true (by omega)]; rfl
theorem opF_at {ns : List NN} {t : Int} {x : NN} (hx : ns[t.toNat]? = some x) : opF ns t = x.op := by unfold opF; rw [hx]
theorem may_of {ns : List NN} {op : Int} {l : List Int} (h1 : arF op = (l.length : Int)) (h2 : l.length ≤ 64) (h3 : knownF ns l = true) (h4 : op ≠ 6) : May ns (ofN op l) :=
  ⟨by show arF op ≠ -2; omega, fun _ => h1.symm, h2, by show (0 : Int) ≤ 0; omega, by show (0 : Nat) ≤ 200; omega, fun _ => rfl, fun _ => rfl, by unfold knownF at h3; rwa [List.all_eq_true] at h3, fun q => absurd q h4⟩
theorem may_key {ns : List NN} {s u c : Int} (h3 : knownF ns [s, u, c] = true) (h4 : opF ns u = 2) : May ns (ofN 6 [s, u, c]) :=
  ⟨by show arF 6 ≠ -2; decide, fun _ => rfl, by show 3 ≤ 64; omega, by show (0 : Int) ≤ 0; omega, by show (0 : Nat) ≤ 200; omega, fun _ => rfl, fun _ => rfl, by unfold knownF at h3; rwa [List.all_eq_true] at h3, fun _ => h4⟩
set_option maxRecDepth 100000 in
set_option maxHeartbeats 1000000 in
theorem expand_ok (base b : Nat) (ns : List NN) (s c : Int) (p : ByteArray) (w : World) (h : AR w base b ns) (hs : W64 s) (hc : W64 c) (hT : Tb base w) :
    Calls Tryd.prog 24 #[.pointer (some ⟨b, 0, none⟩), .int .i64 s, .string p, .int .i64 c] w (GrP base b ns 2 w (ExpR ns s p c)) := by
  have hb := h.base_le
  have HB : Hid (base ≤ w.heap.size) := Lib.hid hb
  have HKN := Lib.hid (known_ok base b ns (some ⟨w.heap.size, 0, none⟩) 2 2 [s, c] (w.alloc (.cells #[.int .i64 s, .int .i64 c] 3)) (h.alloc _) (sl_row w [s, c] (by simp [maxLen])))
  have HAR := Lib.hid h
  have HT := Lib.hid hT
  have HS := Lib.hid (And.intro hs hc)
  obtain ⟨kn, hkn⟩ : ∃ kn, knownF ns [s, c] = kn := ⟨_, rfl⟩
  rw [hkn] at HKN
  have HK := Lib.hid hkn
  clear h hT hs hc hkn hb
  go_enter Tryd.func24, Tryd.ntmps24
  go_wp2_with (go_at_call 29; refine HKN.out.mono ?_; rintro e w1 ⟨rfl, hB1⟩; refine Hid.out ?_)
  refine Lib.hid ?_
  have hBw : Below w.heap.size w w1 := ((Below.refl _ w).alloc (Nat.le_refl _) _).trans (hB1.mono (by simp))
  have hAf1 := Af.of hBw HB.out
  have hR1 := (HAR.out).below hBw
  have hT1 := (HT.out).on hAf1.below
  cases kn
  · have HAf := Lib.hid hAf1; have HR1 := Lib.hid hR1
    clear hB1 hBw hAf1 hR1 hT1
    go_wp2_with fail
    go_ret2
    exact ⟨0, 1, ns, rfl, HR1.out, HAf.out, Grow.refl _ _, W64.zero, fun q => by rw [HK.out] at q; cases q⟩
  have HTX := Lib.hid (text_ok base b ns p w1 hR1 hT1)
  have HAf := Lib.hid hAf1; have HT1 := Lib.hid hT1
  clear hB1 hBw hAf1 hR1 hT1
  go_wp2_with (go_at_call 33; refine HTX.out.mono ?_; rintro e w2 hP; obtain ⟨u, er, ns2, rfl, hR2, hA2, hG2, hW2, hM2⟩ := hP.gr; refine Hid.out ?_)
  refine Lib.hid ?_
  clear hP
  have hT2 := (HT1.out).on hA2.below
  have hA02 := (HAf.out).trans hA2
  have hb2 := hR2.base_le
  by_cases her : er = 0
  rotate_left
  · have t1 : (er != 0) = true := by rw [bne_iff_ne]; exact her
    have HN : Hid (¬ er = 0) := Lib.hid her
    have HR2 := Lib.hid hR2; have HA02 := Lib.hid hA02; have HM2 := Lib.hid hM2; have HG2 := Lib.hid hG2
    clear hR2 hA02 hM2 hG2 hT2 hA2 hb2 her
    go_wp2_with fail
    go_ret2
    exact ⟨0, er, ns2, rfl, HR2.out, HA02.out, HG2.out.mono (by omega), W64.zero, fun _ hp hl => absurd ((HM2.out).ok (may_text hp) (by omega)).1 HN.out⟩
  subst her
  have HOF := Lib.hid (of_ok base b ns2 6 (some ⟨w2.heap.size, 0, none⟩) 3 3 [s, u, c] (w2.alloc (.cells #[.int .i64 s, .int .i64 u, .int .i64 c] 3)) (hR2.alloc _) (sl_row w2 [s, u, c] (by simp [maxLen])) (by unfold W64; omega) (by simp; exact ⟨HS.out.1, hW2, HS.out.2⟩) (hT2.on ((Below.refl _ w2).alloc hb2 _)))
  have HA02 := Lib.hid hA02; have HM2 := Lib.hid hM2; have HG2 := Lib.hid hG2; have HB2 := Lib.hid hb2
  clear hR2 hA02 hM2 hG2 hT2 hA2 hb2
  go_wp2_with (go_at_call 31; refine HOF.out.mono ?_; rintro e w3 hP; obtain ⟨t, er, ns3, rfl, hR3, hA3, hG3, hW3, hM3⟩ := hP.gr; refine Hid.out ?_)
  refine Lib.hid ?_
  have HR3 := Lib.hid hR3; have HA3 := Lib.hid hA3; have HM3 := Lib.hid hM3; have HG3 := Lib.hid hG3; have HW3 := Lib.hid hW3
  clear hP hR3 hA3 hM3 hG3 hW3 hW2
  go_wp2_with fail
  go_ret2
  refine ⟨t, er, ns3, rfl, HR3.out, HA02.out.trans ((Af.row HB2.out _).trans HA3.out), HG2.out.trans HG3.out (by omega), HW3.out, fun hk hp hl => ?_⟩
  obtain ⟨_, hu0, hu⟩ := (HM2.out).ok (may_text hp) (by omega)
  have h2 := HG2.out.2
  have hkn : knownF ns2 [s, u, c] = true := by
    unfold knownF at *
    simp at hk
    simp
    exact ⟨HG2.out.has hk.1, hasF_at hu0 hu, HG2.out.has hk.2⟩
  obtain ⟨he, ht0, ht⟩ := (HM3.out).ok (may_key hkn (opF_at hu)) (by omega)
  exact ⟨he, u, hu0, HG3.out.at_ hu, ht0, ht⟩
set_option maxRecDepth 100000 in
set_option maxHeartbeats 1000000 in
theorem derive_ok (base b : Nat) (ns : List NN) (s : Int) (p : ByteArray) (w : World) (h : AR w base b ns) (hs : W64 s) (hT : Tb base w) :
    Calls Tryd.prog 35 #[.pointer (some ⟨b, 0, none⟩), .int .i64 s, .string p] w (GrP base b ns 3 w (fun _ _ _ => True)) := by
  have hb := h.base_le
  have HB : Hid (base ≤ w.heap.size) := Lib.hid hb
  have HKN := Lib.hid (known_ok base b ns (some ⟨w.heap.size, 0, none⟩) 1 1 [s] (w.alloc (.cells #[.int .i64 s] 3)) (h.alloc _) (sl_row w [s] (by simp [maxLen])))
  have HAR := Lib.hid h
  have HT := Lib.hid hT
  have HS := Lib.hid hs
  obtain ⟨kn, hkn⟩ : ∃ kn, knownF ns [s] = kn := ⟨_, rfl⟩
  rw [hkn] at HKN
  clear h hT hs hkn hb
  go_enter Tryd.func35, Tryd.ntmps35
  go_wp2_with (go_at_call 29; refine HKN.out.mono ?_; rintro e w1 ⟨rfl, hB1⟩; refine Hid.out ?_)
  refine Lib.hid ?_
  have hBw : Below w.heap.size w w1 := ((Below.refl _ w).alloc (Nat.le_refl _) _).trans (hB1.mono (by simp))
  have hAf1 := Af.of hBw HB.out
  have hR1 := (HAR.out).below hBw
  have hT1 := (HT.out).on hAf1.below
  cases kn
  · have HAf := Lib.hid hAf1; have HR1 := Lib.hid hR1
    clear hB1 hBw hAf1 hR1 hT1
    go_wp2_with fail
    go_ret2
    exact ⟨0, 1, ns, rfl, HR1.out, HAf.out, Grow.refl _ _, W64.zero, trivial⟩
  have HLI := Lib.hid (list_ok base b ns none 0 0 [] w1 hR1 (Sl.none w1) (by simp) hT1)
  have HAf := Lib.hid hAf1; have HT1 := Lib.hid hT1
  clear hB1 hBw hAf1 hR1 hT1
  go_wp2_with (go_at_call 34; refine HLI.out.mono ?_; rintro e w2 hP; obtain ⟨u, er, ns2, rfl, hR2, hA2, hG2, hW2, hM2⟩ := hP.gr; refine Hid.out ?_)
  refine Lib.hid ?_
  clear hP
  have hT2 := (HT1.out).on hA2.below
  have hA02 := (HAf.out).trans hA2
  by_cases her : er = 0
  rotate_left
  · have t1 : (er != 0) = true := by rw [bne_iff_ne]; exact her
    have HR2 := Lib.hid hR2; have HA02 := Lib.hid hA02; have HG2 := Lib.hid hG2
    clear hR2 hA02 hM2 hG2 hT2 hA2 her
    go_wp2_with fail
    go_ret2
    exact ⟨0, er, ns2, rfl, HR2.out, HA02.out, HG2.out.mono (by omega), W64.zero, trivial⟩
  subst her
  have HEX := Lib.hid (expand_ok base b ns2 s u p w2 hR2 HS.out hW2 hT2)
  have HA02 := Lib.hid hA02; have HG2 := Lib.hid hG2
  clear hR2 hA02 hM2 hG2 hT2 hA2 hW2
  go_wp2_with (go_at_call 24; refine HEX.out.mono ?_; rintro e w3 ⟨t, er, ns3, rfl, hR3, hA3, hG3, hW3, _⟩; refine Hid.out ?_)
  refine Lib.hid ?_
  have HR3 := Lib.hid hR3; have HA3 := Lib.hid hA3; have HG3 := Lib.hid hG3; have HW3 := Lib.hid hW3
  clear hR3 hA3 hG3 hW3
  go_wp2_with fail
  go_ret2
  exact ⟨t, er, ns3, rfl, HR3.out, HA02.out.trans HA3.out, HG2.out.trans HG3.out (by omega), HW3.out, trivial⟩
def SealR (ns : List NN) (pk aad plain draw : Int) (t er : Int) (ns' : List NN) : Prop :=
  ∀ y, 0 ≤ pk → ns[pk.toNat]? = some y → y.op = 7 → Mk ns (ofN 8 [pk, aad, plain, draw]) t er ns'
set_option maxRecDepth 100000 in
set_option maxHeartbeats 1000000 in
theorem seal_ok (base b : Nat) (ns : List NN) (x y z u : Int) (w : World) (h : AR w base b ns) (hx : W64 x) (hy : W64 y) (hz : W64 z) (hu : W64 u) (hT : Tb base w) :
    Calls Tryd.prog 21 #[.pointer (some ⟨b, 0, none⟩), .int .i64 x, .int .i64 y, .int .i64 z, .int .i64 u] w (GrP base b ns 1 w (SealR ns x y z u)) := by
  have hb := h.base_le
  have HB : Hid (base ≤ w.heap.size) := Lib.hid hb
  have HND := Lib.hid (nd_ok base b ns x 7 w h)
  have HAR := Lib.hid h
  have HT := Lib.hid hT
  have HS : Hid (∀ v ∈ [x, y, z, u], W64 v) := Lib.hid (by simp; exact ⟨hx, hy, hz, hu⟩)
  clear h hT hx hy hz hu hb
  go_enter Tryd.func21, Tryd.ntmps21
  go_wp2_with (go_at_call 30; refine HND.out.mono ?_; rintro e w1 ⟨n, B, d, is, rfl, hsl, hB1, his⟩; refine Hid.out ?_)
  refine Lib.hid ?_
  have hB2 : Below w.heap.size w (w1.alloc (.cells #[.int .i64 n.op, .int .i64 n.n, .string n.s, .slice B n.l.length d] 56)) := hB1.alloc (by have := hB1.size; omega) _
  have hR2 := (HAR.out).below hB2
  have hAf2 := Af.of hB2 HB.out
  have HI := Lib.hid his
  cases is
  · have HAf := Lib.hid hAf2; have HR := Lib.hid hR2
    clear hB1 hB2 hAf2 hR2 hsl his
    go_wp2_with fail
    go_ret2
    refine ⟨0, 1, ns, rfl, HR.out, HAf.out, Grow.refl _ _, W64.zero, fun y h0 hy h7 => ?_⟩
    rcases HI.out with ⟨q, _⟩ | ⟨_, q⟩
    · cases q
    · exact absurd h7 (q y h0 hy)
  · have hb2 := hR2.base_le
    have hT2 := (HT.out).on hAf2.below
    have HOF := Lib.hid (of_ok base b ns 8 (some ⟨(w1.alloc (.cells #[.int .i64 n.op, .int .i64 n.n, .string n.s, .slice B n.l.length d] 56)).heap.size, 0, none⟩) 4 4 [x, y, z, u] ((w1.alloc (.cells #[.int .i64 n.op, .int .i64 n.n, .string n.s, .slice B n.l.length d] 56)).alloc (.cells #[.int .i64 x, .int .i64 y, .int .i64 z, .int .i64 u] 3)) (hR2.alloc _) (sl_row _ [x, y, z, u] (by simp [maxLen])) (by unfold W64; omega) HS.out (hT2.on ((Below.refl _ _).alloc hb2 _)))
    rw [World.size_alloc] at HOF
    have HAf := Lib.hid hAf2; have HB2 := Lib.hid hb2
    clear hB1 hB2 hAf2 hR2 hsl his hT2 hb2
    go_wp2_with (go_at_call 31; refine HOF.out.mono ?_; rintro e w3 hP; obtain ⟨t, er, ns3, rfl, hR3, hA3, hG3, hW3, hM3⟩ := hP.gr; refine Hid.out ?_)
    refine Lib.hid ?_
    have HR3 := Lib.hid hR3; have HA3 := Lib.hid hA3; have HM3 := Lib.hid hM3; have HG3 := Lib.hid hG3; have HW3 := Lib.hid hW3
    clear hP hR3 hA3 hM3 hG3 hW3
    go_wp2_with fail
    go_ret2
    exact ⟨t, er, ns3, rfl, HR3.out, HAf.out.trans ((Af.row HB2.out _).trans HA3.out), HG3.out, HW3.out, fun _ _ _ _ => HM3.out⟩
end Go.Proofs.YthbfaledmoobjaaDoor
