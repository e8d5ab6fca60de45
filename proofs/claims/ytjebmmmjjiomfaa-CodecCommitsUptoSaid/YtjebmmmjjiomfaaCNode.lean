/- The walks of a writer's list and node. -/
import Derived.Test.YtjebmmmjjiomfaaCInts
import Derived.Test.YtjebmmmjjiomfaaCSame2
import Derived.RegionTactic
namespace Go.Proofs.Ytjebmmmjjiomfaa
open Go.RowKit

theorem WEnd.pre {p : Nat} {l : List UInt8} {o : Option (List UInt8)} {w w1 w' : World} {e : Ending} (h : WEnd p l o w1 e w') (k : KW p w w1) : WEnd p l o w e w' := by
  rcases h with ⟨b, h1, h2, h3, h4⟩ | ⟨h1, h2, h3⟩
  · exact .inl ⟨b, h1, h2, h3, k.trans h4⟩
  · exact .inr ⟨h1, h2, k.trans h3⟩
theorem hmfT : ∀ (fn : Fn) (first cap : Array Value) (w : World), (Instr.makeFunc fn first cap).run Try.prog w = .ok (.func fn first cap) w := fun _ _ _ _ => rfl
theorem cf122 (args : Array Value) (w : World) : (callFunc 122 args).run Try.prog w = .ok (.enter 122 args) w := by kernel_rfl
/-- list$1: numbers, out of a box -/
theorem wlist1_ok (q g : Nat) (l : List UInt8) (A : Option Addr) (n c : Nat) (ns : List Int) (w : World) (h : WR w q l) (hs : SlK w q A n c (iv ns)) (hg : w.cell? ⟨g, 0, none⟩ = some (.slice A n c)) (hb : Hid (l.length + 4 * n ≤ 70368744177664)) :
    Calls Try.prog 122 #[.pointer (some ⟨q, 0, none⟩), .pointer (some ⟨g, 0, none⟩)] w (WEnd q l (nsI ns) w) := by
  have H := Lib.hid (wints_ok q l A n c ns w h hs hb)
  go_enter Try.func122, Try.ntmps122
  go_wp2_with fail
  refine H.out.mono ?_
  rintro e w1 (⟨b, h1, rfl, h3, h4⟩ | ⟨h1, rfl, h3⟩)
  · go_wp2_with fail
    go_end0
    exact .inl ⟨b, h1, rfl, h3, h4⟩
  · simp [bodyPost]
    exact .inr ⟨h1, rfl, h3⟩
theorem wlist_ok (p : Nat) (l : List UInt8) (A : Option Addr) (n c : Nat) (ns : List Int) (w : World) (h : WR w p l) (hs : Sl w A n c (iv ns)) (hb : Hid (l.length + 4 * n + 1073741828 ≤ 70368744177664)) :
    Calls Try.prog 117 #[.pointer (some ⟨p, 0, none⟩), .slice A n c] w (WEnd p l ((nsI ns).bind vecB) w) := by
  have hmf := hmfT
  have hpw := h.bit
  have hK : KW p w (w.alloc (.cells #[.slice A n c] 65)) := (KW.refl p w).alloc (by omega) _
  have hz : (w.alloc (.cells #[.slice A n c] 65)).heap.size = w.heap.size + 1 := by simp
  have hin : Calls Try.prog 122 #[.pointer (some ⟨w.heap.size + 1, 0, none⟩), .pointer (some ⟨w.heap.size, 0, none⟩)] ((w.alloc (.cells #[.slice A n c] 65)).alloc (.cells #[.slice none 0 0] 126)) (WEnd (w.heap.size + 1) [] (nsI ns) ((w.alloc (.cells #[.slice A n c] 65)).alloc (.cells #[.slice none 0 0] 126))) := by
    refine wlist1_ok _ _ [] A n c ns _ ?_ ?_ ?_ (by have := hb.out; show _ ≤ _; simp; omega)
    · have := WR.new (w.alloc (.cells #[.slice A n c] 65)); rwa [hz] at this
    · have h2 := (hs.alloc (.cells #[.slice A n c] 65)).alloc (.cells #[.slice none 0 0] 126)
      refine ⟨h2, ?_⟩
      rcases hs.lies with e | ⟨ad, rfl, hc⟩
      · exact .inl e
      · by_cases hx : iv ns = []
        · exact .inl hx
        · have := hs.lies.blk rfl hx
          exact .inr ⟨ad, rfl, Saf.low (by omega) (by simp; omega)⟩
    · have e := heap_alloc_new w (.cells #[.slice A n c] 65)
      have e2 : ((w.alloc (.cells #[.slice A n c] 65)).alloc (.cells #[.slice none 0 0] 126)).heap[w.heap.size]? = some (.cells #[.slice A n c] 65) := (Below.heap_alloc _ _ _ (by simp)).trans e
      exact cell_of e2 0
  have hv := wvec_ok p l 122 #[.pointer (some ⟨w.heap.size, 0, none⟩)] (nsI ns) (w.alloc (.cells #[.slice A n c] 65)) (h.alloc _) (by show _ ≤ _; have := hb.out; omega) cf122 (by rw [hz]; exact hin)
  have HV := Lib.hid hv; have HK := Lib.hid hK
  clear hv hin hK hz
  go_enter Try.func117, Try.ntmps117
  go_wp2_with fail
  refine HV.out.mono ?_
  intro e w1 hE
  rcases hE.pre HK.out with ⟨b, h1, rfl, h3, h4⟩ | ⟨h1, rfl, h3⟩
  · go_wp2_with fail
    go_end0
    exact .inl ⟨b, h1, rfl, h3, h4⟩
  · simp [bodyPost]
    exact .inr ⟨h1, rfl, h3⟩

/-- a row that was just laid -/
theorem SlK.lit (w : World) (p : Nat) (xs : List Int) (cs : Array Value) (hcs : cs.toList = iv xs) (n : Nat) (hn : xs.length = n) (hp : p < w.heap.size) (hx : n ≤ 1000) : SlK (w.alloc (.cells cs 3)) p (some ⟨w.heap.size, 0, none⟩) n n (iv xs) := by
  refine ⟨⟨by simpa using hn, Nat.le_refl _, by unfold maxLen; omega, ?_⟩, .inr ⟨_, rfl, Saf.typed (heap_alloc_new w _) (by show _ ≠ _; simp; omega) (by decide)⟩⟩
  rw [← hcs]; exact lies_cells w cs 3
abbrev nc (s : TN) (A : Option Addr) (n c : Nat) : Array Value := #[.int .i64 s.k, .int .i64 s.id, .int .i64 s.enc, .int .i64 s.sig, .int .i64 s.hash, .slice A n c]
/-- the world ahead of a node's first number -/
abbrev nw (w : World) (s : TN) (A : Option Addr) (n c : Nat) : World := (w.alloc (.cells (nc s A n c) 67)).alloc (.cells (nc s none 0 0) 67)
/-- a store into a block of the call's own -/
theorem KW.store {p b o : Nat} {w w2 : World} (h : KW p w w2) (hb : w.heap.size ≤ b) (hp : p ≤ b) (v : Value) : KW p w (w2.setCell ⟨b, o, none⟩ v) :=
  ⟨h.below.setCell (p := ⟨b, o, none⟩) hp v, fun k x hk hkp hx => by
    have := (Array.getElem?_eq_some_iff.1 hk).1
    rw [Below.heap_setCell _ _ _ _ (by show k ≠ b; omega)]
    exact h.keep k x hk hkp hx⟩
def IsT (w : World) (b : Nat) (t : TypeId) : Prop := ∃ cs fz, w.heap[b]? = some (.cells cs t fz)
theorem IsT.set {w : World} {b : Nat} {t : TypeId} (h : IsT w b t) (q : Addr) (v : Value) : IsT (w.setCell q v) b t := by
  obtain ⟨cs, fz, h⟩ := h
  by_cases e : b = q.block
  · subst e
    exact ⟨_, _, by simp only [World.setCell, Array.getElem?_modify, if_true, h, Option.map_some]; rfl⟩
  · exact ⟨cs, fz, (Below.heap_setCell _ _ _ _ e).trans h⟩
theorem WR.store {w : World} {p b o : Nat} {l : List UInt8} (h : WR w p l) (hb : IsT w b 67) (hp : p ≠ b) (v : Value) : WR (w.setCell ⟨b, o, none⟩ v) p l := by
  obtain ⟨cs, fz, hb⟩ := hb
  obtain ⟨A, c, h1, h2⟩ := h
  refine ⟨A, c, (Below.heap_setCell _ _ _ _ hp).trans h1, ?_⟩
  obtain ⟨hl, hv | ⟨g, cap, cur, hv, hg2, hh, r⟩⟩ := h2
  · exact ⟨hl, .inl hv⟩
  · exact ⟨hl, .inr ⟨g, cap, cur, hv, hg2, (Below.heap_setCell _ _ _ _ (by show g ≠ b; intro e; rw [e, hb] at hh; injection hh with hh; injection hh with _ hh; cases hh)).trans hh, r⟩⟩
theorem seqB_nil (o : Option (List UInt8)) : seqB (some []) o = o := by cases o <;> rfl
theorem nodeB_kind {s : TN} (h : nsI [s.k] = none) : nodeB s = none := by
  unfold nodeB
  by_cases h0 : s.k = 0
  · rw [h0] at h; exact absurd h (by decide)
  · rw [if_neg h0]
    by_cases h1 : s.k = 1
    · rw [h1] at h; exact absurd h (by decide)
    · rw [if_neg h1]
      by_cases h2 : s.k = 2
      · rw [h2] at h; exact absurd h (by decide)
      · rw [if_neg h2]
def zN : TN := ⟨0, 0, 0, 0, 0, []⟩
theorem node0_yes {s : TN} (h : s = zN) : nodeB s = nsI [s.k] := by subst h; rfl
theorem node0_no {s : TN} (hk : s.k = 0) (h : s ≠ zN) : nodeB s = none := by
  unfold nodeB
  rw [if_pos hk, if_neg]
  rintro ⟨a, b, c, d, e⟩
  apply h
  obtain ⟨s0, s1, s2, s3, s4, s5⟩ := s
  simp only at hk a b c d e
  subst hk a b c d e
  rfl
theorem node1_yes {s : TN} (hk : s.k = 1) (h : s.un = []) : nodeB s = seqB (nsI [s.k]) (nsI [s.id, s.enc, s.sig, s.hash]) := by
  unfold nodeB
  rw [if_neg (by omega), if_pos hk, if_pos h, hk, nsI_cons, nsI_cons 1 [], show nsI [] = some [] from rfl, seqB_assoc, seqB_nil]
theorem node1_no {s : TN} (hk : s.k = 1) (h : s.un ≠ []) : nodeB s = none := by
  unfold nodeB; rw [if_neg (by omega), if_pos hk, if_neg h]
theorem node1_none {s : TN} (hk : s.k = 1) (h : nsI [s.id, s.enc, s.sig, s.hash] = none) : nodeB s = none := by
  by_cases e : s.un = []
  · rw [node1_yes hk e, h, seqB_none']
  · exact node1_no hk e
theorem node2_yes {s : TN} (hk : s.k = 2) (h : s.id = 0 ∧ s.sig = 0) : nodeB s = seqB (nsI [s.k]) (seqB (nsI [s.enc, s.hash]) ((nsI s.un).bind vecB)) := by
  unfold nodeB
  rw [if_neg (by omega), if_neg (by omega), if_pos hk, if_pos h, hk, nsI_cons, nsI_cons 2 [], show nsI [] = some [] from rfl, seqB_assoc, seqB_assoc, seqB_nil]
theorem node2_no {s : TN} (hk : s.k = 2) (h : ¬ (s.id = 0 ∧ s.sig = 0)) : nodeB s = none := by
  unfold nodeB; rw [if_neg (by omega), if_neg (by omega), if_pos hk, if_neg h]
theorem node2_none {s : TN} (hk : s.k = 2) (h : seqB (nsI [s.enc, s.hash]) ((nsI s.un).bind vecB) = none) : nodeB s = none := by
  by_cases e : s.id = 0 ∧ s.sig = 0
  · rw [node2_yes hk e, h, seqB_none']
  · exact node2_no hk e
theorem nodeX {s : TN} (h0 : s.k ≠ 0) (h1 : s.k ≠ 1) (h2 : s.k ≠ 2) : nodeB s = none := by
  unfold nodeB; rw [if_neg h0, if_neg h1, if_neg h2]
theorem same_bare {s : TN} : sameN s ⟨s.k, s.id, s.enc, s.sig, s.hash, []⟩ = decide (s.un = []) := by
  by_cases e : s.un = []
  · rw [decide_eq_true e]; apply sameN_yes; obtain ⟨s0, s1, s2, s3, s4, s5⟩ := s; simp only at e ⊢; rw [e]
  · rw [decide_eq_false e]; apply sameN_no; intro h; exact e (congrArg TN.un h)
theorem same_bare2 {s : TN} : sameN s ⟨s.k, 0, s.enc, 0, s.hash, s.un⟩ = decide (s.id = 0 ∧ s.sig = 0) := by
  by_cases e : s.id = 0 ∧ s.sig = 0
  · rw [decide_eq_true e]; apply sameN_yes; obtain ⟨s0, s1, s2, s3, s4, s5⟩ := s; simp only at e ⊢; rw [e.1, e.2]
  · rw [decide_eq_false e]; apply sameN_no; intro h; exact e ⟨congrArg TN.id h, congrArg TN.sig h⟩
set_option maxRecDepth 100000 in
set_option maxHeartbeats 8000000 in
theorem wnode_ok (p : Nat) (l : List UInt8) (A : Option Addr) (n c : Nat) (s : TN) (w : World) (h : WR w p l) (hs : SlK w p A n c (iv s.un)) (hb : Hid (l.length + 4 * n + 1073741900 ≤ 70368744177664)) :
    Calls Try.prog 99 #[.pointer (some ⟨p, 0, none⟩), nv s A n c] w (WEnd p l (nodeB s) w) := by
  have hpw := h.bit
  obtain ⟨g, hg⟩ : ∃ g, w.heap.size = g := ⟨_, rfl⟩
  have hz : (nw w s A n c).heap.size = g + 1 + 1 := by simp [hg]
  have hK0 : KW p w (nw w s A n c) := ((KW.refl p w).alloc (by omega) _).alloc (by simp; omega) _
  have hW0 : WR (nw w s A n c) p l := (h.alloc _).alloc _
  have k3 : (nw w s A n c).heap[g]? = some (.cells (nc s A n c) 67) := by
    rw [Below.heap_alloc _ _ _ (by simp; omega), ← hg]; exact heap_alloc_new _ _
  have k4 : (nw w s A n c).heap[g + 1]? = some (.cells (nc s none 0 0) 67) := by
    have := heap_alloc_new (w.alloc (.cells (nc s A n c) 67)) (.cells (nc s none 0 0) 67)
    rwa [show (w.alloc (.cells (nc s A n c) 67)).heap.size = g + 1 by simp [hg]] at this
  have H1 := wints_ok p l (some ⟨g + 1 + 1, 0, none⟩) 1 1 [s.k] ((nw w s A n c).alloc (.cells #[.int .i64 s.k] 3)) (hW0.alloc _) (by have := SlK.lit (nw w s A n c) p [s.k] #[.int .i64 s.k] rfl 1 rfl (by rw [hz]; omega) (by omega); rwa [hz] at this) (by show _ ≤ _; have := hb.out; omega)
  have hK1 := hK0.alloc (by rw [hz]; omega) (.cells #[.int .i64 s.k] 3)
  have k3' : ((nw w s A n c).alloc (.cells #[.int .i64 s.k] 3)).heap[g]? = some (.cells (nc s A n c) 67) := (Below.heap_alloc _ _ _ (by rw [hz]; omega)).trans k3
  have k4' : ((nw w s A n c).alloc (.cells #[.int .i64 s.k] 3)).heap[g + 1]? = some (.cells (nc s none 0 0) 67) := (Below.heap_alloc _ _ _ (by rw [hz]; omega)).trans k4
  have HK1 := Lib.hid hK1; have HC1 := Lib.hid H1; have K3 := Lib.hid k3'; have K4 := Lib.hid k4'; have HG := Lib.hid hg; have HSL := Lib.hid hs
  have hpg : p < g := by omega
  clear hK0 hW0 k3 k4 H1 hK1 k3' k4' h hpw hz
  unfold nv
  go_enter Try.func99, Try.ntmps99
  go_wp2_with fail
  refine Calls.mono HC1.out ?_
  rintro e w1 (⟨b, h1, rfl, hW1, hK⟩ | ⟨h1, rfl, hK⟩)
  · have kg := hK.typed K3.out (by omega) (by decide)
    have kh := hK.typed K4.out (by omega) (by decide)
    have hKw := HK1.out.trans hK
    have hsl := HSL.out.kw hKw
    have g0 := cell_of kg 0; have g1 := cell_of kg 1; have g2 := cell_of kg 2; have g3 := cell_of kg 3; have g4 := cell_of kg 4; have g5 := cell_of kg 5
    have d0 := cell_of kh 0; have d1 := cell_of kh 1; have d2 := cell_of kh 2; have d3 := cell_of kh 3; have d4 := cell_of kh 4; have d5 := cell_of kh 5
    have z0 := frz_of kh 0; have z1 := frz_of kh 1; have z2 := frz_of kh 2; have z3 := frz_of kh 3; have z4 := frz_of kh 4; have z5 := frz_of kh 5
    have HKW := Lib.hid hKw
    clear hKw hK
    by_cases hk0 : s.k = 0
    · have t : (s.k == 0) = true := by rw [beq_iff_eq]; exact hk0
      have HK0 := Lib.hid hk0
      clear hk0
      have hT : IsT w1 (g + 1) 67 := ⟨_, _, kh⟩
      obtain ⟨wx, hwx⟩ : ∃ wx, (((((w1.setCell ⟨g + 1, 0, none⟩ (.int .i64 0)).setCell ⟨g + 1, 1, none⟩ (.int .i64 0)).setCell ⟨g + 1, 2, none⟩ (.int .i64 0)).setCell ⟨g + 1, 3, none⟩ (.int .i64 0)).setCell ⟨g + 1, 4, none⟩ (.int .i64 0)).setCell ⟨g + 1, 5, none⟩ (.slice none 0 0) = wx := ⟨_, rfl⟩
      have hKx : KW p w wx := by
        rw [← hwx]
        exact (((((HKW.out.store (by omega) (by omega) _).store (by omega) (by omega) _).store (by omega) (by omega) _).store (by omega) (by omega) _).store (by omega) (by omega) _).store (by omega) (by omega) _
      have hWx : WR wx p (l ++ b) := by
        rw [← hwx]
        exact (((((hW1.store hT (by omega) _).store (hT.set _ _) (by omega) _).store ((hT.set _ _).set _ _) (by omega) _).store (((hT.set _ _).set _ _).set _ _) (by omega) _).store ((((hT.set _ _).set _ _).set _ _).set _ _) (by omega) _).store (((((hT.set _ _).set _ _).set _ _).set _ _).set _ _) (by omega) _
      have HS := Lib.hid (same_any A none n 0 c 0 s zN wx (HSL.out.kw hKx).1 (Sl.none _))
      have hpx := hWx.bit
      have HWX := Lib.hid hwx
      clear hwx
      go_wp2_with fail
      rw [HWX.out]
      clear g0 g1 g2 g3 g4 g5 d0 d1 d2 d3 d4 d5 z0 z1 z2 z3 z4 z5 hT hsl kg kh hW1
      by_cases hs : s = zN
      · rw [sameN_yes hs] at HS
        have HN := Lib.hid (node0_yes hs)
        refine Calls.mono HS.out ?_
        rintro e w2 ⟨rfl, hB2⟩
        go_wp2_with (go_at_call 85; refine (must_ok _).mono ?_; rintro e w1 ⟨rfl, rfl⟩)
        go_end0
        exact .inl ⟨b, by rw [HN.out, h1], rfl, hWx.below hB2, hKx.trans (KW.of hB2 (by omega))⟩
      · rw [sameN_no hs] at HS
        have HN := Lib.hid (node0_no HK0.out hs)
        refine Calls.mono HS.out ?_
        rintro e w2 ⟨rfl, hB2⟩
        go_wp2_with (go_at_call 85; refine (must_no _).mono ?_; rintro e w1 ⟨rfl, rfl⟩)
        simp [bodyPost]
        exact .inr ⟨HN.out, rfl, hKx.trans (KW.of hB2 (by omega))⟩
    · by_cases hk1 : s.k = 1
      · have t0 : (s.k == 0) = false := by rw [beq_eq_false_iff_ne]; exact hk0
        have t : (s.k == 1) = true := by rw [beq_iff_eq]; exact hk1
        have HKK := Lib.hid hk1
        clear hk0 hk1
        have H2 := wints_ok p (l ++ b) (some ⟨w1.heap.size, 0, none⟩) 4 4 [s.id, s.enc, s.sig, s.hash] (w1.alloc (.cells #[.int .i64 s.id, .int .i64 s.enc, .int .i64 s.sig, .int .i64 s.hash] 3)) (hW1.alloc _) (SlK.lit w1 p [s.id, s.enc, s.sig, s.hash] #[.int .i64 s.id, .int .i64 s.enc, .int .i64 s.sig, .int .i64 s.hash] rfl 4 rfl hW1.bit (by omega)) (by show _ ≤ _; have := hb.out; have := nsI_len h1; simp at this ⊢; omega)
        have HC2 := Lib.hid H2
        have HKa := Lib.hid ((HKW.out).alloc (Nat.le_of_lt hW1.bit) (.cells #[.int .i64 s.id, .int .i64 s.enc, .int .i64 s.sig, .int .i64 s.hash] 3))
        have hgs : g + 1 < w1.heap.size := (Array.getElem?_eq_some_iff.1 kh).1
        have KG := Lib.hid ((Below.heap_alloc w1 (.cells #[.int .i64 s.id, .int .i64 s.enc, .int .i64 s.sig, .int .i64 s.hash] 3) g (by omega)).trans kg)
        have KH := Lib.hid ((Below.heap_alloc w1 (.cells #[.int .i64 s.id, .int .i64 s.enc, .int .i64 s.sig, .int .i64 s.hash] 3) (g + 1) (by omega)).trans kh)
        clear H2
        go_wp2_with fail
        clear g0 g1 g2 g3 g4 g5 d0 d1 d2 d3 d4 d5 z0 z1 z2 z3 z4 z5 hsl kg kh hW1
        refine Calls.mono HC2.out ?_
        rintro e w2 (⟨b2, h2, rfl, hW2, hK2⟩ | ⟨h2, rfl, hK2⟩)
        · have kg := hK2.typed KG.out (by omega) (by decide)
          have kh := hK2.typed KH.out (by omega) (by decide)
          have hKx := HKa.out.trans hK2
          have g0 := cell_of kg 0; have g1 := cell_of kg 1; have g2 := cell_of kg 2; have g3 := cell_of kg 3; have g4 := cell_of kg 4; have g5 := cell_of kg 5
          have d0 := cell_of kh 0; have d1 := cell_of kh 1; have d2 := cell_of kh 2; have d3 := cell_of kh 3; have d4 := cell_of kh 4; have d5 := cell_of kh 5
          have HS := Lib.hid (same_any A none n 0 c 0 s ⟨s.k, s.id, s.enc, s.sig, s.hash, []⟩ w2 (HSL.out.kw hKx).1 (Sl.none _))
          have hpx := hW2.bit
          rw [same_bare] at HS
          go_wp2_with fail
          clear g0 g1 g2 g3 g4 g5 d0 d1 d2 d3 d4 d5 kg kh
          by_cases hs : s.un = []
          · rw [decide_eq_true hs] at HS
            have HN := Lib.hid (node1_yes HKK.out hs)
            refine Calls.mono HS.out ?_
            rintro e w3 ⟨rfl, hB3⟩
            go_wp2_with (go_at_call 85; refine (must_ok _).mono ?_; rintro e w1 ⟨rfl, rfl⟩)
            go_end0
            rw [List.append_assoc] at hW2
            exact .inl ⟨b ++ b2, by rw [HN.out, h1, h2, seqB_yes], rfl, hW2.below hB3, hKx.trans (KW.of hB3 (by omega))⟩
          · rw [decide_eq_false hs] at HS
            have HN := Lib.hid (node1_no HKK.out hs)
            refine Calls.mono HS.out ?_
            rintro e w3 ⟨rfl, hB3⟩
            go_wp2_with (go_at_call 85; refine (must_no _).mono ?_; rintro e w1 ⟨rfl, rfl⟩)
            simp [bodyPost]
            exact .inr ⟨HN.out, rfl, hKx.trans (KW.of hB3 (by omega))⟩
        · simp [bodyPost]
          exact .inr ⟨node1_none HKK.out h2, rfl, HKa.out.trans hK2⟩
      · by_cases hk2 : s.k = 2
        · have t0 : (s.k == 0) = false := by rw [beq_eq_false_iff_ne]; exact hk0
          have t1 : (s.k == 1) = false := by rw [beq_eq_false_iff_ne]; exact hk1
          have t : (s.k == 2) = true := by rw [beq_iff_eq]; exact hk2
          have HKK := Lib.hid hk2
          clear hk0 hk1 hk2
          go_wp2_with fail
          go_region
          have hT : IsT w1 (g + 1) 67 := ⟨_, _, kh⟩
          obtain ⟨wx, hwx⟩ : ∃ wx, (((w1.setCell ⟨g + 1, 1, none⟩ (.int .i64 0)).setCell ⟨g + 1, 3, none⟩ (.int .i64 0)).setCell ⟨g + 1, 5, none⟩ (.slice A n c)).drew = wx := ⟨_, rfl⟩
          have hKx : KW p w wx := by
            rw [← hwx]
            exact (((HKW.out.store (by omega) (by omega) _).store (by omega) (by omega) _).store (by omega) (by omega) _).drew
          have hWx : WR wx p (l ++ b) := by
            rw [← hwx]
            exact ((hW1.store hT (by omega) _).store (hT.set _ _) (by omega) _).store ((hT.set _ _).set _ _) (by omega) _
          have kgx : wx.heap[g]? = some (.cells (nc s A n c) 67) := by
            rw [← hwx]
            show (((w1.setCell ⟨g + 1, 1, none⟩ (.int .i64 0)).setCell ⟨g + 1, 3, none⟩ (.int .i64 0)).setCell ⟨g + 1, 5, none⟩ (.slice A n c)).heap[g]? = _
            rw [Below.heap_setCell _ _ _ _ (by show _ ≠ _; simp), Below.heap_setCell _ _ _ _ (by show _ ≠ _; simp), Below.heap_setCell _ _ _ _ (by show _ ≠ _; simp)]
            exact kg
          have khx : wx.heap[g + 1]? = some (.cells #[.int .i64 s.k, .int .i64 0, .int .i64 s.enc, .int .i64 0, .int .i64 s.hash, .slice A n c] 67) := by
            rw [← hwx]
            show (((w1.setCell ⟨g + 1, 1, none⟩ (.int .i64 0)).setCell ⟨g + 1, 3, none⟩ (.int .i64 0)).setCell ⟨g + 1, 5, none⟩ (.slice A n c)).heap[g + 1]? = _
            simp only [World.setCell, Array.getElem?_modify, if_true, kh, Option.map_some]
            rfl
          have hgs : g + 1 < wx.heap.size := (Array.getElem?_eq_some_iff.1 khx).1
          rw [hwx]
          clear hwx g0 g1 g2 g3 g4 g5 d0 d1 d2 d3 d4 d5 z0 z1 z2 z3 z4 z5 hT hsl kg kh hW1
          have g0 := cell_of kgx 0; have g1 := cell_of kgx 1; have g2 := cell_of kgx 2; have g3 := cell_of kgx 3; have g4 := cell_of kgx 4; have g5 := cell_of kgx 5
          have HC2 := Lib.hid (wints_ok p (l ++ b) (some ⟨wx.heap.size, 0, none⟩) 2 2 [s.enc, s.hash] (wx.alloc (.cells #[.int .i64 s.enc, .int .i64 s.hash] 3)) (hWx.alloc _) (SlK.lit wx p [s.enc, s.hash] #[.int .i64 s.enc, .int .i64 s.hash] rfl 2 rfl hWx.bit (by omega)) (by show _ ≤ _; have := hb.out; have := nsI_len h1; simp at this ⊢; omega))
          have HKa := Lib.hid (hKx.alloc (Nat.le_of_lt hWx.bit) (.cells #[.int .i64 s.enc, .int .i64 s.hash] 3))
          have KG := Lib.hid ((Below.heap_alloc wx (.cells #[.int .i64 s.enc, .int .i64 s.hash] 3) g (by omega)).trans kgx)
          have KH := Lib.hid ((Below.heap_alloc wx (.cells #[.int .i64 s.enc, .int .i64 s.hash] 3) (g + 1) (by omega)).trans khx)
          go_wp2_with fail
          clear g0 g1 g2 g3 g4 g5 hWx hKx kgx khx hgs
          refine Calls.mono HC2.out ?_
          rintro e w2 (⟨b2, h2, rfl, hW2, hK2⟩ | ⟨h2, rfl, hK2⟩)
          · have kg := hK2.typed KG.out (by omega) (by decide)
            have kh := hK2.typed KH.out (by omega) (by decide)
            have hKx := HKa.out.trans hK2
            have g5 := cell_of kg 5
            have hsl2 := HSL.out.kw hKx
            have HC3 := Lib.hid (wlist_ok p (l ++ b ++ b2) A n c s.un w2 hW2 hsl2.1 (by show _ ≤ _; have := hb.out; have := nsI_len h1; have := nsI_len h2; simp at *; omega))
            have HKG := Lib.hid kg; have HKH := Lib.hid kh; have HKX := Lib.hid hKx
            clear kg kh hKx hK2 hsl2
            go_wp2_with fail
            clear g5 hW2
            refine Calls.mono HC3.out ?_
            rintro e w3 (⟨b3, h3, rfl, hW3, hK3⟩ | ⟨h3, rfl, hK3⟩)
            · have kg := hK3.typed HKG.out (by omega) (by decide)
              have kh := hK3.typed HKH.out (by omega) (by decide)
              have hKx := HKX.out.trans hK3
              have g0 := cell_of kg 0; have g1 := cell_of kg 1; have g2 := cell_of kg 2; have g3 := cell_of kg 3; have g4 := cell_of kg 4; have g5 := cell_of kg 5
              have d0 := cell_of kh 0; have d1 := cell_of kh 1; have d2 := cell_of kh 2; have d3 := cell_of kh 3; have d4 := cell_of kh 4; have d5 := cell_of kh 5
              have hsl3 := HSL.out.kw hKx
              have HS := Lib.hid (same_any A A n n c c s ⟨s.k, 0, s.enc, 0, s.hash, s.un⟩ w3 hsl3.1 hsl3.1)
              have hpx := hW3.bit
              rw [same_bare2] at HS
              go_wp2_with fail
              clear g0 g1 g2 g3 g4 g5 d0 d1 d2 d3 d4 d5 kg kh
              by_cases hs : s.id = 0 ∧ s.sig = 0
              · rw [decide_eq_true hs] at HS
                have HN := Lib.hid (node2_yes HKK.out hs)
                refine Calls.mono HS.out ?_
                rintro e w4 ⟨rfl, hB4⟩
                go_wp2_with (go_at_call 85; refine (must_ok _).mono ?_; rintro e w1 ⟨rfl, rfl⟩)
                go_end0
                rw [List.append_assoc, List.append_assoc] at hW3
                exact .inl ⟨b ++ (b2 ++ b3), by rw [HN.out, h1, h2, h3, seqB_yes, seqB_yes], rfl, hW3.below hB4, hKx.trans (KW.of hB4 (by omega))⟩
              · rw [decide_eq_false hs] at HS
                have HN := Lib.hid (node2_no HKK.out hs)
                refine Calls.mono HS.out ?_
                rintro e w4 ⟨rfl, hB4⟩
                go_wp2_with (go_at_call 85; refine (must_no _).mono ?_; rintro e w1 ⟨rfl, rfl⟩)
                simp [bodyPost]
                exact .inr ⟨HN.out, rfl, hKx.trans (KW.of hB4 (by omega))⟩
            · simp [bodyPost]
              exact .inr ⟨node2_none HKK.out (by rw [h3, seqB_none']), rfl, HKX.out.trans hK3⟩
          · simp [bodyPost]
            exact .inr ⟨node2_none HKK.out (by rw [h2, seqB_none]), rfl, HKa.out.trans hK2⟩
        · have t0 : (s.k == 0) = false := by rw [beq_eq_false_iff_ne]; exact hk0
          have t1 : (s.k == 1) = false := by rw [beq_eq_false_iff_ne]; exact hk1
          have t : (s.k == 2) = false := by rw [beq_eq_false_iff_ne]; exact hk2
          have HN := Lib.hid (nodeX hk0 hk1 hk2)
          clear hk0 hk1 hk2
          go_wp2_with (go_at_call 85; refine (must_no _).mono ?_; rintro e w1 ⟨rfl, rfl⟩)
          simp [bodyPost]
          exact .inr ⟨HN.out, rfl, HKW.out⟩
  · simp [bodyPost]
    exact .inr ⟨nodeB_kind h1, rfl, HK1.out.trans hK⟩
end Go.Proofs.Ytjebmmmjjiomfaa
