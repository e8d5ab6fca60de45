/- The walk of the law CryptoReads. -/
import Derived.Test.YthbfaledmoobjaaDoorLive
namespace Go.Proofs.YthbfaledmoobjaaDoor
open Go.RowKit

/-- what stands below the heap's end stands on -/
theorem Tb.here {w w' : World} (h : Tb w.heap.size w) (hb : Below w.heap.size w w') : Tb w'.heap.size w' := (h.on hb).mono hb.size
set_option maxRecDepth 100000 in
set_option maxHeartbeats 8000000 in
theorem readsWalk (A : Option Addr) (n c : Nat) (l : List OpN) (x y z u : Int) (w : World) (h : Os w A n c l) (hw : Hid (∀ o ∈ l, OWf o)) (_hx : W64 x) (_hy : W64 y) (_hz : W64 z) (_hu : W64 u) (hT : Tb w.heap.size w) :
    Calls Tryd.prog 3 #[.slice A n c, .int .i64 x, .int .i64 y, .int .i64 z, .int .i64 u] w fun e w' => e = .returned (.bool true) ∧ Below w.heap.size w w' := by
  have HLV := Lib.hid (live_ok w hT)
  have HO := Lib.hid h
  have HT := Lib.hid hT
  clear h hT
  go_enter Tryd.func3, Tryd.ntmps3
  go_wp2_with (go_at_call 8; refine HLV.out.mono ?_; rintro e w1 ⟨rfl, hB1⟩; refine Hid.out ?_)
  refine Lib.hid ?_
  have HF := Lib.hid (few_ok A n c l w1 ((HO.out).below hB1))
  obtain ⟨f, hf⟩ : ∃ f, decide (Few l) = f := ⟨_, rfl⟩
  rw [hf] at HF
  have HFE := Lib.hid hf
  have HB1 := Lib.hid hB1
  clear hB1 hf
  go_wp2_with (go_at_call 9; refine HF.out.mono ?_; rintro e w2 ⟨rfl, hB2⟩; refine Hid.out ?_)
  refine Lib.hid ?_
  have hB2w := nx HB1.out hB2
  have HB2 := Lib.hid hB2w
  clear hB2 hB2w
  cases f
  · go_wp2_with fail
    go_ret
    exact ⟨rfl, HB2.out⟩
  have HG := Lib.hid (grown_ok A n c l w2 ((HO.out).below HB2.out) (of_decide_eq_true HFE.out) hw (HT.out.here HB2.out))
  go_wp2_with (go_at_call 10; refine HG.out.mono ?_; rintro e w3 ⟨b, O, oc, outs, ns, rfl, hR3, hB3, _, _, _, _, _⟩; refine Hid.out ?_)
  refine Lib.hid ?_
  have HB3 := Lib.hid (nx HB2.out hB3)
  have HR3 := Lib.hid hR3
  have HL3 := Lib.hid (len_ok _ b ns w3 hR3)
  have HO3 := Lib.hid (open_ok _ b ns x y z w3 hR3)
  clear hB3 hR3
  go_wp2_with (go_at_call 11; refine HL3.out.mono ?_; rintro e w' ⟨rfl, rfl⟩; refine Hid.out ?_)
  refine Lib.hid ?_
  go_wp2_with (go_at_call 12; refine HO3.out.mono ?_; rintro e w4 ⟨t, er, rfl, hB4, _⟩; refine Hid.out ?_)
  refine Lib.hid ?_
  have hR4 := (HR3.out).below hB4
  have HU4 := Lib.hid (unlock_ok _ b ns x y z u w4 hR4)
  have HB4 := Lib.hid (nx HB3.out hB4)
  have HR4 := Lib.hid hR4
  clear hB4 hR4
  go_wp2_with (go_at_call 13; refine HU4.out.mono ?_; rintro e w5 ⟨t, er, rfl, hB5, _⟩; refine Hid.out ?_)
  refine Lib.hid ?_
  have hR5 := (HR4.out).below hB5
  have HV5 := Lib.hid (verify_ok _ b ns x y z w5 hR5)
  have HB5 := Lib.hid (nx HB4.out hB5)
  have HR5 := Lib.hid hR5
  clear hB5 hR5
  go_wp2_with (go_at_call 14; refine HV5.out.mono ?_; rintro e w6 ⟨r, rfl, _, hB6⟩; refine Hid.out ?_)
  refine Lib.hid ?_
  have hR6 := (HR5.out).below hB6
  have HC6 := Lib.hid (check_ok _ b ns x y z w6 hR6)
  have HB6 := Lib.hid (nx HB5.out hB6)
  have HR6 := Lib.hid hR6
  clear hB6 hR6
  go_wp2_with (go_at_call 15; refine HC6.out.mono ?_; rintro e w7 ⟨r2, rfl, _, hB7⟩; refine Hid.out ?_)
  refine Lib.hid ?_
  have hR7 := (HR6.out).below hB7
  have HL7 := Lib.hid (len_ok _ b ns w7 hR7)
  have HB7 := Lib.hid (nx HB6.out hB7)
  clear hB7 hR7
  go_wp2_with (go_at_call 11; refine HL7.out.mono ?_; rintro e w' ⟨rfl, rfl⟩; refine Hid.out ?_)
  refine Lib.hid ?_
  go_wp2_with fail
  go_ret
  exact ⟨rfl, HB7.out⟩
end Go.Proofs.YthbfaledmoobjaaDoor
