/- The walk of the law CodecOne. -/
import Derived.Test.YtjebmmmjjiomfaaCSz
import Derived.Test.YtjebmmmjjiomfaaCRCom4
import Derived.Test.YtjebmmmjjiomfaaCComW3
namespace Go.Proofs.Ytjebmmmjjiomfaa
open Go.RowKit

set_option maxRecDepth 100000 in
set_option maxHeartbeats 16000000 in
theorem codecOne_walk (A : Option Addr) (n c : Nat) (l : List UInt8) (w : World) (hS : Sl w A n c (bv l)) :
    Calls Try.prog 14 #[.slice A n c] w fun e w' => e = .returned (.bool true) ∧ Below w.heap.size w w' := by
  have hl : l.length = n := by have := hS.len; rwa [bv_length] at this
  have hmd := hS.cap; have hdt := hS.top
  have HL := Lib.hid (clive_ok w)
  go_enter Try.func14, Try.ntmps14
  go_wp2_with fail
  refine HL.out.mono ?_
  rintro e w1 ⟨rfl, hB1⟩
  have HB := Lib.hid hB1
  have HS := Lib.hid (hS.below hB1)
  clear hS hB1
  by_cases hm : 20000 < n
  · have hmi : (20000 : Int) < (n : Int) := by omega
    go_wp2_with fail
    go_ret
    exact ⟨rfl, HB.out⟩
  have hmi : ¬ (20000 : Int) < (n : Int) := by omega
  have HLL : Hid (l.length ≤ 1073741824) := Lib.hid (by show _ ≤ _; omega)
  have HL2 : Hid (l.length ≤ 20000) := Lib.hid (by show _ ≤ _; omega)
  clear hl
  go_wp2_with fail
  refine (taketree_ok A n c l _ HS.out HLL).mono ?_
  rintro e w3 ⟨⟨t, A3, c3, f1, rfl, hT3⟩ | ⟨f1, rfl⟩, hB3⟩
  · replace HS := Lib.hid (HS.out.below hB3); replace HB := Lib.hid (nx HB.out hB3)
    have hb := full_one bw_tree f1
    have hg := treeB_ge hb
    have HW := Lib.hid (tree_ok A3 t.length c3 t w3 hT3 (few_szT (by have := HL2.out; omega)))
    rw [hb] at HW
    clear f1 hT3 hB3 hb hg
    go_wp2_with fail
    refine HW.out.mono ?_
    rintro e w5 ⟨⟨b5, A5, c5, h5, rfl, hS5⟩ | ⟨h5, rfl⟩, hB5⟩
    rotate_left
    · cases h5
    injection h5 with h5; subst h5
    replace HS := Lib.hid (HS.out.below hB5); replace HB := Lib.hid (nx HB.out hB5)
    have q3 := hS5.str (P := Try.prog) Try.underlying23 Try.underlying5 Try.underlying9
    have q4 := HS.out.str (P := Try.prog) Try.underlying23 Try.underlying5 Try.underlying9
    clear HW hB5 hS5
    go_wp2_with fail
    refine (takecommit_ok A n c l _ HS.out HLL).mono ?_
    rintro e w3 ⟨⟨x, P, f1, rfl, hT3⟩ | ⟨f1, rfl⟩, hB3⟩
    · replace HS := Lib.hid (HS.out.below hB3); replace HB := Lib.hid (nx HB.out hB3)
      have hb := full_one bw_commit f1
      have hg := commitB_ge hb
      obtain ⟨wa, hwa⟩ : ∃ wa, w3.alloc (.cells (cc x P) 72) = wa := ⟨_, rfl⟩
      have hBa : Below w3.heap.size w3 wa := by rw [← hwa]; exact nxa (Below.refl _ _) _
      have ka : wa.heap[w3.heap.size]? = some (.cells (cc x P) 72) := by rw [← hwa]; exact heap_alloc_new _ _
      replace HS := Lib.hid (HS.out.below hBa); replace HB := Lib.hid (nx HB.out hBa)
      have HW := Lib.hid (commit_ok x P wa (hT3.below hBa) (Lib.hid (by show _ ≤ _; have := HL2.out; omega)))
      rw [hb] at HW
      have HWA := Lib.hid hwa
      have a0 := cell_of ka 0; have a1 := cell_of ka 1; have a2 := cell_of ka 2; have a3 := cell_of ka 3; have a4 := cell_of ka 4; have a5 := cell_of ka 5; have a6 := cell_of ka 6; have a7 := cell_of ka 7; have a8 := cell_of ka 8; have a9 := cell_of ka 9; have a10 := cell_of ka 10; have a11 := cell_of ka 11; have a12 := cell_of ka 12
      clear f1 hT3 hB3 hb hg hwa hBa ka
      unfold cv at HW ⊢
      go_wp2_with fail
      rw [HWA.out]
      clear HWA a0 a1 a2 a3 a4 a5 a6 a7 a8 a9 a10 a11 a12
      refine HW.out.mono ?_
      rintro e w5 ⟨⟨b5, A5, c5, h5, rfl, hS5⟩ | ⟨h5, rfl⟩, hB5⟩
      rotate_left
      · cases h5
      injection h5 with h5; subst h5
      replace HS := Lib.hid (HS.out.below hB5); replace HB := Lib.hid (nx HB.out hB5)
      have q3 := hS5.str (P := Try.prog) Try.underlying23 Try.underlying5 Try.underlying9
      have q4 := HS.out.str (P := Try.prog) Try.underlying23 Try.underlying5 Try.underlying9
      clear HW hB5 hS5
      go_wp2_with fail
      refine (takewelcome_ok A n c l _ HS.out HLL).mono ?_
      rintro e w3 ⟨⟨x, A3, c3, f1, rfl, hT3⟩ | ⟨f1, rfl⟩, hB3⟩
      · replace HS := Lib.hid (HS.out.below hB3); replace HB := Lib.hid (nx HB.out hB3)
        have hb := full_one bw_welcome f1
        have hg := welcomeB_ge hb
        obtain ⟨wa, hwa⟩ : ∃ wa, w3.alloc (.cells (wc x A3 x.tree.length c3) 58) = wa := ⟨_, rfl⟩
        have hBa : Below w3.heap.size w3 wa := by rw [← hwa]; exact nxa (Below.refl _ _) _
        have ka : wa.heap[w3.heap.size]? = some (.cells (wc x A3 x.tree.length c3) 58) := by rw [← hwa]; exact heap_alloc_new _ _
        replace HS := Lib.hid (HS.out.below hBa); replace HB := Lib.hid (nx HB.out hBa)
        have HW := Lib.hid (welcome_ok A3 x.tree.length c3 x wa (hT3.below hBa) (few_szT (by have := HL2.out; omega)))
        rw [hb] at HW
        have HWA := Lib.hid hwa
        have a0 := cell_of ka 0; have a1 := cell_of ka 1; have a2 := cell_of ka 2; have a3 := cell_of ka 3; have a4 := cell_of ka 4; have a5 := cell_of ka 5; have a6 := cell_of ka 6; have a7 := cell_of ka 7; have a8 := cell_of ka 8; have a9 := cell_of ka 9
        clear f1 hT3 hB3 hb hg hwa hBa ka
        unfold wv at HW ⊢
        go_wp2_with fail
        rw [HWA.out]
        clear HWA a0 a1 a2 a3 a4 a5 a6 a7 a8 a9
        refine HW.out.mono ?_
        rintro e w5 ⟨⟨b5, A5, c5, h5, rfl, hS5⟩ | ⟨h5, rfl⟩, hB5⟩
        rotate_left
        · cases h5
        injection h5 with h5; subst h5
        replace HS := Lib.hid (HS.out.below hB5); replace HB := Lib.hid (nx HB.out hB5)
        have q3 := hS5.str (P := Try.prog) Try.underlying23 Try.underlying5 Try.underlying9
        have q4 := HS.out.str (P := Try.prog) Try.underlying23 Try.underlying5 Try.underlying9
        clear HW hB5 hS5
        go_wp2_with fail
        go_ret
        exact ⟨rfl, HB.out⟩
      · replace HB := Lib.hid (nxa (nx HB.out hB3) (.cells (wc wm0 none 0 0) 58))
        clear f1 hB3
        unfold wv
        go_wp2_with fail
        go_ret
        exact ⟨rfl, HB.out⟩
    · replace HS := Lib.hid ((HS.out.below hB3).below (nxa (Below.refl _ w3) (.cells (cc cm00 cp00) 72))); replace HB := Lib.hid (nxa (nx HB.out hB3) (.cells (cc cm00 cp00) 72))
      clear f1 hB3
      unfold cv
      go_wp2_with fail
      refine (takewelcome_ok A n c l _ HS.out HLL).mono ?_
      rintro e w3 ⟨⟨x, A3, c3, f1, rfl, hT3⟩ | ⟨f1, rfl⟩, hB3⟩
      · replace HS := Lib.hid (HS.out.below hB3); replace HB := Lib.hid (nx HB.out hB3)
        have hb := full_one bw_welcome f1
        have hg := welcomeB_ge hb
        obtain ⟨wa, hwa⟩ : ∃ wa, w3.alloc (.cells (wc x A3 x.tree.length c3) 58) = wa := ⟨_, rfl⟩
        have hBa : Below w3.heap.size w3 wa := by rw [← hwa]; exact nxa (Below.refl _ _) _
        have ka : wa.heap[w3.heap.size]? = some (.cells (wc x A3 x.tree.length c3) 58) := by rw [← hwa]; exact heap_alloc_new _ _
        replace HS := Lib.hid (HS.out.below hBa); replace HB := Lib.hid (nx HB.out hBa)
        have HW := Lib.hid (welcome_ok A3 x.tree.length c3 x wa (hT3.below hBa) (few_szT (by have := HL2.out; omega)))
        rw [hb] at HW
        have HWA := Lib.hid hwa
        have a0 := cell_of ka 0; have a1 := cell_of ka 1; have a2 := cell_of ka 2; have a3 := cell_of ka 3; have a4 := cell_of ka 4; have a5 := cell_of ka 5; have a6 := cell_of ka 6; have a7 := cell_of ka 7; have a8 := cell_of ka 8; have a9 := cell_of ka 9
        clear f1 hT3 hB3 hb hg hwa hBa ka
        unfold wv at HW ⊢
        go_wp2_with fail
        rw [HWA.out]
        clear HWA a0 a1 a2 a3 a4 a5 a6 a7 a8 a9
        refine HW.out.mono ?_
        rintro e w5 ⟨⟨b5, A5, c5, h5, rfl, hS5⟩ | ⟨h5, rfl⟩, hB5⟩
        rotate_left
        · cases h5
        injection h5 with h5; subst h5
        replace HS := Lib.hid (HS.out.below hB5); replace HB := Lib.hid (nx HB.out hB5)
        have q3 := hS5.str (P := Try.prog) Try.underlying23 Try.underlying5 Try.underlying9
        have q4 := HS.out.str (P := Try.prog) Try.underlying23 Try.underlying5 Try.underlying9
        clear HW hB5 hS5
        go_wp2_with fail
        go_ret
        exact ⟨rfl, HB.out⟩
      · replace HB := Lib.hid (nxa (nx HB.out hB3) (.cells (wc wm0 none 0 0) 58))
        clear f1 hB3
        unfold wv
        go_wp2_with fail
        go_ret
        exact ⟨rfl, HB.out⟩
  · replace HS := Lib.hid (HS.out.below hB3); replace HB := Lib.hid (nx HB.out hB3)
    clear f1 hB3
    go_wp2_with fail
    refine (takecommit_ok A n c l _ HS.out HLL).mono ?_
    rintro e w3 ⟨⟨x, P, f1, rfl, hT3⟩ | ⟨f1, rfl⟩, hB3⟩
    · replace HS := Lib.hid (HS.out.below hB3); replace HB := Lib.hid (nx HB.out hB3)
      have hb := full_one bw_commit f1
      have hg := commitB_ge hb
      obtain ⟨wa, hwa⟩ : ∃ wa, w3.alloc (.cells (cc x P) 72) = wa := ⟨_, rfl⟩
      have hBa : Below w3.heap.size w3 wa := by rw [← hwa]; exact nxa (Below.refl _ _) _
      have ka : wa.heap[w3.heap.size]? = some (.cells (cc x P) 72) := by rw [← hwa]; exact heap_alloc_new _ _
      replace HS := Lib.hid (HS.out.below hBa); replace HB := Lib.hid (nx HB.out hBa)
      have HW := Lib.hid (commit_ok x P wa (hT3.below hBa) (Lib.hid (by show _ ≤ _; have := HL2.out; omega)))
      rw [hb] at HW
      have HWA := Lib.hid hwa
      have a0 := cell_of ka 0; have a1 := cell_of ka 1; have a2 := cell_of ka 2; have a3 := cell_of ka 3; have a4 := cell_of ka 4; have a5 := cell_of ka 5; have a6 := cell_of ka 6; have a7 := cell_of ka 7; have a8 := cell_of ka 8; have a9 := cell_of ka 9; have a10 := cell_of ka 10; have a11 := cell_of ka 11; have a12 := cell_of ka 12
      clear f1 hT3 hB3 hb hg hwa hBa ka
      unfold cv at HW ⊢
      go_wp2_with fail
      rw [HWA.out]
      clear HWA a0 a1 a2 a3 a4 a5 a6 a7 a8 a9 a10 a11 a12
      refine HW.out.mono ?_
      rintro e w5 ⟨⟨b5, A5, c5, h5, rfl, hS5⟩ | ⟨h5, rfl⟩, hB5⟩
      rotate_left
      · cases h5
      injection h5 with h5; subst h5
      replace HS := Lib.hid (HS.out.below hB5); replace HB := Lib.hid (nx HB.out hB5)
      have q3 := hS5.str (P := Try.prog) Try.underlying23 Try.underlying5 Try.underlying9
      have q4 := HS.out.str (P := Try.prog) Try.underlying23 Try.underlying5 Try.underlying9
      clear HW hB5 hS5
      go_wp2_with fail
      refine (takewelcome_ok A n c l _ HS.out HLL).mono ?_
      rintro e w3 ⟨⟨x, A3, c3, f1, rfl, hT3⟩ | ⟨f1, rfl⟩, hB3⟩
      · replace HS := Lib.hid (HS.out.below hB3); replace HB := Lib.hid (nx HB.out hB3)
        have hb := full_one bw_welcome f1
        have hg := welcomeB_ge hb
        obtain ⟨wa, hwa⟩ : ∃ wa, w3.alloc (.cells (wc x A3 x.tree.length c3) 58) = wa := ⟨_, rfl⟩
        have hBa : Below w3.heap.size w3 wa := by rw [← hwa]; exact nxa (Below.refl _ _) _
        have ka : wa.heap[w3.heap.size]? = some (.cells (wc x A3 x.tree.length c3) 58) := by rw [← hwa]; exact heap_alloc_new _ _
        replace HS := Lib.hid (HS.out.below hBa); replace HB := Lib.hid (nx HB.out hBa)
        have HW := Lib.hid (welcome_ok A3 x.tree.length c3 x wa (hT3.below hBa) (few_szT (by have := HL2.out; omega)))
        rw [hb] at HW
        have HWA := Lib.hid hwa
        have a0 := cell_of ka 0; have a1 := cell_of ka 1; have a2 := cell_of ka 2; have a3 := cell_of ka 3; have a4 := cell_of ka 4; have a5 := cell_of ka 5; have a6 := cell_of ka 6; have a7 := cell_of ka 7; have a8 := cell_of ka 8; have a9 := cell_of ka 9
        clear f1 hT3 hB3 hb hg hwa hBa ka
        unfold wv at HW ⊢
        go_wp2_with fail
        rw [HWA.out]
        clear HWA a0 a1 a2 a3 a4 a5 a6 a7 a8 a9
        refine HW.out.mono ?_
        rintro e w5 ⟨⟨b5, A5, c5, h5, rfl, hS5⟩ | ⟨h5, rfl⟩, hB5⟩
        rotate_left
        · cases h5
        injection h5 with h5; subst h5
        replace HS := Lib.hid (HS.out.below hB5); replace HB := Lib.hid (nx HB.out hB5)
        have q3 := hS5.str (P := Try.prog) Try.underlying23 Try.underlying5 Try.underlying9
        have q4 := HS.out.str (P := Try.prog) Try.underlying23 Try.underlying5 Try.underlying9
        clear HW hB5 hS5
        go_wp2_with fail
        go_ret
        exact ⟨rfl, HB.out⟩
      · replace HB := Lib.hid (nxa (nx HB.out hB3) (.cells (wc wm0 none 0 0) 58))
        clear f1 hB3
        unfold wv
        go_wp2_with fail
        go_ret
        exact ⟨rfl, HB.out⟩
    · replace HS := Lib.hid ((HS.out.below hB3).below (nxa (Below.refl _ w3) (.cells (cc cm00 cp00) 72))); replace HB := Lib.hid (nxa (nx HB.out hB3) (.cells (cc cm00 cp00) 72))
      clear f1 hB3
      unfold cv
      go_wp2_with fail
      refine (takewelcome_ok A n c l _ HS.out HLL).mono ?_
      rintro e w3 ⟨⟨x, A3, c3, f1, rfl, hT3⟩ | ⟨f1, rfl⟩, hB3⟩
      · replace HS := Lib.hid (HS.out.below hB3); replace HB := Lib.hid (nx HB.out hB3)
        have hb := full_one bw_welcome f1
        have hg := welcomeB_ge hb
        obtain ⟨wa, hwa⟩ : ∃ wa, w3.alloc (.cells (wc x A3 x.tree.length c3) 58) = wa := ⟨_, rfl⟩
        have hBa : Below w3.heap.size w3 wa := by rw [← hwa]; exact nxa (Below.refl _ _) _
        have ka : wa.heap[w3.heap.size]? = some (.cells (wc x A3 x.tree.length c3) 58) := by rw [← hwa]; exact heap_alloc_new _ _
        replace HS := Lib.hid (HS.out.below hBa); replace HB := Lib.hid (nx HB.out hBa)
        have HW := Lib.hid (welcome_ok A3 x.tree.length c3 x wa (hT3.below hBa) (few_szT (by have := HL2.out; omega)))
        rw [hb] at HW
        have HWA := Lib.hid hwa
        have a0 := cell_of ka 0; have a1 := cell_of ka 1; have a2 := cell_of ka 2; have a3 := cell_of ka 3; have a4 := cell_of ka 4; have a5 := cell_of ka 5; have a6 := cell_of ka 6; have a7 := cell_of ka 7; have a8 := cell_of ka 8; have a9 := cell_of ka 9
        clear f1 hT3 hB3 hb hg hwa hBa ka
        unfold wv at HW ⊢
        go_wp2_with fail
        rw [HWA.out]
        clear HWA a0 a1 a2 a3 a4 a5 a6 a7 a8 a9
        refine HW.out.mono ?_
        rintro e w5 ⟨⟨b5, A5, c5, h5, rfl, hS5⟩ | ⟨h5, rfl⟩, hB5⟩
        rotate_left
        · cases h5
        injection h5 with h5; subst h5
        replace HS := Lib.hid (HS.out.below hB5); replace HB := Lib.hid (nx HB.out hB5)
        have q3 := hS5.str (P := Try.prog) Try.underlying23 Try.underlying5 Try.underlying9
        have q4 := HS.out.str (P := Try.prog) Try.underlying23 Try.underlying5 Try.underlying9
        clear HW hB5 hS5
        go_wp2_with fail
        go_ret
        exact ⟨rfl, HB.out⟩
      · replace HB := Lib.hid (nxa (nx HB.out hB3) (.cells (wc wm0 none 0 0) 58))
        clear f1 hB3
        unfold wv
        go_wp2_with fail
        go_ret
        exact ⟨rfl, HB.out⟩
theorem codecOneWalk (A : Option Addr) (n c : Nat) (zs : List Int) (w : World) (h : IsRow .u8 w A n c zs) (_ : n * 1 ≤ 140737488351232) :
    Calls Try.prog 14 #[.slice A n c] w fun e w' => e = .returned (.bool true) ∧ Below w.heap.size w w' := by
  obtain ⟨l, hs, _⟩ := h.bytes
  exact codecOne_walk A n c l w hs
end Go.Proofs.Ytjebmmmjjiomfaa
