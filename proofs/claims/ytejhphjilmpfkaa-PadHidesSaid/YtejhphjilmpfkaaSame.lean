/- The walks of pad.Same and the reference's Same. -/
import Derived.Test.YtejhphjilmpfkaaPadWholeWalk
import Derived.Test.YtejhphjilmpfkaaShelf
namespace Go.Proofs.Ytejhphjilmpfkaa
open Go.RowKit

/-- all lengths below 65536, and all buckets the first one's -/
def sameB : List Nat → Bool
  | [] => true
  | n :: r => (n :: r).all fun m => decide (m < 65536) && bk m == bk n
def bks (ls : List Nat) : List Int := ls.map fun n => ((bk n : Nat) : Int)
theorem compact_two (zs : List Int) : (Lib.compact zs).length < 2 ↔ ∀ i, i + 1 < zs.length → zs[i + 1]? = zs[i]? := by
  have hk : ∀ j, j < zs.length → (Lib.keeps zs.toArray j = true ↔ (j = 0 ∨ zs[j]? ≠ zs[j - 1]?)) := by
    intro j hj
    rcases Nat.eq_zero_or_pos j with h0 | h0
    · subst h0; simp [Lib.keeps]
    · have h1 : zs.toArray[j]! = zs[j] := by simp [hj]
      have h2 : zs.toArray[j - 1]! = zs[j-1]'(by omega) := by simp [show j - 1 < zs.length by omega]
      have e1 : zs[j]? = some zs[j] := List.getElem?_eq_getElem hj
      have e2 : zs[j-1]? = some (zs[j-1]'(by omega)) := List.getElem?_eq_getElem (by omega)
      rw [e1, e2]
      constructor
      · intro h
        refine .inr fun e => ?_
        rw [Lib.keeps_neg h0 (by rw [h1, h2]; exact Option.some.inj e)] at h
        cases h
      · rintro (h | h)
        · omega
        · exact Lib.keeps_pos (by rw [h1, h2]; exact fun e => h (by rw [e]))
  unfold Lib.compact Lib.compactUpTo
  rw [List.length_map]
  constructor
  · intro hlt i hi
    by_cases he : zs[i + 1]? = zs[i]?
    · exact he
    · exfalso
      have m0 : 0 ∈ (List.range zs.length).filter (Lib.keeps zs.toArray) := by
        rw [List.mem_filter, List.mem_range]; exact ⟨by omega, (hk 0 (by omega)).2 (.inl rfl)⟩
      have m1 : i + 1 ∈ (List.range zs.length).filter (Lib.keeps zs.toArray) := by
        rw [List.mem_filter, List.mem_range]; exact ⟨hi, (hk (i + 1) hi).2 (.inr (by simpa using he))⟩
      generalize (List.range zs.length).filter (Lib.keeps zs.toArray) = L at *
      match L, hlt with
      | [], _ => cases m0
      | [x], _ => simp at m0 m1; omega
  · intro h
    have hsub : ∀ x ∈ (List.range zs.length).filter (Lib.keeps zs.toArray), x = 0 := by
      intro x hx
      rw [List.mem_filter, List.mem_range] at hx
      rcases (hk x hx.1).1 hx.2 with h0 | h0
      · exact h0
      · rcases Nat.eq_zero_or_pos x with h1 | h1
        · exact h1
        · exact absurd (by have := h (x - 1) (by omega); rw [Nat.sub_add_cancel h1] at this; exact this) h0
    have hnd : ((List.range zs.length).filter (Lib.keeps zs.toArray)).Nodup := List.nodup_range.sublist List.filter_sublist
    generalize (List.range zs.length).filter (Lib.keeps zs.toArray) = L at *
    match L, hsub, hnd with
    | [], _, _ => simp
    | [x], _, _ => simp
    | x :: y :: r, hs, hn =>
      have a := hs x (by simp); have b := hs y (by simp)
      subst a; subst b
      simp at hn
theorem same_of_bks (ls : List Nat) (h : ∀ n ∈ ls, n < 65536) : decide ((Lib.compact (bks ls)).length < 2) = sameB ls := by
  rw [Bool.eq_iff_iff, decide_eq_true_eq, compact_two]
  have hg : ∀ (i : Nat), (bks ls)[i]? = (ls[i]?).map fun n => ((bk n : Nat) : Int) := fun i => by rw [bks, List.getElem?_map]
  match ls, h with
  | [], _ => simp [sameB, bks]
  | n :: r, h =>
    unfold sameB
    rw [List.all_eq_true]
    constructor
    · intro hc m hm
      obtain ⟨j, hj, rfl⟩ := List.getElem_of_mem hm
      have key : ∀ j (hj : j < (n :: r).length), bk (n :: r)[j] = bk n := by
        intro j
        induction j with
        | zero => intro _; rfl
        | succ j ih =>
          intro hj
          have := hc j (by simpa [bks] using hj)
          rw [hg, hg, List.getElem?_eq_getElem hj, List.getElem?_eq_getElem (by omega)] at this
          simp only [Option.map_some, Option.some.injEq] at this
          rw [← ih (by omega)]; omega
      have h1 := h _ hm; have h2 := key j hj
      simp only [Bool.and_eq_true, decide_eq_true_eq, beq_iff_eq]; exact ⟨h1, h2⟩
    · intro ha i hi
      have hi2 : i + 1 < (n :: r).length := by simpa [bks] using hi
      have a := ha _ (List.getElem_mem hi2); have b := ha _ (List.getElem_mem (show i < (n :: r).length by omega))
      simp only [Bool.and_eq_true, decide_eq_true_eq, beq_iff_eq] at a b
      rw [hg, hg, List.getElem?_eq_getElem hi2, List.getElem?_eq_getElem (show i < (n :: r).length by omega)]
      simp only [Option.map_some]
      rw [a.2, b.2]
theorem same_no (ls : List Nat) (n : Nat) (hn : n ∈ ls) (h : 65536 ≤ n) : sameB ls = false := by
  match ls, hn with
  | m :: r, hn =>
    unfold sameB
    rw [Bool.eq_false_iff]; intro ha
    rw [List.all_eq_true] at ha
    have := ha n hn
    simp only [Bool.and_eq_true, decide_eq_true_eq] at this
    omega

theorem below_sets {B b : Nat} {a : World} (hb : B ≤ b) : ∀ (vs : List Value) (o : Nat) (w : World), Below B a w → Below B a (w.setCells b o vs)
  | [], _, _, h => h
  | v :: r, o, _, h => below_sets hb r (o + 1) _ (h.setCell (p := ⟨b, o, none⟩) hb v)
theorem E41 : Elem Try.prog 41 3 (.int .i64 0) 1 8 := ⟨Try.underlying41, by kernel_rfl, rfl, by omega⟩
def lens (xs : List Value) : List Nat := xs.map slen
theorem lens_get (xs : List Value) (k : Nat) (a : Option Addr) (m c : Nat) (h : xs[k]? = some (.slice a m c)) : (lens xs)[k]? = some m := by
  rw [lens, List.getElem?_map, h]; rfl
theorem bks_snoc (xs : List Value) (k : Nat) (a : Option Addr) (m c : Nat) (h : xs[k]? = some (.slice a m c)) :
    iv (bks ((lens xs).take (k + 1))) = iv (bks ((lens xs).take k)) ++ [.int .i64 (bk m : Nat)] := by
  rw [List.take_add_one, lens_get xs k a m c h]; simp [bks, iv]
theorem bks_len (xs : List Value) (k : Nat) (h : k ≤ xs.length) : (bks ((lens xs).take k)).length = k := by simp [bks, lens]; exact Nat.min_eq_left h

set_option maxRecDepth 100000 in
set_option maxHeartbeats 2000000 in
theorem same_any (A : Option Addr) (n c : Nat) (xs : List Value) (w : World) (h : Sl w A n c xs) (hs : Sls xs) (hn : n ≤ 6000000000000) :
    Calls Try.prog 15 #[.slice A n c] w fun e w' => e = .returned (.bool (sameB (lens xs))) ∧ Below w.heap.size w w' := by
  have htop := h.top; have hcap := h.cap; unfold maxLen at htop
  have Hl := Lib.hid h.len
  have HN := Lib.hid hn; clear hn
  go_enter Try.func15, Try.ntmps15
  go_wp2_with fail
  go_loopw [3, 10] (fun v i wr => ∃ (k : Nat) (A' : Option Addr) (c' : Nat), k ≤ n ∧ i = .int .i64 (k : Int) ∧ v = .slice A' k c' ∧ Ow wr w.heap.size 3 1 A' k c' (iv (bks ((lens xs).take k))) ∧ Below w.heap.size w wr ∧ Hid (∀ m ∈ (lens xs).take k, m < 65536)) (fun _ i _ => n - (intOf i).toNat)
  case atStart => exact ⟨0, none, 0, Nat.zero_le _, rfl, rfl, Ow.nil _ _ _ _, Below.refl _ _, by intro m hm; simp at hm⟩
  case round =>
    obtain ⟨k, A', c', hk, rfl, rfl, hO, hB, hz⟩ := hrel
    by_cases hlt : k < n
    · obtain ⟨ad, u, rfl, hx, hc⟩ := (h.below hB).at_ hlt
      obtain ⟨a, m, cc, rfl, hm⟩ := hs u (List.mem_of_getElem? hx)
      have HX := Lib.hid hx; have HM := Lib.hid hm; clear hx hm
      by_cases hb : m < 65536
      · have hcall := fun W => bucket_nat m W hb
        have HC := Lib.hid hcall; have HB := Lib.hid hb; clear hcall hb
        have hkb : (k + 1) * 8 ≤ 140737488355328 := by have := HN.out; omega
        have HK := Lib.hid hkb; clear hkb
        have hz2 : ∀ x ∈ (lens xs).take (k + 1), x < 65536 := by
          rw [List.take_add_one, lens_get xs k a m cc HX.out]
          intro x hx
          rcases List.mem_append.1 hx with hx | hx
          · exact hz.out x hx
          · simp at hx; subst hx; exact HB.out
        have HZ2 := Lib.hid hz2; clear hz2
        go_wp2_with (first
          | (go_at_call 13; refine (HC.out _).mono ?_; rintro e w' ⟨rfl, rfl⟩)
          | (at_builtin; refine wpList_app (o := ⟨some 25, _, _, _, _, _⟩) E41 rfl rfl rfl (hO.alloc _) rfl (lies_new wr (.int .i64 (bk m : Nat)) 3) rfl (by simp [Value.oneCell']) (by unfold maxLen; omega) HK.out (by have := hB.size; simp; omega) ?_; intro A3 c3 w3 hO3 hG3 hB3))
        go_roundw
        case rel => exact ⟨k + 1, A3, c3, by omega, by go_num, rfl, by rw [bks_snoc xs k a m cc HX.out]; exact hO3, (hB.alloc hB.size _).trans hB3, HZ2⟩
        case measure => simp [intOf]; omega
      · have hcall := fun W => bucket_big m W (by omega)
        have HC := Lib.hid hcall; have HB := Lib.hid hb; clear hcall hb
        go_wp2_with (go_at_call 13; refine (HC.out _).mono ?_; rintro e w' ⟨rfl, rfl⟩)
        go_ret
        have : sameB (lens xs) = false := same_no _ m (List.mem_of_getElem? (lens_get xs k a m cc HX.out)) (by have := HB.out; omega)
        rw [this]; exact ⟨rfl, hB⟩
    · obtain rfl : k = n := by omega
      have hT : (lens xs).take k = lens xs := by rw [← Hl.out]; unfold lens; rw [← List.map_take, List.take_length]
      have HT := Lib.hid hT; clear hT
      rw [HT.out] at hO hz
      have hfin := same_of_bks (lens xs) hz.out
      have HF := Lib.hid hfin; clear hfin
      have hbl : (bks (lens xs)).length = k := by have := bks_len xs k (by rw [Hl.out]; exact Nat.le_refl _); rwa [HT.out] at this
      have HBL := Lib.hid hbl; clear hbl
      rcases Nat.eq_zero_or_pos k with h0 | h0
      · subst h0
        go_wp2_with (go_at_call 20; refine (Try.slices_Compact_int_empty _ _ _).mono ?_; rintro e w' ⟨rfl, rfl⟩)
        go_ret
        refine ⟨ret_bool ?_, hB⟩
        rw [← HF.out]
        have : bks (lens xs) = [] := List.eq_nil_of_length_eq_zero HBL.out
        rw [this]; rfl
      · obtain ⟨g, rfl, hg1, hg2⟩ := hO.form h0
        have hcp := Try.slices_Compact_int_cells g 0 k c' (bks (lens xs)) wr (by rw [HBL.out]; exact Nat.le_refl _) (by omega) hO.sl.cap (fun j hj => by
          rw [Nat.zero_add]
          exact hO.cell (by rw [iv_get, List.getElem?_eq_getElem hj]; simp [List.getElem?_eq_getElem hj])) (fun j _ => by rw [Nat.zero_add]; exact hO.frz j)
        rw [show (bks (lens xs)).take k = bks (lens xs) by rw [← HBL.out, List.take_length]] at hcp
        have hc2 := hcp.mono (R' := fun e w' => e = .returned (.slice (some ⟨g, 0, none⟩) (Lib.compact (bks (lens xs))).length c') ∧ Below w.heap.size w w') (fun e w' ⟨he, q, hw⟩ => ⟨he, by subst hw; exact below_sets hg1 _ _ _ (below_drewN hB _)⟩)
        have HC := Lib.hid hc2; clear hc2 hcp
        go_wp2_with (go_at_call 20; refine HC.out.mono ?_; rintro e w2 ⟨rfl, hB2⟩)
        go_ret
        refine ⟨ret_bool ?_, hB2⟩
        rw [← HF.out]
        exact decide_eq_decide.2 (by omega)

set_option maxRecDepth 100000 in
set_option maxHeartbeats 2000000 in
theorem rsame_any (A : Option Addr) (n c : Nat) (xs : List Value) (w : World) (h : Sl w A n c xs) (hs : Sls xs) :
    Calls Try.prog 16 #[.slice A n c] w fun e w' => e = .returned (.bool (sameB (lens xs))) ∧ w = w' := by
  have htop := h.top; have hcap := h.cap; unfold maxLen at htop
  have Hl := Lib.hid h.len
  go_enter Try.func16, Try.ntmps16
  go_wp2_with fail
  go_loop [3, 10] (fun v i => ∃ (k : Nat) (b : Int), k ≤ n ∧ i = .int .i64 (k : Int) ∧ v = .int .i64 b ∧ Hid (∀ m ∈ (lens xs).take k, m < 65536 ∧ ((bk m : Nat) : Int) = b)) (fun _ i => n - (intOf i).toNat)
  case atStart => exact ⟨0, 0, Nat.zero_le _, rfl, rfl, by intro m hm; simp at hm⟩
  case round =>
    obtain ⟨k, b, hk, rfl, rfl, hz⟩ := hrel
    by_cases hlt : k < n
    · obtain ⟨ad, u, rfl, hx, hc⟩ := h.at_ hlt
      obtain ⟨a, m, cc, rfl, hm⟩ := hs u (List.mem_of_getElem? hx)
      have HX := Lib.hid hx; have HM := Lib.hid hm; clear hx hm
      by_cases hb : m < 65536
      · have hcall := fun W => rbucket_nat m W hb
        have HC := Lib.hid hcall; have HB := Lib.hid hb; clear hcall hb
        obtain ⟨v, hv⟩ : ∃ v, ((bk m : Nat) : Int) = v := ⟨_, rfl⟩
        rw [hv] at HC
        have HV := Lib.hid hv; clear hv
        have hz2 : (k = 0 ∨ v = b) → ∀ x ∈ (lens xs).take (k + 1), x < 65536 ∧ ((bk x : Nat) : Int) = v := by
          intro ho
          rw [List.take_add_one, lens_get xs k a m cc HX.out]
          intro x hx
          rcases List.mem_append.1 hx with hx | hx
          · rcases ho with h0 | h0
            · subst h0; simp at hx
            · rw [h0]; exact hz.out x hx
          · simp at hx; subst hx; exact ⟨HB.out, HV.out⟩
        have HZ2 := Lib.hid hz2; clear hz2
        by_cases hk0 : k = 0
        · subst hk0
          have hc' : w.cell? ad = some (.slice a m cc) := hc
          go_wp2_with (go_at_call 14; refine (HC.out _).mono ?_; rintro e w' ⟨rfl, rfl⟩)
          go_round
          case rel => exact ⟨1, v, by omega, rfl, rfl, by first | exact HZ2.out (.inl rfl) | exact HZ2.out (.inl trivial)⟩
          case measure => simp [intOf]; omega
        · by_cases hvb : v = b
          · have t1 : (v != b) = false := by rw [hvb]; simp
            have HZ3 := Lib.hid (HZ2.out (.inr hvb)); clear hvb
            go_wp2_with (go_at_call 14; refine (HC.out _).mono ?_; rintro e w' ⟨rfl, rfl⟩)
            go_round
            case rel => exact ⟨k + 1, v, by omega, by go_num, rfl, HZ3⟩
            case measure => simp [intOf]; omega
          · have t1 : (v != b) = true := by simpa using hvb
            have HVB := Lib.hid hvb; clear hvb
            have p0 : 0 < (k : Int) := by omega
            go_wp2_with (go_at_call 14; refine (HC.out _).mono ?_; rintro e w' ⟨rfl, rfl⟩)
            go_ret
            refine ⟨ret_bool ?_, rfl⟩
            symm
            match hls : lens xs, lens_get xs k a m cc HX.out, hz.out with
            | [], hg, _ => simp at hg
            | y :: r, hg, hzo =>
              unfold sameB
              rw [Bool.eq_false_iff]; intro ha
              rw [List.all_eq_true] at ha
              have h1 := ha m (List.mem_of_getElem? hg)
              simp only [Bool.and_eq_true, beq_iff_eq] at h1
              have h2 := (hzo y (by obtain ⟨k', rfl⟩ : ∃ k', k = k' + 1 := ⟨k - 1, by omega⟩; simp)).2
              exact HVB.out (by rw [← HV.out, ← h2, h1.2])
      · have hcall := fun W => rbucket_big m W (by omega)
        have HC := Lib.hid hcall; have HB := Lib.hid hb; clear hcall hb
        go_wp2_with (go_at_call 14; refine (HC.out _).mono ?_; rintro e w' ⟨rfl, rfl⟩)
        go_ret
        have : sameB (lens xs) = false := same_no _ m (List.mem_of_getElem? (lens_get xs k a m cc HX.out)) (by have := HB.out; omega)
        rw [this]; exact ⟨rfl, rfl⟩
    · obtain rfl : k = n := by omega
      have hT : (lens xs).take k = lens xs := by rw [← Hl.out]; unfold lens; rw [← List.map_take, List.take_length]
      have HT := Lib.hid hT; clear hT
      go_wp2_with fail
      go_ret
      refine ⟨ret_bool ?_, rfl⟩
      rw [HT.out] at hz
      symm
      match hls : lens xs, hz.out with
      | [], _ => rfl
      | y :: r, hzo =>
        unfold sameB
        rw [List.all_eq_true]
        intro m hm
        have h1 := hzo m hm; have h2 := hzo y (by simp)
        simp only [Bool.and_eq_true, decide_eq_true_eq, beq_iff_eq]
        exact ⟨h1.1, by omega⟩
end Go.Proofs.Ytejhphjilmpfkaa
