/- The walks of slices.Clone at steps and of shape.Swap. -/
import Derived.Test.YtejoiamdhjhjhaaInverse
import Derived.Lib.SliceRun
namespace Go.Proofs.Ytejoiamdhjhjhaa
open Go.RowKit

theorem svs_idx : ∀ (l : List St) (j : Nat) (u : Value), (svs l)[j]? = some u → ∃ s, l[j / 3]? = some s ∧ (sv s)[j % 3]? = some u
  | [], j, u, h => by simp [svs] at h
  | s :: r, 0, u, h => ⟨s, by simp, by simpa [svs, sv] using h⟩
  | s :: r, 1, u, h => ⟨s, by simp, by simpa [svs, sv] using h⟩
  | s :: r, 2, u, h => ⟨s, by simp, by simpa [svs, sv] using h⟩
  | s :: r, j + 3, u, h => by
    obtain ⟨t, h1, h2⟩ := svs_idx r j u (by simpa [svs] using h)
    refine ⟨t, ?_, ?_⟩
    · rw [show (j + 3) / 3 = j / 3 + 1 by omega]; simpa using h1
    · rw [show (j + 3) % 3 = j % 3 by omega]; exact h2
theorem Ss.flat {w : World} {A : Option Addr} {n c : Nat} {l : List St} (h : Ss w A n c l) : Lies w A (svs l) := by
  rcases h.lies with e | ⟨ad, rfl, hc⟩
  · subst e; exact .inl rfl
  · refine .inr ⟨ad, rfl, fun j u hu => ?_⟩
    obtain ⟨s, h1, h2⟩ := svs_idx l j u hu
    obtain ⟨a1, a2, a3⟩ := hc _ s h1
    have hj : j = (j / 3) * 3 + j % 3 := by omega
    have hlt : j % 3 < 3 := Nat.mod_lt _ (by omega)
    generalize j / 3 = q at *
    generalize j % 3 = r at *
    subst hj
    rw [← add_add]
    match r, hlt with
    | 0, _ =>
      simp [sv] at h2; subst h2
      rw [show (ad.add (q * 3)).add 0 = ad.add (q * 3) by unfold Addr.add; simp]
      exact a1
    | 1, _ =>
      simp [sv] at h2; subst h2
      rw [show (ad.add (q * 3)).add 1 = ⟨(ad.add (q * 3)).block, (ad.add (q * 3)).off + 1, Option.none⟩ by simp [Addr.add]]
      exact a2
    | 2, _ =>
      simp [sv] at h2; subst h2
      rw [show (ad.add (q * 3)).add 2 = ⟨(ad.add (q * 3)).block, (ad.add (q * 3)).off + 2, Option.none⟩ by simp [Addr.add]]
      exact a3
theorem clone_ok (A : Option Addr) (n c : Nat) (l : List St) (w : World) (h : Ss w A n c l) (hn : n ≤ 1000) :
    Calls Try.prog 28 #[.slice A n c] w fun e w' => ∃ A' c', e = .returned (.slice A' n c') ∧ Ow w' w.heap.size 31 3 A' n c' (svs l) ∧ Below w.heap.size w w' := by
  have q := fun (w : World) => Lib.run_eql_slice_nil (P := Try.prog) w 22 31 A n c 0 0 Try.underlying22
  have hl := h.len
  rcases A with _ | ad
  · have h0 : l = [] := by
      rcases h.lies with e | ⟨ad, e, _⟩
      · exact e
      · cases e
    subst h0
    obtain rfl : n = 0 := by simpa using hl.symm
    clear h hl
    go_enter Try.func28, Try.ntmps28
    go_wp2_with fail
    go_ret
    exact ⟨_, _, rfl, Ow.nil _ _ _ _, Below.refl _ _⟩
  · have H := Lib.hid hl; clear hl
    have hf := h.flat
    go_enter Try.func28, Try.ntmps28
    go_wp2_with (at_builtin; refine wpList_app E22 rfl rfl rfl (World.ownsRow_made w #[] 0 (Nat.le_refl _) (by simp) rfl) rfl (hf.alloc _) (by rw [svs_len, H.out, Nat.mul_comm]) (svs_one l) (by unfold maxLen; omega) (by omega) (by simp) ?_; intro A' c' w' hO hG hB)
    go_ret
    refine ⟨A', c', ?_, ?_, ?_⟩
    · simp
    · simpa using hO
    · exact ((Below.refl _ w).alloc (Nat.le_refl _) _).trans hB

theorem nm_cases' (d : Int) : nm d = [1] ∨ nm d = [1, 2] ∨ nm d = [] := by
  unfold nm
  split
  · exact .inl rfl
  · split
    · exact .inr (.inl rfl)
    · exact .inr (.inr rfl)
/-- a step swapped -/
def swJ (p : List Int) (s : St) (j : Nat) : St := ((nm s.d).take j).foldl (fun t i => setF t i (p.getD (fld s i).toNat 0)) s
def swF (p : List Int) (s : St) : St := swJ p s 2
def InR (p : List Int) (s : St) : Prop := ∀ i ∈ nm s.d, 0 ≤ fld s i ∧ fld s i < (p.length : Int)
theorem swJ_step (p : List Int) (s : St) (j i : Nat) (h : (nm s.d)[j]? = some i) : swJ p s (j + 1) = setF (swJ p s j) i (p.getD (fld s i).toNat 0) ∧ fld (swJ p s j) i = fld s i := by
  constructor
  · unfold swJ; rw [List.take_add_one, h, Option.toList_some, List.foldl_append]; rfl
  · unfold swJ
    rcases nm_cases' s.d with hn | hn | hn
    · rw [hn] at h ⊢
      match j, h with
      | 0, h => rfl
      | j + 1, h => simp at h
    · rw [hn] at h ⊢
      match j, h with
      | 0, h => rfl
      | 1, h => simp at h; subst h; rfl
      | j + 2, h => simp at h
    · rw [hn] at h; simp at h
theorem swJ_all (p : List Int) (s : St) (j : Nat) (h : (nm s.d).length ≤ j) : swJ p s j = swF p s := by
  unfold swF swJ; rw [List.take_of_length_le h, List.take_of_length_le (nm_len s.d)]
theorem svs_set (l : List St) (k : Nat) (s : St) (h : l[k]? = some s) (i : Nat) (hi : i = 1 ∨ i = 2) (v : Int) : (svs l).set (k * 3 + i) (.int .i64 v) = svs (l.set k (setF s i v)) := by
  induction l generalizing k with
  | nil => simp at h
  | cons x r ih =>
    match k with
    | 0 =>
      simp at h; subst h
      rcases hi with rfl | rfl <;> simp [svs, setF]
    | k + 1 =>
      have := ih k (by simpa using h)
      rw [show (k + 1) * 3 + i = (k * 3 + i) + 3 by omega]
      simp [svs, this]
end Go.Proofs.Ytejoiamdhjhjhaa
