/- The walk of the law's 'big': the sum of the lengths, each and one more, held against a bound. -/
import Derived.Test.YtjebmmmjjiomfaaLive
namespace Go.Proofs.Ytjebmmmjjiomfaa
open Go.RowKit

def slen : Value → Nat | .slice _ n _ => n | _ => 0
theorem slen_slice (a : Option Addr) (m c : Nat) : slen (.slice a m c) = m := rfl
def bigR (xs : List Value) : Int := xs.foldl (fun s v => wrap64 (s + ((slen v : Int) + 1))) 0
theorem bigR_snoc (xs : List Value) (v : Value) : bigR (xs ++ [v]) = wrap64 (bigR xs + ((slen v : Int) + 1)) := by simp [bigR]
/-- the cells of a slice of slices of bytes, each within the reach -/
def Sls (xs : List Value) : Prop := ∀ v ∈ xs, ∃ a m c, v = .slice a m c ∧ m ≤ 140737488355328
theorem bigR_eq (xs : List Value) (hs : Sls xs) (hl : xs.length ≤ 1000) : bigR xs = ((xs.map fun v => slen v + 1).sum : Nat) ∧ (xs.map fun v => slen v + 1).sum ≤ xs.length * 140737488355329 := by
  have key : ∀ (ys : List Value) (n : Nat), Sls ys → n + ys.length * 140737488355329 ≤ 1000 * 140737488355329 →
      ys.foldl (fun s v => wrap64 (s + ((slen v : Int) + 1))) (n : Int) = ((n + (ys.map fun v => slen v + 1).sum : Nat) : Int) ∧ (ys.map fun v => slen v + 1).sum ≤ ys.length * 140737488355329 := by
    intro ys
    induction ys with
    | nil => intro n _ _; simp
    | cons v r ih =>
      intro n hs hn
      obtain ⟨a, m, c, rfl, hm⟩ := hs v (by simp)
      simp only [List.length_cons] at hn
      have := ih (n + (m + 1)) (fun u hu => hs u (by simp [hu])) (by omega)
      have e : wrap64 ((n : Int) + (((slen (.slice a m c) : Nat) : Int) + 1)) = ((n + (m + 1) : Nat) : Int) := by
        rw [slen_slice]; unfold wrap64; omega
      rw [List.foldl_cons, e, this.1]
      simp only [List.map_cons, List.sum_cons, List.length_cons, slen_slice]
      have := this.2
      constructor <;> omega
  have := key xs 0 hs (by omega)
  simpa [bigR] using this

set_option maxHeartbeats 1000000 in
theorem big_any (A : Option Addr) (n c : Nat) (xs : List Value) (w : World) (h : Sl w A n c xs) (hs : Sls xs) :
    Calls Try.prog 20 #[.slice A n c] w fun e w' => e = .returned (.bool (decide (100000 < bigR xs))) ∧ w = w' := by
  have htop := h.top; have hcap := h.cap; unfold maxLen at htop
  have Hl := Lib.hid h.len
  go_enter Try.func20, Try.ntmps20
  go_wp2
  go_loop [3, 8] (fun s i => ∃ k : Nat, k ≤ n ∧ i = .int .i64 k ∧ s = .int .i64 (bigR (xs.take k))) (fun _ i => n - (intOf i).toNat)
  case atStart => exact ⟨0, Nat.zero_le _, rfl, rfl⟩
  case round =>
    obtain ⟨k, hk, rfl, rfl⟩ := hrel
    by_cases hlt : k < n
    · obtain ⟨ad, u, rfl, hx, hc⟩ := h.at_ hlt
      obtain ⟨a, m, cc, rfl, hm⟩ := hs u (List.mem_of_getElem? hx)
      have HS : Hid (bigR (xs.take (k + 1)) = wrap64 (bigR (xs.take k) + ((m : Int) + 1))) := by
        rw [List.take_add_one, hx, Option.toList_some, bigR_snoc]; rfl
      have HX := Lib.hid hx; clear hx
      go_wp2
      go_round
      case rel => exact ⟨k + 1, by omega, by go_num, by rw [HS.out]⟩
      case measure => simp [intOf]; omega
    · obtain rfl : k = n := by omega
      have HT : Hid (xs.take k = xs) := by rw [← Hl.out]; exact List.take_length
      go_wp2
      go_ret
      rw [HT.out]; exact ⟨rfl, rfl⟩

theorem big_one (A : Option Addr) (n c : Nat) (w : World) (hn : n ≤ 140737488355328) :
    Calls Try.prog 20 #[.slice (some ⟨w.heap.size, 0, none⟩) 1 1] (w.alloc (.cells #[.slice A n c] 23)) fun e w' => e = .returned (.bool (decide (100000 < (n : Int) + 1))) ∧ w.alloc (.cells #[.slice A n c] 23) = w' := by
  have hs : Sls [Value.slice A n c] := fun v hv => by
    simp only [List.mem_cons, List.not_mem_nil, or_false] at hv
    subst hv; exact ⟨A, n, c, rfl, hn⟩
  have hb : bigR [Value.slice A n c] = (n : Int) + 1 := by
    have := (bigR_eq _ hs (by simp)).1
    rw [this]; simp only [List.map_cons, List.map_nil, List.sum_cons, List.sum_nil, slen_slice]; omega
  refine (big_any (some ⟨w.heap.size, 0, none⟩) 1 1 [.slice A n c] _ ⟨rfl, by omega, by unfold maxLen; omega, lies_cells w #[.slice A n c] 23⟩ hs).mono ?_
  rintro e w' ⟨rfl, rfl⟩
  rw [hb]; exact ⟨rfl, rfl⟩
theorem big1_yes (A : Option Addr) (n c : Nat) (w : World) (hn : n ≤ 140737488355328) (h : 100000 < (n : Int) + 1) :
    Calls Try.prog 20 #[.slice (some ⟨w.heap.size, 0, none⟩) 1 1] (w.alloc (.cells #[.slice A n c] 23)) fun e w' => e = .returned (.bool true) ∧ w.alloc (.cells #[.slice A n c] 23) = w' :=
  (big_one A n c w hn).mono fun _ _ ⟨h1, h2⟩ => ⟨by rw [h1, decide_eq_true h], h2⟩
theorem big1_no (A : Option Addr) (n c : Nat) (w : World) (hn : n ≤ 140737488355328) (h : ¬ 100000 < (n : Int) + 1) :
    Calls Try.prog 20 #[.slice (some ⟨w.heap.size, 0, none⟩) 1 1] (w.alloc (.cells #[.slice A n c] 23)) fun e w' => e = .returned (.bool false) ∧ w.alloc (.cells #[.slice A n c] 23) = w' :=
  (big_one A n c w hn).mono fun _ _ ⟨h1, h2⟩ => ⟨by rw [h1, decide_eq_false h], h2⟩
end Go.Proofs.Ytjebmmmjjiomfaa
