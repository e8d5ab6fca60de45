/- The walks of the reference's SameList, and of the law WireBack, where lists are small. -/
import Derived.Test.YtjebmmmjjiomfaaBackP
namespace Go.Proofs.Ytjebmmmjjiomfaa
open Go.RowKit

set_option maxHeartbeats 1000000 in
theorem samelist_yes (A B : Option Addr) (n c d : Nat) (xs ys : List Value) (bss : List (List UInt8)) (w : World) (h : Sl w A n c xs) (hb : BL w xs bss) (k : Sl w B n d ys) (kb : BL w ys bss) :
    Calls Try.prog 23 #[.slice A n c, .slice B n d] w fun e w' => e = .returned (.bool true) ∧ Below w.heap.size w w' := by
  have htop := h.top; have hcap := h.cap; unfold maxLen at htop
  go_enter Try.func23, Try.ntmps23
  have t : ((n : Int) != (n : Int)) = false := by simp
  go_wp2_with fail
  go_loopw [5, 13] (fun _ i wr => ∃ j q : Nat, j ≤ n ∧ i = .int .i64 (j : Int) ∧ wr = w.drewN q) (fun _ i _ => n - (intOf i).toNat)
  case atStart => exact ⟨0, 0, Nat.zero_le _, rfl, rfl⟩
  case round =>
    obtain ⟨j, q, hj, rfl, rfl⟩ := hrel
    by_cases hlt : j < n
    · obtain ⟨ad, u, rfl, hx, hc⟩ := h.at_ hlt
      obtain ⟨bd, v, rfl, hy, kc⟩ := k.at_ hlt
      obtain ⟨a, m, cc, l, rfl, hl, hs⟩ := hb.2 j u hx
      obtain ⟨a', m', cc', l', rfl, hl', hs'⟩ := kb.2 j v hy
      obtain rfl : l = l' := Option.some.inj (hl.symm.trans hl')
      have i1 : (j : Int) < (n : Int) := by omega
      have q1 := fun j => (hs.drewN j).str (P := Try.prog) Try.underlying23 Try.underlying5 Try.underlying9
      have q2 := fun j => (hs'.drewN j).str (P := Try.prog) Try.underlying23 Try.underlying5 Try.underlying9
      clear hx hy hl hl'
      go_wp2_with fail
      go_quiet (fail)
      go_wp2_with fail
      go_roundw
      case rel => exact ⟨j + 1, _, by omega, by go_num, rfl⟩
      case measure => simp [intOf]; omega
    · obtain rfl : j = n := by omega
      go_wp2_with fail
      go_ret
      exact ⟨rfl, below_drewN (Below.refl _ _) _⟩
theorem mem_tot : ∀ {bss : List (List UInt8)} {l : List UInt8}, l ∈ bss → l.length ≤ tot bss
  | b :: bss, l, h => by
    simp only [tot, List.map_cons, List.sum_cons]
    rcases List.mem_cons.1 h with rfl | h
    · omega
    · have := mem_tot h; unfold tot at this; omega
theorem bl_tot {w : World} : ∀ {xs : List Value} {bss : List (List UInt8)}, BL w xs bss → (xs.map fun v => slen v + 1).sum = tot bss + xs.length
  | [], [], _ => rfl
  | [], _ :: _, h => by have := h.1; simp at this
  | _ :: _, [], h => by have := h.1; simp at this
  | x :: xs, b :: bss, h => by
    have h0 : BL w xs bss := ⟨by have := h.1; simpa using this, fun j v hv => by
      obtain ⟨a, m, c, l, e1, e2, e3⟩ := h.2 (j + 1) v (by simpa using hv)
      exact ⟨a, m, c, l, e1, by simpa using e2, e3⟩⟩
    obtain ⟨a, m, c, l, rfl, e2, e3⟩ := h.2 0 x rfl
    have e2 : b = l := by simpa using e2
    subst e2
    have hl := e3.len
    rw [bv_length] at hl
    have ih := bl_tot h0
    simp only [List.map_cons, List.sum_cons, slen_slice, List.length_cons, tot] at ih ⊢
    omega
theorem bl_sls {w : World} {xs : List Value} {bss : List (List UInt8)} (h : BL w xs bss) (ht : tot bss ≤ 140737488355328) : Sls xs := fun v hv => by
  obtain ⟨j, hj⟩ := List.getElem?_of_mem hv
  obtain ⟨a, m, c, l, rfl, e2, e3⟩ := h.2 j v hj
  refine ⟨a, m, c, rfl, ?_⟩
  have hl := e3.len
  rw [bv_length] at hl
  have := mem_tot (List.mem_of_getElem? e2); omega
theorem bigR_small (xs : List Value) (hs : Sls xs) (hl : (xs.map fun v => slen v + 1).sum ≤ 4611686018427387904) : bigR xs = ((xs.map fun v => slen v + 1).sum : Nat) := by
  have key : ∀ (ys : List Value) (n : Nat), Sls ys → n + (ys.map fun v => slen v + 1).sum ≤ 4611686018427387904 →
      ys.foldl (fun s v => wrap64 (s + ((slen v : Int) + 1))) (n : Int) = ((n + (ys.map fun v => slen v + 1).sum : Nat) : Int) := by
    intro ys
    induction ys with
    | nil => intro n _ _; simp
    | cons v r ih =>
      intro n hs hn
      obtain ⟨a, m, c, rfl, hm⟩ := hs v (by simp)
      simp only [List.map_cons, List.sum_cons, slen_slice] at hn
      have := ih (n + (m + 1)) (fun u hu => hs u (by simp [hu])) (by omega)
      have e : wrap64 ((n : Int) + (((slen (.slice a m c) : Nat) : Int) + 1)) = ((n + (m + 1) : Nat) : Int) := by
        rw [slen_slice]; unfold wrap64; omega
      rw [List.foldl_cons, e, this]
      simp only [List.map_cons, List.sum_cons, slen_slice]
      omega
  have := key xs 0 hs (by omega)
  simpa [bigR] using this
theorem rem_at (k : Int) (n : Nat) (hn : 1 ≤ n) : ∃ kk : Nat, kk < n ∧ (Int.tmod k (n : Int) + (n : Int)).tmod (n : Int) = (kk : Int) ∧ 0 ≤ Int.tmod k (n : Int) + (n : Int) ∧ Int.tmod k (n : Int) + (n : Int) ≤ 2 * (n : Int) := by
  have h1 := Int.tmod_lt_of_pos k (show (0 : Int) < (n : Int) by omega)
  have h2 : -(n : Int) < Int.tmod k (n : Int) := by
    have := Int.tmod_lt_of_pos (-k) (show (0 : Int) < (n : Int) by omega)
    rw [Int.neg_tmod] at this; omega
  obtain ⟨x, hx⟩ : ∃ x, Int.tmod k (n : Int) = x := ⟨_, rfl⟩
  rw [hx] at h1 h2 ⊢
  obtain ⟨y, hy⟩ : ∃ y : Nat, x + (n : Int) = y := ⟨(x + (n : Int)).toNat, by omega⟩
  refine ⟨y % n, Nat.mod_lt y (by omega), ?_, by omega, by omega⟩
  rw [hy, ← Int.ofNat_tmod]
theorem jl_small {bss : List (List UInt8)} (h : tot bss + bss.length ≤ 100000) : (jl bss).length ≤ 400000 := by
  have h1 := jl_len_le bss
  have h2 : ∀ b : List (List UInt8), (b.map fun x => x.length + 4).sum = tot b + 4 * b.length := by
    intro b
    induction b with
    | nil => rfl
    | cons x r ih => simp only [tot, List.map_cons, List.sum_cons, List.length_cons] at ih ⊢; omega
  rw [h2] at h1; omega
set_option maxRecDepth 100000 in
set_option maxHeartbeats 4000000 in
theorem backWalk (A : Option Addr) (n c : Nat) (xs : List Value) (bss : List (List UInt8)) (B : Option Addr) (p d : Nat) (zs : List Int) (cut : Int) (w : World) (h : Sl w A n c xs) (hb : BL w xs bss) (ht : Hid (tot bss + n ≤ 1048576)) (k0 : IsRow .u8 w B p d zs) (hp : p * 1 ≤ 140737488351232) (hcut : -9223372036854775808 ≤ cut ∧ cut ≤ 9223372036854775807) :
    Calls Try.prog 5 #[.slice A n c, .slice B p d, .int .i64 cut] w fun e w' => e = .returned (.bool true) ∧ Below w.heap.size w w' := by
  have HN := Lib.hid (show bss.length = n by rw [← hb.1]; exact h.len)
  have HX := Lib.hid h.len
  obtain ⟨bl, k, _⟩ := k0.bytes
  clear k0
  have HPL := Lib.hid (show bl.length = p by have := k.len; rwa [bv_length] at this)
  have hsum := bl_tot hb
  rw [HX.out] at hsum
  have HBR := Lib.hid (bigR_small xs (bl_sls hb (by have := ht.out; omega)) (by rw [hsum]; have := ht.out; omega))
  rw [hsum] at HBR
  have HSL := Lib.hid (bl_sls hb (by have := ht.out; omega))
  clear hsum
  have hpI : p ≤ 140737488355328 := by omega
  clear hp
  go_enter Try.func5, Try.ntmps5
  go_wp2_with fail
  refine (lead w).mono ?_; rintro e w1 ⟨rfl, hB1⟩
  have h1 := h.below hB1; have b1 := hb.keep hB1; have k1 := k.below hB1
  clear h hb k
  go_wp2_with fail
  refine (big_any A n c xs w1 h1 HSL.out).mono ?_; rintro e w' ⟨rfl, rfl⟩
  rw [HBR.out]
  by_cases hbig : 100000 < tot bss + n
  · rw [decide_eq_true (show (100000 : Int) < ((tot bss + n : Nat) : Int) by omega)]
    clear hbig
    go_wp2_with fail
    go_ret
    exact ⟨rfl, hB1⟩
  rw [decide_eq_false (show ¬ (100000 : Int) < ((tot bss + n : Nat) : Int) by omega)]
  have HT := Lib.hid (show tot bss + bss.length ≤ 100000 by rw [HN.out]; omega)
  clear hbig
  by_cases hbig : 100000 < (p : Int) + 1
  · go_wp2_with fail
    refine (big1_yes B p d w1 hpI hbig).mono ?_; rintro e w' ⟨rfl, rfl⟩
    go_wp2_with fail
    go_ret
    exact ⟨rfl, hB1.alloc hB1.size _⟩
  have HBG := Lib.hid hbig
  clear hbig
  go_wp2_with fail
  refine (big1_no B p d w1 hpI (by have := HBG.out; omega)).mono ?_; rintro e w' ⟨rfl, rfl⟩
  have hpS : p ≤ 100000 := by have := HBG.out; omega
  clear HBG hpI HBR HSL ht
  have h2 := h1.alloc (.cells #[.slice B p d] 23)
  have b2 := b1.alloc (.cells #[.slice B p d] 23)
  have k2 := k1.alloc (.cells #[.slice B p d] 23)
  have hB2 := hB1.alloc hB1.size (.cells #[.slice B p d] 23)
  clear h1 b1 k1 hB1
  have hjl := jl_small HT.out
  have hm1 : ∀ x ∈ bss, x.length < 1073741824 := fun x hx => by
    have := mem_tot hx; have := HT.out; omega
  have hjn := bytesL_ne (jl bss)
  have hjm : (bytesL (jl bss)).length ≤ 400004 := by
    have h1 := bytesL_len (jl bss); have h2 := intL_le (jl bss).length; omega
  have HSB := Lib.hid (split_back bss bl hm1 (by omega))
  have HSS := Lib.hid (fun k hk => takeB_short (jl bss) k (by omega) hk)
  have HM := Lib.hid hm1
  have HJ2 := Lib.hid (show (jl bss).length < 1073741824 by omega)
  have HJO := Lib.hid (fun W hW hB => join_ok A n c xs bss W hW hB HM.out HJ2.out)
  clear hm1 hjl
  obtain ⟨J, hJ⟩ : ∃ J, bytesL (jl bss) = J := ⟨_, rfl⟩
  rw [hJ] at hjn hjm HSB HSS HJO
  obtain ⟨N, hN⟩ : ∃ N, J.length = N := ⟨_, rfl⟩
  rw [hN] at hjn hjm HSB HSS HJO
  have HNN := Lib.hid hN
  clear hJ hN HM HJ2
  go_wp2_with fail
  refine (HJO.out _ h2 b2).mono ?_; rintro e w3 ⟨A3, c3, rfl, hO3, hB3⟩
  have h3 := h2.below hB3; have b3 := b2.keep hB3; have k3 := k2.below hB3
  have hB3' := hB2.trans (hB3.mono hB2.size)
  have s3 := hO3.sl
  clear h2 b2 k2 hB2 hB3 HJO hO3
  go_wp2_with (first
    | (at_builtin; refine wpList_app (o := ⟨some 41, _, _, _, _, _⟩) E23 rfl rfl rfl (Ow.nil w3 w3.heap.size 5 1) rfl s3.lies (by rw [bv_length, HNN.out, Nat.mul_one]) (bv_one _) (by unfold maxLen; omega) (by omega) (Nat.le_refl _) ?_; intro A4 c4 w4 hO4 hG4 hB4; rw [Nat.zero_add, List.nil_append] at hO4; have h4 := h3.below hB4; have b4 := b3.keep hB4; have k4 := k3.below hB4; have s4 := s3.below hB4; have hB4' := hB3'.trans (hB4.mono hB3'.size); have z4 := hB4.size)
    | (at_builtin; refine wpList_app (o := ⟨some 43, _, _, _, _, _⟩) E23 rfl rfl rfl hO4 rfl k4.lies (by rw [bv_length, HPL.out, Nat.mul_one]) (bv_one _) (by unfold maxLen; omega) (by omega) z4 ?_; intro A5 c5 w5 hO5 hG5 hB5))
  have hB35 := hB4.trans hB5
  have h5 := h3.below hB35; have b5 := b3.keep hB35; have s5 := s3.below hB35
  have hB5' := hB3'.trans (hB35.mono hB3'.size)
  have r5 := hO5.sl
  rw [← bv_append] at r5
  clear s3 h3 b3 k3 hB3' hO4 hG4 hB4 h4 b4 k4 s4 hB4' z4 hO5 hG5 hB5 hB35
  refine (split_any A5 (N + p) c5 (J ++ bl) w5 r5 (Lib.hid (by omega))).mono ?_
  intro e w6 hsp
  rw [HSB.out] at hsp
  obtain ⟨hB6, A6, c6, ys, rfl, hO6, hBO6⟩ := hsp
  have h6 := h5.below hB6; have b6 := b5.keep hB6; have s6 := s5.below hB6
  have hB6' := hB5'.trans (hB6.mono hB5'.size)
  have y6 := hO6.sl
  have yb6 := hBO6.bl
  rw [HN.out] at y6 ⊢
  obtain ⟨kk, hkk, hr, hr1, hr2⟩ := rem_at cut N hjn
  have nz : ¬ ((N : Int) = 0) := by omega
  have nz2 : ((N : Int) == 0) = false := by rw [beq_eq_false_iff_ne]; exact nz
  have nn : ((N : Int) != (N : Int)) = false := by simp
  obtain ⟨cd1, cd2⟩ := hcut
  clear h5 b5 s5 r5 hB5' hO6 hBO6 hB6
  go_wp2_with fail
  refine (samelist_yes A A6 n c c6 xs ys bss w6 h6 b6 y6 yb6).mono ?_; rintro e w7 ⟨rfl, hB7⟩
  have s7 := s6.below hB7
  have hB7' := hB6'.trans (hB7.mono hB6'.size)
  clear h6 b6 s6 y6 yb6 hB6' hB7
  have r7 := s7.pre (show kk ≤ N by omega)
  rw [← bv_take] at r7
  have i1 : (kk : Int) ≤ (c3 : Int) := by have := s7.cap; omega
  have i2 : (0 : Int) ≤ (kk : Int) := by omega
  have i3 : (kk : Int) ≤ (N : Int) := by omega
  go_wp2_with fail
  refine (split_any A3 kk c3 (J.take kk) w7 r7 (Lib.hid (by omega))).mono ?_
  intro e w8 hsp
  have hq := HSS.out kk hkk
  rw [hq, show splitL (J.take kk) = none by unfold splitL; rw [if_pos (by rw [hq]; omega)]] at hsp
  obtain ⟨hB8, p8, hp8, hp8', rfl⟩ := hsp
  have hp9 : p8 = 10 := by rw [hp8', if_pos (by omega)]
  subst hp9
  clear hp8 hp8' hq
  go_wp2_with fail
  go_ret
  exact ⟨rfl, hB7'.trans (hB8.mono hB7'.size)⟩
end Go.Proofs.Ytjebmmmjjiomfaa
