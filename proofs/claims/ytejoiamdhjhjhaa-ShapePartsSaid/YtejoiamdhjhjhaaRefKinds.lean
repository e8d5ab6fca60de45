/- The walk of the reference's Kinds. -/
import Derived.Test.YtejoiamdhjhjhaaRefCanon
namespace Go.Proofs.Ytejoiamdhjhjhaa
open Go.RowKit

theorem res23 (tmps : Array Value) (W : World) (g : Nat) (f : Nat → Nat) (hp : tmps.getD 2 undef = .pointer (some ⟨g, 0, none⟩)) (h : ∀ i, i < 8 → W.cell? ⟨g, i, none⟩ = some (.int .i64 (f i : Nat))) :
    (results Try.f23 tmps).run Try.prog W = .ok (kagg f) W := by
  have hl := run_loadVar_mid (P := Try.prog) W g 0 33 [.int .i64 (f 0 : Nat), .int .i64 (f 1 : Nat), .int .i64 (f 2 : Nat), .int .i64 (f 3 : Nat), .int .i64 (f 4 : Nat), .int .i64 (f 5 : Nat), .int .i64 (f 6 : Nat), .int .i64 (f 7 : Nat)] _ (fun j v hv => by
    match j, hv with
    | 0, hv => simp at hv; subst hv; exact h 0 (by omega)
    | 1, hv => simp at hv; subst hv; exact h 1 (by omega)
    | 2, hv => simp at hv; subst hv; exact h 2 (by omega)
    | 3, hv => simp at hv; subst hv; exact h 3 (by omega)
    | 4, hv => simp at hv; subst hv; exact h 4 (by omega)
    | 5, hv => simp at hv; subst hv; exact h 5 (by omega)
    | 6, hv => simp at hv; subst hv; exact h 6 (by omega)
    | 7, hv => simp at hv; subst hv; exact h 7 (by omega)
    | j + 8, hv => simp at hv) Try.underlying33 rfl (by kernel_rfl)
  have hp' : tmps[2]?.getD undef = .pointer (some ⟨g, 0, none⟩) := by simpa using hp
  simp [results, hp', asAddr, hl]
  rfl
set_option maxRecDepth 100000 in
set_option maxHeartbeats 4000000 in
theorem rkinds_ok (A : Option Addr) (n c : Nat) (l : List St) (w : World) (h : Ss w A n c l) (hn : n ≤ 1000) :
    Calls Try.prog 23 #[.slice A n c] w fun e w' => e = .returned (kagg (kcnt l)) ∧ Below w.heap.size w w' := by
  have HL := Lib.hid h.len
  go_enter Try.func23, Try.ntmps23
  go_wp2_with fail
  have hC0 := C8.new (w.alloc (.cells #[.int .i64 0, .int .i64 0, .int .i64 0, .int .i64 0, .int .i64 0, .int .i64 0, .int .i64 0, .int .i64 0] 33)) 33
  have hR0 := (C8.new w 33).block (Below.heap_alloc (w.alloc (.cells #[.int .i64 0, .int .i64 0, .int .i64 0, .int .i64 0, .int .i64 0, .int .i64 0, .int .i64 0, .int .i64 0] 33)) (.cells #[.int .i64 0, .int .i64 0, .int .i64 0, .int .i64 0, .int .i64 0, .int .i64 0, .int .i64 0, .int .i64 0] 33) w.heap.size (by simp))
  have hB0 : Below w.heap.size w ((w.alloc (.cells #[.int .i64 0, .int .i64 0, .int .i64 0, .int .i64 0, .int .i64 0, .int .i64 0, .int .i64 0, .int .i64 0] 33)).alloc (.cells #[.int .i64 0, .int .i64 0, .int .i64 0, .int .i64 0, .int .i64 0, .int .i64 0, .int .i64 0, .int .i64 0] 33)) := nxa ((Below.refl _ w).alloc (Nat.le_refl _) _) _
  rw [World.size_alloc] at hC0
  obtain ⟨gk, hgk⟩ : ∃ g, w.heap.size + 1 = g := ⟨_, rfl⟩
  have hgw : w.heap.size < gk := by omega
  rw [hgk] at hC0 ⊢
  clear hgk
  go_loopw [9] (fun i wr => ∃ k : Nat, k ≤ n ∧ i = .int .i64 (k : Int) ∧ C8 wr gk (kcnt (l.take k)) ∧ C8 wr w.heap.size (fun _ => 0) ∧ Below w.heap.size w wr) (fun i _ => n - (intOf i).toNat)
  case atStart => exact ⟨0, Nat.zero_le _, rfl, hC0, hR0, hB0⟩
  case round =>
    clear hC0 hR0 hB0
    obtain ⟨k, hk, rfl, hC, hR, hB⟩ := hrel
    by_cases hlt : k < n
    · obtain ⟨ad, s, rfl, h1, h2, h3, h4⟩ := (h.below hB).at_ hlt
      have hcl := kcnt_le (l.take k) (kn s.d)
      rw [List.length_take, HL.out, Nat.min_eq_left hk] at hcl
      have HK := Lib.hid (fun j => kcnt_take l k j s h1)
      have hkl := kn_lt s.d
      obtain ⟨f, hf⟩ : ∃ f, kcnt (l.take k) = f := ⟨_, rfl⟩
      rw [hf] at hC hcl
      have HK2 : Hid (∀ j, kcnt (l.take (k + 1)) j = if j = kn s.d then f (kn s.d) + 1 else f j) := Lib.hid (fun j => by
        rw [HK.out j, hf]
        by_cases e : j = kn s.d
        · rw [if_pos e, if_pos e, e]
        · rw [if_neg e, if_neg e])
      have b := B3.new wr s
      have hCa := hC.block (Below.heap_alloc wr (.cells #[.int .i64 s.d, .int .i64 s.who, .int .i64 s.of] 31) gk hC.lt)
      have hRa := hR.block (Below.heap_alloc wr (.cells #[.int .i64 s.d, .int .i64 s.who, .int .i64 s.of] 31) w.heap.size hR.lt)
      have hBa := nxa hB (.cells #[.int .i64 s.d, .int .i64 s.who, .int .i64 s.of] 31)
      have hgk2 := hC.lt
      clear h1 HK hf
      by_cases hd : 1 ≤ s.d ∧ s.d < 8
      · have hkd : kn s.d = s.d.toNat := if_pos (by omega)
        have hdi : s.d = (kn s.d : Int) := by omega
        obtain ⟨i, hi⟩ : ∃ i, kn s.d = i := ⟨_, rfl⟩
        rw [hi] at hkl hdi HK2 hcl
        have t1 : decide ((1 : Int) ≤ (i : Int)) = true := decide_eq_true (by omega)
        have t2 : decide ((i : Int) ≤ 7) = true := decide_eq_true (by omega)
        have hcc := (hCa i hkl).1
        have hcf := (hCa i hkl).2
        have hCp := hC.put (f i + 1) hkl HK2.out
        have hRp := hR.block (Below.heap_setCell wr ⟨gk, i, none⟩ (.int .i64 ((f i + 1 : Nat) : Int)) w.heap.size (by simp; omega))
        have hCn := hCp.block (Below.heap_alloc _ (.cells #[.int .i64 s.d, .int .i64 s.who, .int .i64 s.of] 31) _ hCp.lt)
        have hRn := hRp.block (Below.heap_alloc _ (.cells #[.int .i64 s.d, .int .i64 s.who, .int .i64 s.of] 31) _ hRp.lt)
        have hBn := nxa (hB.setCell (p := ⟨gk, i, none⟩) (Nat.le_of_lt hgw) (.int .i64 ((f i + 1 : Nat) : Int))) (.cells #[.int .i64 s.d, .int .i64 s.who, .int .i64 s.of] 31)
        rw [show ((f i + 1 : Nat) : Int) = (f i : Int) + 1 by omega] at hCn hRn hBn
        rw [hdi] at h2 b hCa hRa hBa hcc hcf hCn hRn hBn
        have b0 := b.c0
        rw [hdi] at b0
        have hiI : (i : Int) < 8 := by omega
        clear hd hkd hi hdi b hCa hRa hBa hC hR hB hCp hRp
        go_wp2_with fail
        go_roundw
        case rel => exact ⟨k + 1, by omega, by go_num, hCn, hRn, hBn⟩
        case measure => simp [intOf]; omega
      · have hi : kn s.d = 0 := by unfold kn; split <;> omega
        rw [hi] at HK2 hcl
        have hcc := (hCa 0 (by omega)).1
        have hcf := (hCa 0 (by omega)).2
        have hCp := hC.put (i := 0) (f 0 + 1) (by omega) HK2.out
        have hRp := hR.block (Below.heap_setCell wr ⟨gk, 0, none⟩ (.int .i64 ((f 0 + 1 : Nat) : Int)) w.heap.size (by simp; omega))
        have hCn := hCp.block (Below.heap_alloc _ (.cells #[.int .i64 s.d, .int .i64 s.who, .int .i64 s.of] 31) _ hCp.lt)
        have hRn := hRp.block (Below.heap_alloc _ (.cells #[.int .i64 s.d, .int .i64 s.who, .int .i64 s.of] 31) _ hRp.lt)
        have hBn := nxa (hB.setCell (p := ⟨gk, 0, none⟩) (Nat.le_of_lt hgw) (.int .i64 ((f 0 + 1 : Nat) : Int))) (.cells #[.int .i64 s.d, .int .i64 s.who, .int .i64 s.of] 31)
        rw [show ((f 0 + 1 : Nat) : Int) = (f 0 : Int) + 1 by omega] at hCn hRn hBn
        have b0 := b.c0
        by_cases hneg : 1 ≤ s.d
        · have t1 : decide (1 ≤ s.d) = true := decide_eq_true hneg
          have t2 : decide (s.d ≤ 7) = false := decide_eq_false (by omega)
          clear hd hi b hCa hRa hBa hC hR hB hCp hRp
          go_wp2_with fail
          go_roundw
          case rel => exact ⟨k + 1, by omega, by go_num, hCn, hRn, hBn⟩
          case measure => simp [intOf]; omega
        · have t1 : decide (1 ≤ s.d) = false := decide_eq_false hneg
          clear hd hi b hCa hRa hBa hC hR hB hCp hRp
          go_wp2_with fail
          go_roundw
          case rel => exact ⟨k + 1, by omega, by go_num, hCn, hRn, hBn⟩
          case measure => simp [intOf]; omega
    · obtain rfl : k = n := by omega
      have HT : Hid (kcnt (l.take k) = kcnt l) := Lib.hid (by rw [← HL.out, List.take_length])
      rw [HT.out] at hC
      obtain ⟨f, hf⟩ : ∃ f, kcnt l = f := ⟨_, rfl⟩
      rw [hf] at hC
      have HF := Lib.hid hf
      have c0 := (hC 0 (by omega)).1
      have c1 := (hC 1 (by omega)).1
      have c2 := (hC 2 (by omega)).1
      have c3 := (hC 3 (by omega)).1
      have c4 := (hC 4 (by omega)).1
      have c5 := (hC 5 (by omega)).1
      have c6 := (hC 6 (by omega)).1
      have c7 := (hC 7 (by omega)).1
      have r0 := hR 0 (by omega)
      have r1 := hR 1 (by omega)
      have r2 := hR 2 (by omega)
      have r3 := hR 3 (by omega)
      have r4 := hR 4 (by omega)
      have r5 := hR 5 (by omega)
      have r6 := hR 6 (by omega)
      have r7 := hR 7 (by omega)
      have e0 := hR.put (i := 0) (f 0) (by omega) (f' := fun j => if j = 0 then f 0 else 0) (fun j => rfl)
      have e1 := e0.put (i := 1) (f 1) (by omega) (f' := fun j => if j = 1 then f 1 else if j = 0 then f 0 else 0) (fun j => rfl)
      have e2 := e1.put (i := 2) (f 2) (by omega) (f' := fun j => if j = 2 then f 2 else if j = 1 then f 1 else if j = 0 then f 0 else 0) (fun j => rfl)
      have e3 := e2.put (i := 3) (f 3) (by omega) (f' := fun j => if j = 3 then f 3 else if j = 2 then f 2 else if j = 1 then f 1 else if j = 0 then f 0 else 0) (fun j => rfl)
      have e4 := e3.put (i := 4) (f 4) (by omega) (f' := fun j => if j = 4 then f 4 else if j = 3 then f 3 else if j = 2 then f 2 else if j = 1 then f 1 else if j = 0 then f 0 else 0) (fun j => rfl)
      have e5 := e4.put (i := 5) (f 5) (by omega) (f' := fun j => if j = 5 then f 5 else if j = 4 then f 4 else if j = 3 then f 3 else if j = 2 then f 2 else if j = 1 then f 1 else if j = 0 then f 0 else 0) (fun j => rfl)
      have e6 := e5.put (i := 6) (f 6) (by omega) (f' := fun j => if j = 6 then f 6 else if j = 5 then f 5 else if j = 4 then f 4 else if j = 3 then f 3 else if j = 2 then f 2 else if j = 1 then f 1 else if j = 0 then f 0 else 0) (fun j => rfl)
      have e7 := e6.put (i := 7) (f 7) (by omega) (f' := fun j => if j = 7 then f 7 else if j = 6 then f 6 else if j = 5 then f 5 else if j = 4 then f 4 else if j = 3 then f 3 else if j = 2 then f 2 else if j = 1 then f 1 else if j = 0 then f 0 else 0) (fun j => rfl)
      have d0 := (e7 0 (by omega)).1
      have d1 := (e7 1 (by omega)).1
      have d2 := (e7 2 (by omega)).1
      have d3 := (e7 3 (by omega)).1
      have d4 := (e7 4 (by omega)).1
      have d5 := (e7 5 (by omega)).1
      have d6 := (e7 6 (by omega)).1
      have d7 := (e7 7 (by omega)).1
      have D0 := Lib.hid d0; have D1 := Lib.hid d1; have D2 := Lib.hid d2; have D3 := Lib.hid d3; have D4 := Lib.hid d4; have D5 := Lib.hid d5; have D6 := Lib.hid d6; have D7 := Lib.hid d7
      clear hf hC hR e0 e1 e2 e3 e4 e5 e6 e7 d0 d1 d2 d3 d4 d5 d6 d7
      go_wp2_with fail
      have d0 := D0.out; have d1 := D1.out; have d2 := D2.out; have d3 := D3.out; have d4 := D4.out; have d5 := D5.out; have d6 := D6.out; have d7 := D7.out
      refine bodyPost_ret_by (v := kagg f) ?_ rfl ?_
      · refine res23 _ _ w.heap.size f rfl fun i hi => ?_
        match i, hi with
        | 0, _ => exact d0
        | 1, _ => exact d1
        | 2, _ => exact d2
        | 3, _ => exact d3
        | 4, _ => exact d4
        | 5, _ => exact d5
        | 6, _ => exact d6
        | 7, _ => exact d7
      · refine ⟨by rw [HF.out], ?_⟩
        have q := Nat.le_refl w.heap.size
        exact (((((((hB.setCell (p := ⟨_, 0, none⟩) q _).setCell (p := ⟨_, 1, none⟩) q _).setCell (p := ⟨_, 2, none⟩) q _).setCell (p := ⟨_, 3, none⟩) q _).setCell (p := ⟨_, 4, none⟩) q _).setCell (p := ⟨_, 5, none⟩) q _).setCell (p := ⟨_, 6, none⟩) q _).setCell (p := ⟨_, 7, none⟩) q _
end Go.Proofs.Ytejoiamdhjhjhaa
