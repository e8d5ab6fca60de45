/- The given statement CodecApartUptoSaid, proved: the walk laid into the row's frame. No condition beyond the statement's own. -/
import Derived.Test.YtjebmmmjjiomfaaRows
import Derived.WalkKit
import Derived.ProofKit
import Derived.OpenShut
import Derived.ShutString
import Derived.ChangeOld
import Derived.Below
import Derived.SizedLaws
import Derived.Deep.CondSized
import Derived.Test.YtjebmmmjjiomfaaCArgs
import Derived.Test.YtjebmmmjjiomfaaCArgsC
import Derived.Test.YtjebmmmjjiomfaaCArgsW
import Derived.Test.YtjebmmmjjiomfaaCApartW
namespace Go.Proofs.Ytjebmmmjjiomfaa.codecApartUpto
open Go.ChangeShapes Go.WideShapes Go.ChangeAt Go.RowKit
set_option linter.unusedVariables false

theorem own : ownKnob Try.prog.godebug = none := by kernel_rfl
theorem laidOut : laidOutB Try.prog = true := by kernel_rfl

set_option maxRecDepth 100000 in
theorem lifted (os : Os) (started : os.Started) (H : Type) (enc : TypeId × Value → H) (F : Stop.Interp) :
    ReturnsInHanded {} Try.checked os 11 .any ((Rows.OpenSpec.upto Rows.codecApartSpec).pre6 enc Try.prog Try.f11 Rows.codecApartUptoRow.domain false) (((Rows.OpenSpec.upto Rows.codecApartSpec).at F).post enc Try.prog Try.f11 false true false false) := by
  refine returnsInHanded_of_cond_sized (C := Try.checked) (s := (Rows.OpenSpec.upto Rows.codecApartSpec)) (k := Rows.uptoSmall) rfl own started (by kernel_rfl) Try.func11
    (OpenSpec.witness (enc := enc) (C := Try.checked) (s := (Rows.OpenSpec.upto Rows.codecApartSpec)) (k := Rows.uptoSmall) rfl false ⟨#[], #[.slice none 0 0, .slice none 0 0, .agg #[.int .i64 0, .int .i64 0, .slice none 0 0, .bool false, .int .i64 0, .int .i64 0, .int .i64 0, .int .i64 0, .int .i64 0, .slice none 0 0, .slice none 0 0, .int .i64 0, .int .i64 0], .agg #[.int .i64 0, .int .i64 0, .slice none 0 0, .bool false, .int .i64 0, .int .i64 0, .int .i64 0, .int .i64 0, .int .i64 0, .slice none 0 0, .slice none 0 0, .int .i64 0, .int .i64 0], .agg #[.int .i64 0, .int .i64 0, .int .i64 0, .int .i64 0, .slice none 0 0, .int .i64 0, .int .i64 0, .int .i64 0, .int .i64 0, .int .i64 0], .agg #[.int .i64 0, .int .i64 0, .int .i64 0, .int .i64 0, .slice none 0 0, .int .i64 0, .int .i64 0, .int .i64 0, .int .i64 0, .int .i64 0]], []⟩ 8 (by kernel_rfl) (by kernel_rfl) (by kernel_rfl)
      (x := ([.nil, .nil, .agg [.lit (.int .i64 0), .lit (.int .i64 0), .nil, .lit (.bool false), .agg [.agg [.lit (.int .i64 0), .lit (.int .i64 0), .lit (.int .i64 0), .lit (.int .i64 0), .lit (.int .i64 0), .nil], .nil], .lit (.int .i64 0), .lit (.int .i64 0)], .agg [.lit (.int .i64 0), .lit (.int .i64 0), .nil, .lit (.bool false), .agg [.agg [.lit (.int .i64 0), .lit (.int .i64 0), .lit (.int .i64 0), .lit (.int .i64 0), .lit (.int .i64 0), .nil], .nil], .lit (.int .i64 0), .lit (.int .i64 0)], .agg [.lit (.int .i64 0), .lit (.int .i64 0), .lit (.int .i64 0), .lit (.int .i64 0), .nil, .lit (.int .i64 0), .lit (.int .i64 0), .lit (.int .i64 0), .lit (.int .i64 0), .lit (.int .i64 0)], .agg [.lit (.int .i64 0), .lit (.int .i64 0), .lit (.int .i64 0), .lit (.int .i64 0), .nil, .lit (.int .i64 0), .lit (.int .i64 0), .lit (.int .i64 0), .lit (.int .i64 0), .lit (.int .i64 0)]], [], [])) (by kernel_rfl) rfl (by kernel_rfl)) ?_
  intro W base args ds gs before hval0 hW hcnd hkb hsz0 _
  have hval : ∀ (j : Nat) t v, Try.f11.params[j]? = some t → args[j]? = some v → Value.okWide Try.prog W .any base t v := hval0
  have hW' := hW
  obtain ⟨p, q, hA0, hV, rfl, hfz, hnd⟩ := hW
  have hA : DataW.TrodAll enc Try.prog W 0 (fun _ => true) true Try.f11.params.toList args.toList ds p := hA0
  rw [Try.params11] at hA hval
  obtain ⟨v0, vs0, d0, ds0, p0, q0, hargs, rfl, rfl, h0, r0⟩ := trodAll_cons hA
  obtain ⟨v1, vs1, d1, ds1, p1, q1, rfl, rfl, rfl, h1, r1⟩ := trodAll_cons r0
  obtain ⟨v2, vs2, d2, ds2, p2, q2, rfl, rfl, rfl, h2, r2⟩ := trodAll_cons r1
  obtain ⟨v3, vs3, d3, ds3, p3, q3, rfl, rfl, rfl, h3, r3⟩ := trodAll_cons r2
  obtain ⟨v4, vs4, d4, ds4, p4, q4, rfl, rfl, rfl, h4, r4⟩ := trodAll_cons r3
  obtain ⟨v5, vs5, d5, ds5, p5, q5, rfl, rfl, rfl, h5, r5⟩ := trodAll_cons r4
  obtain ⟨rfl, rfl, rfl⟩ := trodAll_nil r5
  obtain rfl : args = #[v0, v1, v2, v3, v4, v5] := by cases args; simp_all
  obtain ⟨rfl, rfl⟩ := trodVars_none hV
  have hkk := bulk_all hkb
  have k0 := h0
  have lt0 : ∀ x ∈ p0, x.block < W.heap.size := by obtain ⟨m, hm⟩ := k0; exact DataW.trod_lt m _ _ _ hm
  have u0 := hkk d0 (by simp)
  obtain ⟨A0, n0, c0, l0, rfl, s0, g0⟩ : ∃ (A : Option Addr) (n c : Nat) (l : List TN), v0 = .slice A n c ∧ Ts W A n c l ∧ szT l + 1 ≤ Rows.uptoBulk d0 := by
    obtain ⟨fuel, hf⟩ := h0
    obtain ⟨A, n, c, l, h1, h2, h3⟩ := open_nodes hf
    obtain ⟨a', n', c', rfl⟩ := okWide_slice Try.underlying49 (hval 0 49 v0 rfl rfl)
    exact ⟨A, n, c, l, by simpa [Value.cells] using h1, h2, h3⟩
  have y0 : Hid (szT l0 ≤ 1048576) := Lib.hid (by show _ ≤ _; omega)
  have k1 := h1
  have lt1 : ∀ x ∈ p1, x.block < W.heap.size := by obtain ⟨m, hm⟩ := k1; exact DataW.trod_lt m _ _ _ hm
  have u1 := hkk d1 (by simp)
  obtain ⟨A1, n1, c1, l1, rfl, s1, g1⟩ : ∃ (A : Option Addr) (n c : Nat) (l : List TN), v1 = .slice A n c ∧ Ts W A n c l ∧ szT l + 1 ≤ Rows.uptoBulk d1 := by
    obtain ⟨fuel, hf⟩ := h1
    obtain ⟨A, n, c, l, h1, h2, h3⟩ := open_nodes hf
    obtain ⟨a', n', c', rfl⟩ := okWide_slice Try.underlying49 (hval 1 49 v1 rfl rfl)
    exact ⟨A, n, c, l, by simpa [Value.cells] using h1, h2, h3⟩
  have y1 : Hid (szT l1 ≤ 1048576) := Lib.hid (by show _ ≤ _; omega)
  have k2 := h2
  have lt2 : ∀ x ∈ p2, x.block < W.heap.size := by obtain ⟨m, hm⟩ := k2; exact DataW.trod_lt m _ _ _ hm
  have u2 := hkk d2 (by simp)
  obtain ⟨x2, P2, rfl, s2, g2⟩ : ∃ (x : CM) (P : CP), v2 = cv x P ∧ CMem W x P ∧ szC x + 1 ≤ Rows.uptoBulk d2 := by
    obtain ⟨fuel, hf⟩ := h2
    obtain ⟨cs, rfl, hc⟩ := okWide_struct Try.underlying72 (hval 2 72 v2 rfl rfl)
    exact open_commit hc hf
  have y2 : Hid (szC x2 ≤ 1048576) := Lib.hid (by show _ ≤ _; omega)
  have k3 := h3
  have lt3 : ∀ x ∈ p3, x.block < W.heap.size := by obtain ⟨m, hm⟩ := k3; exact DataW.trod_lt m _ _ _ hm
  have u3 := hkk d3 (by simp)
  obtain ⟨x3, P3, rfl, s3, g3⟩ : ∃ (x : CM) (P : CP), v3 = cv x P ∧ CMem W x P ∧ szC x + 1 ≤ Rows.uptoBulk d3 := by
    obtain ⟨fuel, hf⟩ := h3
    obtain ⟨cs, rfl, hc⟩ := okWide_struct Try.underlying72 (hval 3 72 v3 rfl rfl)
    exact open_commit hc hf
  have y3 : Hid (szC x3 ≤ 1048576) := Lib.hid (by show _ ≤ _; omega)
  have k4 := h4
  have lt4 : ∀ x ∈ p4, x.block < W.heap.size := by obtain ⟨m, hm⟩ := k4; exact DataW.trod_lt m _ _ _ hm
  have u4 := hkk d4 (by simp)
  obtain ⟨A4, n4, c4, x4, rfl, s4, g4⟩ : ∃ (A : Option Addr) (n c : Nat) (x : WM), v4 = wv x A n c ∧ Ts W A n c x.tree ∧ szT x.tree + 1 ≤ Rows.uptoBulk d4 := by
    obtain ⟨fuel, hf⟩ := h4
    obtain ⟨cs, rfl, hc⟩ := okWide_struct Try.underlying58 (hval 4 58 v4 rfl rfl)
    exact open_welcome hc hf
  have y4 : Hid (szT x4.tree ≤ 1048576) := Lib.hid (by show _ ≤ _; omega)
  have k5 := h5
  have lt5 : ∀ x ∈ p5, x.block < W.heap.size := by obtain ⟨m, hm⟩ := k5; exact DataW.trod_lt m _ _ _ hm
  have u5 := hkk d5 (by simp)
  obtain ⟨A5, n5, c5, x5, rfl, s5, g5⟩ : ∃ (A : Option Addr) (n c : Nat) (x : WM), v5 = wv x A n c ∧ Ts W A n c x.tree ∧ szT x.tree + 1 ≤ Rows.uptoBulk d5 := by
    obtain ⟨fuel, hf⟩ := h5
    obtain ⟨cs, rfl, hc⟩ := okWide_struct Try.underlying58 (hval 5 58 v5 rfl rfl)
    exact open_welcome hc hf
  have y5 : Hid (szT x5.tree ≤ 1048576) := Lib.hid (by show _ ≤ _; omega)
  clear hA0 hval0
  refine (codecApart_walk A0 n0 c0 l0 A1 n1 c1 l1 x2 P2 x3 P3 A4 n4 c4 x4 A5 n5 c5 x5 W s0 s1 s2 s3 s4 s5 y0 y1 y2 y3 y4 y5).mono fun e W' ⟨he, bel⟩ => ?_
  subst he
  exact ⟨_, rfl, _, _, _, [], _, [], hW', trodAll_mk1 (shut_bool Try.underlying4 _), (trodAll_cons_mk (Below.trod laidOut (by kernel_rfl) (of_decide_eq_true (by kernel_rfl)) k0 bel lt0) (trodAll_cons_mk (Below.trod laidOut (by kernel_rfl) (of_decide_eq_true (by kernel_rfl)) k1 bel lt1) (trodAll_cons_mk (Below.trod laidOut (by kernel_rfl) (of_decide_eq_true (by kernel_rfl)) k2 bel lt2) (trodAll_cons_mk (Below.trod laidOut (by kernel_rfl) (of_decide_eq_true (by kernel_rfl)) k3 bel lt3) (trodAll_cons_mk (Below.trod laidOut (by kernel_rfl) (of_decide_eq_true (by kernel_rfl)) k4 bel lt4) (trodAll_cons_mk (Below.trod laidOut (by kernel_rfl) (of_decide_eq_true (by kernel_rfl)) k5 bel lt5) trodAll_mk0)))))), rfl, bel.frame _, fun h => by cases h⟩

theorem proved : Rows.CodecApartUptoSaid :=
  OpenClaim.holds_of_cond 11 Try.f11 rfl rfl rfl rfl rfl rfl rfl ⟨rfl, rfl, rfl, rfl, rfl⟩ rfl rfl rfl rfl rfl (by kernel_rfl) Try.func11 (by kernel_rfl)
    (of_decide_eq_true (by kernel_rfl)) (by unfold Func.isWrapper; first | (rw [if_pos (by decide +kernel)]; kernel_rfl) | (rw [if_neg (by decide +kernel)]; exact ⟨rfl, rfl⟩))
    (fun os started H enc _ F => lifted os started H enc F)
#print axioms proved
end Go.Proofs.Ytjebmmmjjiomfaa.codecApartUpto
