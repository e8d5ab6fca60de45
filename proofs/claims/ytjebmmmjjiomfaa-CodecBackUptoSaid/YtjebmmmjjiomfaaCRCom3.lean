/- The walk of a path's reader. -/
import Derived.Test.YtjebmmmjjiomfaaCRCom2
namespace Go.Proofs.Ytjebmmmjjiomfaa
open Go.RowKit

theorem cf113 (args : Array Value) (w : World) : (callFunc 113 args).run Try.prog w = .ok (.enter 113 args) w := by kernel_rfl
/-- what a path's reader answers -/
def PV (a : TN × List PN) (w : World) (v : Value) : Prop := ∃ B d base A c cs, v = .agg #[.int .i64 a.1.k, .int .i64 a.1.id, .int .i64 a.1.enc, .int .i64 a.1.sig, .int .i64 a.1.hash, .slice B a.1.un.length d, .slice A a.2.length c] ∧
  UO w B a.1.un.length d a.1.un ∧ Ow w base 111 2 A a.2.length c cs ∧ Els QE w a.2 cs
def qz0 : Nat → Value
  | 5 => .slice none 0 0 | 6 => .slice none 0 0 | _ => .int .i64 0
theorem rPath_1 {l : List UInt8} (h : rNode l = none) : rPath l = none := by unfold rPath; rw [h]; rfl
theorem rPath_2 {l r : List UInt8} {s : TN} (h : rNode l = some (s, r)) (k : rL rPN r = none) : rPath l = none := by
  unfold rPath; rw [h, Option.bind_some]; dsimp only; rw [k]; rfl
theorem rPath_3 {l r r2 : List UInt8} {s : TN} {ns : List PN} (h : rNode l = some (s, r)) (k : rL rPN r = some (ns, r2)) : rPath l = some ((s, ns), r2) := by
  unfold rPath; rw [h, Option.bind_some]; dsimp only; rw [k]; rfl
set_option maxRecDepth 100000 in
set_option maxHeartbeats 8000000 in
theorem rpath_ok (p : Nat) (X : Nat → Prop) (l : List UInt8) (w : World) (h : RD X w p l) (hX : X p) (hlen : Hid (l.length ≤ 1073741824)) :
    Calls Try.prog 86 #[.pointer (some ⟨p, 0, none⟩)] w (REnd (rPath l) PV X p w) := by
  have hmf := hmfT
  have hbit := h.bit
  obtain ⟨z, hz⟩ : ∃ z, w.heap.size = z := ⟨_, rfl⟩
  obtain ⟨wz, hwz⟩ : ∃ wz, w.alloc (.cells #[.int .i64 0, .int .i64 0, .int .i64 0, .int .i64 0, .int .i64 0, .slice none 0 0, .slice none 0 0] 70) = wz := ⟨_, rfl⟩
  have hBz : Below w.heap.size w wz := by rw [← hwz]; exact nxa (Below.refl _ _) _
  have hzz : wz.heap.size = z + 1 := by rw [← hwz]; simp [hz]
  have hbx : Bx wz z 7 qz0 70 := Bx.of (by rw [← hwz, ← hz]; exact heap_alloc_new _ _) (fun j hj => by
    match j, hj with
    | 0, _ => rfl | 1, _ => rfl | 2, _ => rfl | 3, _ => rfl | 4, _ => rfl | 5, _ => rfl | 6, _ => rfl
    | j + 7, h => exact absurd h (by omega))
  have hR : RD (plus X w) wz p l := h.plus.kx (Y := fun _ => False) (KX.of hBz) (fun _ e _ => e.elim) (fun e => e)
  have HC := Lib.hid (rnode_ok p (plus X w) l wz hR (.inl hX) hlen)
  have HB := Lib.hid hBz; have HW := Lib.hid hwz; have HZ := Lib.hid hz; have HX := Lib.hid hX; have HBX := Lib.hid hbx
  have hpz : p < z := by omega
  clear hBz hwz hR hzz hbx h hX
  go_enter Try.func86, Try.ntmps86
  go_wp2_with fail
  rw [HW.out]
  refine HC.out.mono ?_
  rintro e w2 (⟨s, r, v, h1, rfl, ⟨B, d, rfl, hU⟩, h4, h5⟩ | ⟨h1, rfl, h3⟩)
  · have hb2 := HBX.out.kx h5 (by omega)
    have y0 := hb2.cell 0 (by omega); have y1 := hb2.cell 1 (by omega); have y2 := hb2.cell 2 (by omega); have y3 := hb2.cell 3 (by omega); have y4 := hb2.cell 4 (by omega); have y5 := hb2.cell 5 (by omega)
    have x0 := hb2.fr 0; have x1 := hb2.fr 1; have x2 := hb2.fr 2; have x3 := hb2.fr 3; have x4 := hb2.fr 4; have x5 := hb2.fr 5
    have hb3 := hb2.setsAt [.int .i64 s.k, .int .i64 s.id, .int .i64 s.enc, .int .i64 s.sig, .int .i64 s.hash, .slice B s.un.length d] 0 (by simp)
    obtain ⟨w3, hw3⟩ : ∃ w3, (((((w2.setCell ⟨z, 0, none⟩ (.int .i64 s.k)).setCell ⟨z, 1, none⟩ (.int .i64 s.id)).setCell ⟨z, 2, none⟩ (.int .i64 s.enc)).setCell ⟨z, 3, none⟩ (.int .i64 s.sig)).setCell ⟨z, 4, none⟩ (.int .i64 s.hash)).setCell ⟨z, 5, none⟩ (.slice B s.un.length d) = w3 := ⟨_, rfl⟩
    rw [show w2.setCells z 0 [.int .i64 s.k, .int .i64 s.id, .int .i64 s.enc, .int .i64 s.sig, .int .i64 s.hash, .slice B s.un.length d] = w3 from hw3] at hb3
    have hK23 : KX (· = z) w2 w3 := by rw [← hw3]; exact KX.lays' w2 z 0 [.int .i64 s.k, .int .i64 s.id, .int .i64 s.enc, .int .i64 s.sig, .int .i64 s.hash, .slice B s.un.length d]
    have hU3 : UO w3 B s.un.length d s.un := hU.k3 (K3.kx hK23 (fun b e => ⟨70, by decide, by subst e; exact hb2.ty⟩))
    have hR3 : RD (plus X w) w3 p r := h4.kx hK23 (fun i e _ => .inr (by have := HZ.out; omega)) (by omega)
    have hKw3 : KX (· = p) w w3 := ((KX.of (X := (· = p)) HB.out).next h5 (fun i e => .inl e)).next hK23 (fun i e => .inr (by have := HZ.out; omega))
    have hTp : IsT w3 p 132 := by obtain ⟨_, _, _, _, _, h⟩ := hR3; exact h
    obtain ⟨f3, hf3⟩ : ∃ f3, (fun j => if 0 ≤ j then (([.int .i64 s.k, .int .i64 s.id, .int .i64 s.enc, .int .i64 s.sig, .int .i64 s.hash, .slice B s.un.length d] : List Value)[j - 0]?).getD (qz0 j) else qz0 j) = f3 := ⟨_, rfl⟩
    rw [hf3] at hb3
    have hrl := rNode_less h1
    have HV := Lib.hid (rvec_ok rPN (fun _ _ _ e => rPN_less e) 113 #[.pointer (some ⟨z, 0, none⟩)] (fun q acc w => IE QE 111 2 ⟨z, 6, none⟩ q acc w ∧ ZB w z 6 7 f3 70) z p (plus X w) r w3 hR3 (.inl HX.out) (.inr (by have := HZ.out; omega)) (by omega) hb3.bit (Lib.hid (by have := hlen.out; omega)) cf113
      (fun w1 q hK hq1 hq2 => ⟨⟨none, 0, [], hK.cell (by rw [hb3.cell 6 (by omega), ← hf3]; rfl) (by show z ≠ p; omega), hK.frz (hb3.fr 6) (by show z ≠ p; omega) hb3.bit, Ow.nil _ _ _ _, rfl⟩, (hb3.zb 6).kx hK (by omega)⟩)
      (Lib.hid (fun w1 q acc l' wr hK0 hq1 hq2 hK hR hne hN hI => rpath1_ok 7 f3 z q acc l' w1 wr hq2 (by have := hb3.bit; omega) hK hR hI.2 hI.1 (Lib.hid (by have := hlen.out; omega)))))
    have HU3 := Lib.hid hU3; have HKW3 := Lib.hid hKw3; have HTP := Lib.hid hTp; have H1 := Lib.hid h1; have HW3 := Lib.hid hw3; have HF3 := Lib.hid hf3; have HTZ := Lib.hid hb3.ty
    clear h1 h4 h5 hU hb2 hb3 hK23 hU3 hR3 hKw3 hTp hw3 hf3
    unfold nv
    go_wp2_with fail
    rw [HW3.out]
    clear y0 y1 y2 y3 y4 y5 x0 x1 x2 x3 x4 x5
    refine HV.out.mono ?_
    rintro e w4 (⟨xs, r2, q, g1, rfl, g3, ⟨⟨A, c, cs, c1, z1, hO, hE⟩, hZB⟩, g5, g6⟩ | ⟨g1, rfl, g3⟩)
    · have hb4 := hZB.bx c1
      have hX4 : ∀ b, zq z p b → ∃ T : TypeId, T ≠ 3 ∧ IsT w3 b T := fun b e => by
        rcases e with e | e
        · subst e; exact ⟨70, by decide, HTZ.out⟩
        · subst e; exact ⟨132, by decide, HTP.out⟩
      have hU4 := HU3.out.k3 (K3.kx g6 hX4)
      have hK4 : KX (· = p) w w4 := HKW3.out.next g6 (fun i e => by rcases e with e | e; exact .inr (by have := HZ.out; omega); exact .inl e)
      have y0 : w4.cell? ⟨z, 0, none⟩ = some (.int .i64 s.k) := (hb4.cell 0 (by omega)).trans (by rw [← HF3.out]; rfl)
      have y1 : w4.cell? ⟨z, 1, none⟩ = some (.int .i64 s.id) := (hb4.cell 1 (by omega)).trans (by rw [← HF3.out]; rfl)
      have y2 : w4.cell? ⟨z, 2, none⟩ = some (.int .i64 s.enc) := (hb4.cell 2 (by omega)).trans (by rw [← HF3.out]; rfl)
      have y3 : w4.cell? ⟨z, 3, none⟩ = some (.int .i64 s.sig) := (hb4.cell 3 (by omega)).trans (by rw [← HF3.out]; rfl)
      have y4 : w4.cell? ⟨z, 4, none⟩ = some (.int .i64 s.hash) := (hb4.cell 4 (by omega)).trans (by rw [← HF3.out]; rfl)
      have y5 : w4.cell? ⟨z, 5, none⟩ = some (.slice B s.un.length d) := (hb4.cell 5 (by omega)).trans (by rw [← HF3.out]; rfl)
      have x0 := hb4.fr 0; have x1 := hb4.fr 1; have x2 := hb4.fr 2; have x3 := hb4.fr 3; have x4 := hb4.fr 4; have x5 := hb4.fr 5
      have hL := hb4.setsAt [.int .i64 s.k, .int .i64 s.id, .int .i64 s.enc, .int .i64 s.sig, .int .i64 s.hash, .slice B s.un.length d, .slice A xs.length c] 0 (by simp)
      have hKL := KX.lays' w4 z 0 [.int .i64 s.k, .int .i64 s.id, .int .i64 s.enc, .int .i64 s.sig, .int .i64 s.hash, .slice B s.un.length d, .slice A xs.length c]
      have HL := Lib.hid hL; have HKL := Lib.hid hKL; have HT4 := Lib.hid hb4.ty
      have HU4 := Lib.hid hU4; have HK4 := Lib.hid hK4; have G1 := Lib.hid g1; have G3 := Lib.hid g3; have HO := Lib.hid hO; have HE := Lib.hid hE
      clear hZB hb4 hX4 hU4 hK4 g1 g3 g6 hO hE hL hKL
      go_wp2_with fail
      refine (show bodyPost Try.prog Try.f86 (REnd (rPath l) PV X p w) Exit.ret _ (w4.setCells z 0 [.int .i64 s.k, .int .i64 s.id, .int .i64 s.enc, .int .i64 s.sig, .int .i64 s.hash, .slice B s.un.length d, .slice A xs.length c]) from ?_)
      generalize w4.setCells z 0 [.int .i64 s.k, .int .i64 s.id, .int .i64 s.enc, .int .i64 s.sig, .int .i64 s.hash, .slice B s.un.length d, .slice A xs.length c] = w5 at *
      have l0 : w5.cell? ⟨z, 0, none⟩ = some (.int .i64 s.k) := HL.out.cell 0 (by omega)
      have l1 : w5.cell? ⟨z, 1, none⟩ = some (.int .i64 s.id) := HL.out.cell 1 (by omega)
      have l2 : w5.cell? ⟨z, 2, none⟩ = some (.int .i64 s.enc) := HL.out.cell 2 (by omega)
      have l3 : w5.cell? ⟨z, 3, none⟩ = some (.int .i64 s.sig) := HL.out.cell 3 (by omega)
      have l4 : w5.cell? ⟨z, 4, none⟩ = some (.int .i64 s.hash) := HL.out.cell 4 (by omega)
      have l5 : w5.cell? ⟨z, 5, none⟩ = some (.slice B s.un.length d) := HL.out.cell 5 (by omega)
      have l6 : w5.cell? ⟨z, 6, none⟩ = some (.slice A xs.length c) := HL.out.cell 6 (by omega)
      simp [bodyPost, results, Try.results86, go_sem, l0, l1, l2, l3, l4, l5, l6]
      have hX5 : ∀ b, b = z → ∃ T : TypeId, T ≠ 3 ∧ IsT w4 b T := fun b e => ⟨70, by decide, by subst e; exact HT4.out⟩
      refine .inl ⟨(s, xs), r2, _, rPath_3 H1.out G1.out, rfl, ⟨B, d, _, A, c, cs, rfl, HU4.out.k3 (K3.kx HKL.out hX5), HO.out.kxT HKL.out (fun b e => ⟨70, by decide, by subst e; exact HT4.out⟩), HE.out.keep (QE.k3 (K3.kx HKL.out hX5))⟩, ?_, ?_⟩
      · exact (G3.out.kx HKL.out (fun i e _ => .inr (by have := HZ.out; omega)) (by omega)).weak (fun i _ e => .inl e)
      · exact HK4.out.next HKL.out (fun i e => .inr (by have := HZ.out; omega))
    · simp [bodyPost]
      exact .inr ⟨rPath_2 H1.out g1, rfl, HKW3.out.next g3 (fun i e => by rcases e with e | e; exact .inr (by have := HZ.out; omega); exact .inl e)⟩
  · simp [bodyPost]
    exact .inr ⟨rPath_1 h1, rfl, (KX.of (X := (· = p)) HB.out).next h3 (fun i e => .inl e)⟩
end Go.Proofs.Ytjebmmmjjiomfaa
