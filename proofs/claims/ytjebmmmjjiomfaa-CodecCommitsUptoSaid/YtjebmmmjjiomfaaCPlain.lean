/- What is written is read as what it was, and what is read is written so: plain. -/
import Derived.Test.YtjebmmmjjiomfaaCParse
namespace Go.Proofs.Ytjebmmmjjiomfaa
open Go.RowKit

theorem takeB_ahead (x r : List UInt8) (h : x.length < 1073741824) : takeB (bytesL x ++ r) = (x, (bytesL x).length, 0) := by
  unfold takeB bytesL
  rw [List.append_assoc, take_int x.length h (x ++ r)]
  have e1 : ¬ (intL x.length ++ (x ++ r)).length - (intL x.length).length < x.length := by simp only [List.length_append]; omega
  simp only []
  rw [if_neg (by simp), if_neg e1, List.drop_left, List.take_left, List.length_append]
theorem takeB_is (l : List UInt8) (h : (takeB l).2.2 = 0) : bytesL (takeB l).1 = l.take (takeB l).2.1 ∧ (takeB l).1.length < 1073741824 := by
  unfold takeB at h ⊢
  by_cases hi : (takeI l).2.2 = 0
  · have hit := int_take l (takeI l).1 (takeI l).2.1 (by rw [← hi])
    obtain ⟨h1, h2, h3, h4, h5⟩ := hit
    rw [if_neg (by simp [hi])] at h ⊢
    by_cases hs : l.length - (takeI l).2.1 < (takeI l).1
    · rw [if_pos hs] at h; simp at h
    · rw [if_neg hs]
      have hlen : ((l.drop (takeI l).2.1).take (takeI l).1).length = (takeI l).1 := by simp; omega
      refine ⟨?_, by rw [hlen]; exact h1⟩
      show bytesL ((l.drop (takeI l).2.1).take (takeI l).1) = l.take ((takeI l).2.1 + (takeI l).1)
      unfold bytesL
      rw [hlen, h4, List.take_add]
  · rw [if_pos hi] at h; exact absurd h hi
/-- read as what it was -/
def Fw {α : Type} (B : α → Option (List UInt8)) (r : List UInt8 → Option (α × List UInt8)) : Prop := ∀ a b s, B a = some b → r (b ++ s) = some (a, s)
/-- written as it was read -/
def Bw {α : Type} (B : α → Option (List UInt8)) (r : List UInt8 → Option (α × List UInt8)) : Prop := ∀ l a s, r l = some (a, s) → ∃ b, B a = some b ∧ l = b ++ s
/-- something is read -/
def Le {α : Type} (r : List UInt8 → Option (α × List UInt8)) : Prop := ∀ l a s, r l = some (a, s) → s.length < l.length
theorem fw_I : Fw nI rI := by
  intro a b s h
  unfold nI at h; split at h
  · next h0 =>
    injection h with h; subst h
    unfold rI; rw [take_int a.toNat (by omega) s, if_pos rfl]
    simp [Int.toNat_of_nonneg h0.1]
  · cases h
theorem bw_I : Bw nI rI := by
  intro l a s h
  obtain ⟨h0, rfl, rfl⟩ := rI_some h
  obtain ⟨h1, h2, h3, h4, h5⟩ := int_take l (takeI l).1 (takeI l).2.1 (by rw [← h0])
  exact ⟨intL (takeI l).1, by rw [nI_yes (by omega), Int.toNat_natCast], by rw [h4, List.take_append_drop]⟩
theorem ns_app : ∀ (a b : List Int), nsI (a ++ b) = seqB (nsI a) (nsI b)
  | [], b => by show nsI b = _; cases h : nsI b <;> simp [nsI, seqB]
  | x :: a, b => by
    rw [List.cons_append, nsI_cons, nsI_cons, ns_app a b, seqB_assoc]
theorem ns_all : ∀ l, nsI l = allB nI l
  | [] => rfl
  | x :: l => by rw [nsI_cons, ns_all l]; rfl
theorem ns_one (n : Int) : nsI [n] = nI n := by cases h : nI n <;> simp [nsI, h]
theorem fw_Is : ∀ (xs : List Int) (b s : List UInt8), nsI xs = some b → rIs xs.length (b ++ s) = some (xs, s)
  | [], b, s, h => by injection h with h; subst h; rfl
  | n :: xs, b, s, h => by
    rw [nsI_cons] at h
    obtain ⟨x, y, h1, h2, rfl⟩ := seqB_some h
    rw [List.append_assoc]
    show (rI (x ++ (y ++ s))).bind _ = _
    rw [fw_I n x _ h1, Option.bind_some]
    show (rIs xs.length (y ++ s)).bind _ = _
    rw [fw_Is xs y s h2]; rfl
theorem bw_Is : ∀ (k : Nat) (l : List UInt8) (xs : List Int) (s : List UInt8), rIs k l = some (xs, s) → ∃ b, nsI xs = some b ∧ l = b ++ s
  | 0, l, xs, s, h => by injection h with h; injection h with h1 h2; subst h1 h2; exact ⟨[], rfl, rfl⟩
  | k + 1, l, xs, s, h => by
    obtain ⟨x, h1, h2⟩ := bind2 h
    obtain ⟨z, h3, h4⟩ := bind2 h2
    injection h4 with h4; injection h4 with h4 h5; subst h4 h5
    obtain ⟨b, hb, hl⟩ := bw_I l x.1 x.2 h1
    obtain ⟨c, hc, hl2⟩ := bw_Is k x.2 z.1 z.2 h3
    exact ⟨b ++ c, by rw [nsI_cons, hb, hc, seqB_yes], by rw [hl, hl2, List.append_assoc]⟩
theorem fw_V : Fw vecB rV := by
  intro x b s h
  unfold vecB at h; split at h
  · next h0 =>
    injection h with h; subst h
    unfold rV; rw [takeB_ahead x s h0, if_pos rfl]
    simp
  · cases h
theorem bw_V : Bw vecB rV := by
  intro l x s h
  obtain ⟨h0, rfl, rfl⟩ := rV_some h
  obtain ⟨h1, h2⟩ := takeB_is l h0
  exact ⟨bytesL (takeB l).1, by unfold vecB; rw [if_pos h2], by rw [h1, List.take_append_drop]⟩
section
variable {α : Type} {B : α → Option (List UInt8)} {r : List UInt8 → Option (α × List UInt8)}
theorem fw_many (hF : Fw B r) (hL : Le r) : ∀ (xs : List α) (b : List UInt8), allB B xs = some b → many r b = some xs
  | [], b, h => by injection h with h; subst h; exact many_nil r
  | x :: xs, b, h => by
    obtain ⟨c, d, h1, h2, rfl⟩ := seqB_some h
    have h3 := hF x c d h1
    rw [many_some h3 (hL _ _ _ h3), fw_many hF hL xs d h2]; rfl
theorem bw_many (hB : Bw B r) : ∀ (n : Nat) (l : List UInt8) (xs : List α), l.length ≤ n → many r l = some xs → allB B xs = some l := by
  intro n
  induction n with
  | zero =>
    intro l xs hn h
    have : l = [] := List.eq_nil_of_length_eq_zero (by omega)
    subst this; rw [many_nil] at h; injection h with h; subst h; rfl
  | succ n ih =>
    intro l xs hn h
    by_cases hl : l = []
    · subst hl; rw [many_nil] at h; injection h with h; subst h; rfl
    · cases e : r l with
      | none => rw [many_none hl e] at h; cases h
      | some x =>
        rw [many, if_neg hl, e] at h; dsimp only at h
        split at h
        · next hlt =>
          obtain ⟨ys, hy, rfl⟩ := Option.map_eq_some_iff.1 h
          obtain ⟨b, hb, hl2⟩ := hB l x.1 x.2 e
          show seqB (B x.1) (allB B ys) = _
          rw [hb, ih x.2 ys (by omega) hy, seqB_yes, ← hl2]
        · cases h
theorem fw_L (hF : Fw B r) (hL : Le r) : Fw (fun xs => (allB B xs).bind vecB) (rL r) := by
  intro xs b s h
  obtain ⟨c, h1, h2⟩ := bind2 h
  unfold rL; rw [fw_V c b s h2, Option.bind_some]; dsimp only; rw [fw_many hF hL xs c h1]; rfl
theorem bw_L (hB : Bw B r) : Bw (fun xs => (allB B xs).bind vecB) (rL r) := by
  intro l xs s h
  obtain ⟨x, h1, h2⟩ := bind2 h
  obtain ⟨y, h3, h4⟩ := bind2 h2
  injection h4 with h4; injection h4 with h4 h5; subst h4 h5
  obtain ⟨b, hb, hl⟩ := bw_V l x.1 x.2 h1
  exact ⟨b, by show (allB B y).bind vecB = _; rw [bw_many hB _ x.1 y (Nat.le_refl _) h3, Option.bind_some]; exact hb, hl⟩
end
theorem le_I : Le rI := fun _ _ _ h => (rI_less h).1
theorem fw_li : Fw (fun xs => (nsI xs).bind vecB) (rL rI) := by
  have := fw_L fw_I le_I
  intro a b s h
  exact this a b s (by show (allB nI a).bind vecB = _; rw [← ns_all]; exact h)
theorem bw_li : Bw (fun xs => (nsI xs).bind vecB) (rL rI) := by
  have := bw_L bw_I
  intro l a s h
  obtain ⟨b, h1, h2⟩ := this l a s h
  exact ⟨b, by show (nsI a).bind vecB = _; rw [ns_all]; exact h1, h2⟩
theorem fw_node : Fw nodeB rNode := by
  intro s b t h
  unfold nodeB at h
  split at h
  · next k0 =>
    split at h
    · next hz =>
      obtain ⟨h1, h2, h3, h4, h5⟩ := hz
      rw [ns_one] at h
      obtain ⟨k, id, enc, sig, hash, un⟩ := s
      dsimp only at k0 h1 h2 h3 h4 h5
      subst k0 h1 h2 h3 h4 h5
      unfold rNode; rw [fw_I 0 b t h]; rfl
    · cases h
  · next k0 =>
    split at h
    · next k1 =>
      split at h
      · next hz =>
        rw [nsI_cons] at h
        obtain ⟨x, y, h1, h2, rfl⟩ := seqB_some h
        obtain ⟨k, id, enc, sig, hash, un⟩ := s
        dsimp only at k0 k1 hz h2
        subst k1 hz
        have h3 := fw_Is [id, enc, sig, hash] y t h2
        unfold rNode
        rw [List.append_assoc, fw_I 1 x _ h1, Option.bind_some]
        dsimp only
        rw [if_neg (by decide), if_pos rfl]
        rw [show [id, enc, sig, hash].length = 4 from rfl] at h3
        rw [h3]; rfl
      · cases h
    · next k1 =>
      split at h
      · next k2 =>
        split at h
        · next hz =>
          obtain ⟨x, y, h1, h2, rfl⟩ := seqB_some h
          rw [nsI_cons] at h1
          obtain ⟨x1, x2, h3, h4, rfl⟩ := seqB_some h1
          obtain ⟨k, id, enc, sig, hash, un⟩ := s
          obtain ⟨z1, z2⟩ := hz
          dsimp only at k0 k1 k2 z1 z2 h4 h2
          subst k2 z1 z2
          have h5 := fw_Is [enc, hash] x2 (y ++ t) h4
          rw [show [enc, hash].length = 2 from rfl] at h5
          unfold rNode
          rw [List.append_assoc, List.append_assoc, fw_I 2 x1 _ h3, Option.bind_some]
          dsimp only
          rw [if_neg (by decide), if_neg (by decide), if_pos rfl, h5, Option.bind_some]
          dsimp only
          rw [fw_li un y t h2]; rfl
        · cases h
      · cases h
theorem bw_node : Bw nodeB rNode := by
  intro l s t h
  obtain ⟨x, h1, h2⟩ := bind2 h
  obtain ⟨b, hb, hl⟩ := bw_I l x.1 x.2 h1
  split at h2
  · next k0 =>
    injection h2 with h2; injection h2 with h2 h3; subst h2 h3
    refine ⟨b, ?_, hl⟩
    unfold nodeB nd0
    rw [if_pos rfl, if_pos (by simp), ns_one, ← k0, hb]
  · next k0 =>
    split at h2
    · next k1 =>
      obtain ⟨z, h3, h4⟩ := bind2 h2
      injection h4 with h4; injection h4 with h4 h5; subst h4 h5
      obtain ⟨c, hc, hl2⟩ := bw_Is 4 x.2 z.1 z.2 h3
      have hlen := (rIs_less (y := z.1) (r := z.2) h3).2
      refine ⟨b ++ c, ?_, by rw [hl, hl2, List.append_assoc]⟩
      unfold nodeB nd1
      dsimp only
      rw [if_neg (by decide), if_pos rfl, if_pos rfl, nsI_cons, ← k1, hb]
      match hz : z.1, hlen with
      | [p, q, u, v], _ =>
        rw [hz] at hc
        simp only [List.getD_cons_zero, List.getD_cons_succ]
        rw [hc, seqB_yes]
    · next k1 =>
      split at h2
      · next k2 =>
        obtain ⟨z, h3, h4⟩ := bind2 h2
        obtain ⟨y, h6, h7⟩ := bind2 h4
        injection h7 with h7; injection h7 with h7 h8; subst h7 h8
        obtain ⟨c, hc, hl2⟩ := bw_Is 2 x.2 z.1 z.2 h3
        obtain ⟨d, hd, hl3⟩ := bw_li z.2 y.1 y.2 h6
        have hlen := (rIs_less (y := z.1) (r := z.2) h3).2
        refine ⟨b ++ c ++ d, ?_, by rw [hl, hl2, hl3, List.append_assoc, List.append_assoc]⟩
        unfold nodeB nd2
        dsimp only
        rw [if_neg (by decide), if_neg (by decide), if_pos rfl, if_pos ⟨rfl, rfl⟩]
        dsimp only at hd
        rw [nsI_cons, hd, ← k2, hb]
        match hz : z.1, hlen with
        | [p, q], _ =>
          rw [hz] at hc
          simp only [List.getD_cons_zero, List.getD_cons_succ]
          rw [hc, seqB_yes, seqB_yes]
      · cases h2
theorem le_node : Le rNode := fun _ _ _ h => rNode_less h
theorem fw_tree : Fw treeB rTree := fw_L fw_node le_node
theorem bw_tree : Bw treeB rTree := bw_L bw_node
theorem le_L {α : Type} (r : List UInt8 → Option (α × List UInt8)) : Le (rL r) := fun _ _ _ h => rL_less h
/-- a path's node -/
abbrev pnW (n : PN) : Option (List UInt8) := seqB (nsI [n.enc]) ((nsI n.seals).bind vecB)
theorem fw_pn : Fw pnW rPN := by
  intro s b t h
  obtain ⟨x, y, h1, h2, rfl⟩ := seqB_some h
  rw [ns_one] at h1
  unfold rPN
  rw [List.append_assoc, fw_I s.enc x _ h1, Option.bind_some]
  dsimp only
  rw [fw_li s.seals y t h2]; rfl
theorem bw_pn : Bw pnW rPN := by
  intro l s t h
  obtain ⟨x, h1, h2⟩ := bind2 h
  obtain ⟨y, h3, h4⟩ := bind2 h2
  injection h4 with h4; injection h4 with h4 h5; subst h4 h5
  obtain ⟨b, hb, hl⟩ := bw_I l x.1 x.2 h1
  obtain ⟨c, hc, hl2⟩ := bw_li x.2 y.1 y.2 h3
  dsimp only at hc
  refine ⟨b ++ c, ?_, by rw [hl, hl2, List.append_assoc]⟩
  unfold pnW; dsimp only
  rw [ns_one, hb, hc, seqB_yes]
theorem le_pn : Le rPN := fun _ _ _ h => rPN_less h
theorem fw_prop : Fw propB rProp := by
  intro s b t h
  obtain ⟨x, y, h1, h2, rfl⟩ := seqB_some h
  obtain ⟨z, u, h3, h4, rfl⟩ := seqB_some h2
  have e1 := fw_Is [s.k, s.from_] x (z ++ u ++ t) h1
  have e2 := fw_Is [s.at_, s.term] u t h4
  rw [show [s.k, s.from_].length = 2 from rfl] at e1
  rw [show [s.at_, s.term].length = 2 from rfl] at e2
  unfold rProp
  rw [List.append_assoc, e1, Option.bind_some]
  dsimp only
  rw [List.append_assoc, fw_node s.leaf z _ h3, Option.bind_some]
  dsimp only
  rw [e2]; rfl
theorem bw_prop : Bw propB rProp := by
  intro l s t h
  obtain ⟨x, h1, h2⟩ := bind2 h
  obtain ⟨y, h3, h4⟩ := bind2 h2
  obtain ⟨z, h5, h6⟩ := bind2 h4
  injection h6 with h6; injection h6 with h6 h7; subst h6 h7
  obtain ⟨b, hb, hl⟩ := bw_Is 2 l x.1 x.2 h1
  obtain ⟨c, hc, hl2⟩ := bw_node x.2 y.1 y.2 h3
  obtain ⟨d, hd, hl3⟩ := bw_Is 2 y.2 z.1 z.2 h5
  have n1 := (rIs_less (y := x.1) (r := x.2) h1).2
  have n2 := (rIs_less (y := z.1) (r := z.2) h5).2
  refine ⟨b ++ (c ++ d), ?_, by rw [hl, hl2, hl3, List.append_assoc, List.append_assoc]⟩
  unfold propB; dsimp only
  match e1 : x.1, e2 : z.1, n1, n2 with
  | [p, q], [u, v], _, _ =>
    rw [e1] at hb; rw [e2] at hd
    simp only [List.getD_cons_zero, List.getD_cons_succ]
    rw [hb, hc, hd, seqB_yes, seqB_yes]
theorem le_prop : Le rProp := fun _ _ _ h => rProp_less h
theorem fw_path (s : TN) (ns : List PN) (b t : List UInt8) (h : pathB s ns = some b) : rPath (b ++ t) = some ((s, ns), t) := by
  obtain ⟨x, y, h1, h2, rfl⟩ := seqB_some h
  unfold rPath
  rw [List.append_assoc, fw_node s x _ h1, Option.bind_some]
  dsimp only
  rw [fw_L fw_pn le_pn ns y t h2]; rfl
theorem bw_path (l : List UInt8) (p : TN × List PN) (t : List UInt8) (h : rPath l = some (p, t)) : ∃ b, pathB p.1 p.2 = some b ∧ l = b ++ t := by
  obtain ⟨x, h1, h2⟩ := bind2 h
  obtain ⟨y, h3, h4⟩ := bind2 h2
  injection h4 with h4; injection h4 with h4 h5; subst h4 h5
  obtain ⟨b, hb, hl⟩ := bw_node l x.1 x.2 h1
  obtain ⟨c, hc, hl2⟩ := bw_L bw_pn x.2 y.1 y.2 h3
  refine ⟨b ++ c, ?_, by rw [hl, hl2, List.append_assoc]⟩
  show seqB (nodeB x.1) ((allB pnW y.1).bind vecB) = _
  dsimp only at hc
  rw [hb, hc, seqB_yes]
theorem fw_commit : Fw commitB rCommit := by
  intro c b t hh0
  obtain ⟨b1, r1, h1, hr1, rfl⟩ := seqB_some hh0
  obtain ⟨b2, r2, h2, hr2, rfl⟩ := seqB_some hr1
  obtain ⟨b3, r3, h3, h, rfl⟩ := seqB_some hr2
  have e1 := fw_Is [c.by_, c.epoch] b1 (b2 ++ (b3 ++ (r3 ++ t))) h1
  rw [show [c.by_, c.epoch].length = 2 from rfl] at e1
  have e2 := fw_L fw_prop le_prop c.props b2 (b3 ++ (r3 ++ t)) h2
  unfold rCommit
  simp only [List.append_assoc]
  rw [e1, Option.bind_some]
  dsimp only
  rw [e2, Option.bind_some]
  dsimp only
  split at h
  · next hh =>
    obtain ⟨x, y, h4, h5, rfl⟩ := seqB_some h
    have e3 := fw_Is [c.sig, c.tag, 1] (b3 ++ x) (y ++ t) (by rw [show [c.sig, c.tag, 1] = [c.sig, c.tag] ++ [1] from rfl, ns_app, h3, h4, seqB_yes])
    rw [show [c.sig, c.tag, 1].length = 3 from rfl] at e3
    rw [List.append_assoc] at e3
    rw [List.append_assoc, e3, Option.bind_some]
    dsimp only
    rw [if_neg (by simp), if_pos (by rfl), fw_path c.leaf c.nodes y t h5, Option.bind_some]
    obtain ⟨a1, a2, a3, a4, a5, a6, a7, a8⟩ := c
    dsimp only at hh; subst hh; rfl
  · next hh =>
    split at h
    · next hz =>
      have e3 := fw_Is [c.sig, c.tag, 0] (b3 ++ r3) t (by rw [show [c.sig, c.tag, 0] = [c.sig, c.tag] ++ [0] from rfl, ns_app, h3, h, seqB_yes])
      rw [show [c.sig, c.tag, 0].length = 3 from rfl] at e3
      rw [List.append_assoc] at e3
      rw [e3, Option.bind_some]
      dsimp only
      rw [if_pos (by rfl)]
      obtain ⟨a1, a2, a3, a4, a5, a6, a7, a8⟩ := c
      obtain ⟨⟨z1, z2, z3, z4, z5, z6⟩, z7⟩ := hz
      obtain ⟨l1, l2, l3, l4, l5, l6⟩ := a5
      dsimp only at hh z1 z2 z3 z4 z5 z6 z7
      subst z1 z2 z3 z4 z5 z6 z7
      simp at hh; subst hh; rfl
    · cases h
theorem bw_commit : Bw commitB rCommit := by
  intro l s t h
  obtain ⟨x, h1, h2⟩ := bind2 h
  obtain ⟨y, h3, h4⟩ := bind2 h2
  obtain ⟨z, h5, h6⟩ := bind2 h4
  obtain ⟨b, hb, hl⟩ := bw_Is 2 l x.1 x.2 h1
  obtain ⟨c, hc, hl2⟩ := bw_L bw_prop x.2 y.1 y.2 h3
  obtain ⟨d, hd, hl3⟩ := bw_Is 3 y.2 z.1 z.2 h5
  dsimp only at hc
  have n1 := (rIs_less (y := x.1) (r := x.2) h1).2
  have n2 := (rIs_less (y := z.1) (r := z.2) h5).2
  match e1 : x.1, e2 : z.1, n1, n2 with
  | [p, q], [u, v, k], _, _ =>
    rw [e1] at hb; rw [e2] at hd
    rw [e1, e2] at h6
    rw [show [u, v, k] = [u, v] ++ [k] from rfl, ns_app] at hd
    obtain ⟨d1, d2, g1, g2, rfl⟩ := seqB_some hd
    simp only [List.getD_cons_zero, List.getD_cons_succ] at h6
    split at h6
    · next k0 =>
      injection h6 with h6; injection h6 with h6 h7; subst h6 h7
      refine ⟨b ++ (c ++ (d1 ++ d2)), ?_, by rw [hl, hl2, hl3]; simp⟩
      show seqB (nsI [p, q]) (seqB ((allB propB y.1).bind vecB) (seqB (nsI [u, v]) (nsI [0]))) = _
      rw [hb, hc, g1, ← k0, g2, seqB_yes, seqB_yes, seqB_yes]
    · next k0 =>
      split at h6
      · next k1 =>
        obtain ⟨w, h8, h9⟩ := bind2 h6
        injection h9 with h9; injection h9 with h9 h10; subst h9 h10
        obtain ⟨f, hf, hl4⟩ := bw_path z.2 w.1 w.2 h8
        refine ⟨b ++ (c ++ (d1 ++ (d2 ++ f))), ?_, by rw [hl, hl2, hl3, hl4]; simp⟩
        show seqB (nsI [p, q]) (seqB ((allB propB y.1).bind vecB) (seqB (nsI [u, v]) (seqB (nsI [1]) (pathB w.1.1 w.1.2)))) = _
        rw [hb, hc, g1, ← k1, g2, hf, seqB_yes, seqB_yes, seqB_yes, seqB_yes]
      · cases h6
theorem fw_welcome : Fw welcomeB rWelcome := by
  intro s b t h
  obtain ⟨x, y, h1, h2, rfl⟩ := seqB_some h
  obtain ⟨z, u, h3, h4, rfl⟩ := seqB_some h2
  have e1 := fw_Is [s.at_, s.by_, s.id, s.epoch] x (z ++ (u ++ t)) h1
  have e2 := fw_Is [s.conf, s.ext, s.sig, s.tag, s.sealed_] u t h4
  rw [show [s.at_, s.by_, s.id, s.epoch].length = 4 from rfl] at e1
  rw [show [s.conf, s.ext, s.sig, s.tag, s.sealed_].length = 5 from rfl] at e2
  unfold rWelcome
  rw [List.append_assoc, List.append_assoc, e1, Option.bind_some]
  dsimp only
  rw [fw_tree s.tree z _ h3, Option.bind_some]
  dsimp only
  rw [e2]; rfl
theorem bw_welcome : Bw welcomeB rWelcome := by
  intro l s t h
  obtain ⟨x, h1, h2⟩ := bind2 h
  obtain ⟨y, h3, h4⟩ := bind2 h2
  obtain ⟨z, h5, h6⟩ := bind2 h4
  injection h6 with h6; injection h6 with h6 h7; subst h6 h7
  obtain ⟨b, hb, hl⟩ := bw_Is 4 l x.1 x.2 h1
  obtain ⟨c, hc, hl2⟩ := bw_tree x.2 y.1 y.2 h3
  obtain ⟨d, hd, hl3⟩ := bw_Is 5 y.2 z.1 z.2 h5
  have n1 := (rIs_less (y := x.1) (r := x.2) h1).2
  have n2 := (rIs_less (y := z.1) (r := z.2) h5).2
  refine ⟨b ++ (c ++ d), ?_, by rw [hl, hl2, hl3, List.append_assoc, List.append_assoc]⟩
  unfold welcomeB wmOf; dsimp only
  match e1 : x.1, e2 : z.1, n1, n2 with
  | [p, q, k, m], [u, v, i, j, o], _, _ =>
    rw [e1] at hb; rw [e2] at hd
    simp only [List.getD_cons_zero, List.getD_cons_succ]
    rw [hb, hc, hd, seqB_yes, seqB_yes]
theorem le_commit : Le rCommit := fun l s t h => by
  obtain ⟨x, h1, h2⟩ := bind2 h
  obtain ⟨y, h3, h4⟩ := bind2 h2
  obtain ⟨z, h5, h6⟩ := bind2 h4
  have := (rIs_less (y := x.1) (r := x.2) h1).1
  have := rL_less (y := y.1) (r := y.2) h3
  have := (rIs_less (y := z.1) (r := z.2) h5).1
  split at h6
  · injection h6 with h6; injection h6 with h6 h7; subst h7; omega
  · split at h6
    · obtain ⟨w, h8, h9⟩ := bind2 h6
      injection h9 with h9; injection h9 with h9 h10; subst h10
      obtain ⟨f, hf, hl4⟩ := bw_path z.2 w.1 w.2 h8
      have := congrArg List.length hl4
      simp at this; omega
    · cases h6
theorem le_welcome : Le rWelcome := fun l s t h => by
  obtain ⟨x, h1, h2⟩ := bind2 h
  obtain ⟨y, h3, h4⟩ := bind2 h2
  obtain ⟨z, h5, h6⟩ := bind2 h4
  have := (rIs_less (y := x.1) (r := x.2) h1).1
  have := rL_less (y := y.1) (r := y.2) h3
  have := (rIs_less (y := z.1) (r := z.2) h5).1
  injection h6 with h6; injection h6 with h6 h7; subst h7; omega
/-! ### what follows -/
section
variable {α : Type} {B : α → Option (List UInt8)} {r : List UInt8 → Option (α × List UInt8)}
theorem full_back (hF : Fw B r) {a : α} {b : List UInt8} (h : B a = some b) : full r b = some a := by
  have := hF a b [] h
  rw [List.append_nil] at this
  unfold full; rw [this, Option.bind_some]; exact if_pos rfl
theorem full_more (hF : Fw B r) {a : α} {b : List UInt8} (h : B a = some b) (z : UInt8) : full r (b ++ [z]) = none := by
  unfold full; rw [hF a b [z] h, Option.bind_some]; exact if_neg (by simp)
theorem full_is {l : List UInt8} {a : α} (h : full r l = some a) : r l = some (a, []) := by
  obtain ⟨x, h1, h2⟩ := bind2 h
  split at h2
  · next hx => injection h2 with h2; rw [h1, ← h2, ← hx]
  · cases h2
theorem full_one (hB : Bw B r) {l : List UInt8} {a : α} (h : full r l = some a) : B a = some l := by
  obtain ⟨b, h1, h2⟩ := hB l a [] (full_is h)
  rw [h1, h2, List.append_nil]
theorem full_ne (hF : Fw B r) (hL : Le r) {a : α} {b : List UInt8} (h : B a = some b) : 1 ≤ b.length := by
  have := hL b a [] (full_is (full_back hF h))
  simp at this; omega
theorem full_less (hF : Fw B r) (hB : Bw B r) (hL : Le r) {a : α} {b : List UInt8} (h : B a = some b) : full r (b.take (b.length - 1)) = none := by
  have hn := full_ne hF hL h
  cases e : full r (b.take (b.length - 1)) with
  | none => rfl
  | some c =>
    exfalso
    have h1 := full_one hB e
    have h2 := hF c _ (b.drop (b.length - 1)) h1
    rw [List.take_append_drop] at h2
    have h3 := full_is (full_back hF h)
    rw [h3] at h2
    injection h2 with h2; injection h2 with _ h2
    have := congrArg List.length h2
    simp at this; omega
theorem apart_iff (hF : Fw B r) {a c : α} {b d : List UInt8} (h : B a = some b) (k : B c = some d) : (b = d) ↔ (a = c) := by
  constructor
  · intro e; subst e
    have h1 := full_back hF h; rw [full_back hF k] at h1
    injection h1 with h1; exact h1.symm
  · intro e; subst e; rw [h] at k; injection k
end
end Go.Proofs.Ytjebmmmjjiomfaa
