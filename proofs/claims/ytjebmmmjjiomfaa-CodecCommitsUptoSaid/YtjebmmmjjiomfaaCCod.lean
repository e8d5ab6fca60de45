/- The plain law: what is written is read as what it was, and what is read is written as these bytes. -/
import Derived.Test.YtjebmmmjjiomfaaCParse
import Derived.Test.YtjebmmmjjiomfaaCInts
import Derived.Test.YtjebmmmjjiomfaaCNode
namespace Go.Proofs.Ytjebmmmjjiomfaa
open Go.RowKit

theorem nsI3 (a b c : Int) : nsI [a, b, c] = seqB (nsI [a, b]) (nsI [c]) := by rw [nsI_all, nsI_all, nsI_all]; exact allB_append nI [a, b] [c]
structure Cod {α : Type} (wr : α → Option (List UInt8)) (rd : List UInt8 → Option (α × List UInt8)) : Prop where
  back : ∀ x b r, wr x = some b → rd (b ++ r) = some (x, r)
  one : ∀ l x r, rd l = some (x, r) → ∃ b, wr x = some b ∧ l = b ++ r
theorem nI_some {n : Int} {b : List UInt8} (h : nI n = some b) : ∃ m : Nat, n = m ∧ m < 1073741824 ∧ b = intL m := by
  unfold nI at h; split at h
  · next h0 => injection h with h; exact ⟨n.toNat, by omega, by omega, h.symm⟩
  · cases h
theorem nI_nat {m : Nat} (h : m < 1073741824) : nI (m : Int) = some (intL m) := by rw [nI_yes (by omega)]; simp
theorem cod_I : Cod nI rI := by
  constructor
  · intro x b r h
    obtain ⟨m, rfl, hm, rfl⟩ := nI_some h
    unfold rI
    rw [take_int m hm r]
    simp
  · intro l x r h
    obtain ⟨h0, rfl, rfl⟩ := rI_some h
    obtain ⟨h1, h2, h3, h4, h5⟩ := int_take l (takeI l).1 (takeI l).2.1 (by rw [← h0])
    exact ⟨_, nI_nat h1, by rw [h4, List.take_append_drop]⟩
theorem rIs_back : ∀ {ns : List Int} {b : List UInt8} (r : List UInt8), nsI ns = some b → rIs ns.length (b ++ r) = some (ns, r)
  | [], b, r, h => by injection h with h; subst h; rfl
  | n :: ns, b, r, h => by
    rw [nsI_cons] at h
    obtain ⟨x, y, h1, h2, rfl⟩ := seqB_some h
    rw [List.length_cons, rIs, List.append_assoc, cod_I.back _ _ _ h1, Option.bind_some]
    dsimp only
    rw [rIs_back r h2, Option.bind_some]
theorem rIs_one : ∀ {k : Nat} {l r : List UInt8} {ns : List Int}, rIs k l = some (ns, r) → ∃ b, nsI ns = some b ∧ l = b ++ r
  | 0, l, r, ns, h => by injection h with h; injection h with h1 h2; subst h1 h2; exact ⟨[], rfl, rfl⟩
  | k + 1, l, r, ns, h => by
    obtain ⟨⟨x, r1⟩, h1, h2⟩ := bind2 h
    obtain ⟨⟨y, r2⟩, h3, h4⟩ := bind2 h2
    injection h4 with h4; injection h4 with h4 h5; subst h4 h5
    obtain ⟨a, e1, rfl⟩ := cod_I.one _ _ _ h1
    obtain ⟨b, e2, e3⟩ := rIs_one h3
    dsimp only at e3
    subst e3
    exact ⟨a ++ b, by rw [nsI_cons, e1, e2, seqB_yes], by rw [List.append_assoc]⟩
theorem cod_V : Cod vecB rV := by
  constructor
  · intro x b r h
    unfold vecB at h; split at h
    · next h0 =>
      injection h with h; subst h
      have e := take_int x.length h0 (x ++ r)
      unfold rV takeB bytesL
      rw [List.append_assoc, e]
      simp
      rw [if_neg (by omega)]
      refine ⟨rfl, rfl, ?_⟩
      dsimp only
      rw [← List.append_assoc, List.drop_left' (by simp)]
    · cases h
  · intro l x r h
    obtain ⟨h0, rfl, rfl⟩ := rV_some h
    unfold takeB at h0 ⊢
    split at h0
    · next h => exact absurd h0 h
    · next h1 =>
      rw [if_neg h1]
      split at h0
      · cases h0
      · next h2 =>
        rw [if_neg h2]
        have hz : (takeI l).2.2 = 0 := Decidable.byContradiction h1
        obtain ⟨h3, h4, h5, h6, h7⟩ := int_take l (takeI l).1 (takeI l).2.1 (by rw [← hz])
        dsimp only
        have hlen : ((l.drop (takeI l).2.1).take (takeI l).1).length = (takeI l).1 := by simp; omega
        refine ⟨bytesL ((l.drop (takeI l).2.1).take (takeI l).1), ?_, ?_⟩
        · unfold vecB; rw [if_pos (by omega)]
        · unfold bytesL
          rw [hlen, h6, List.append_assoc, ← List.drop_drop, List.take_append_drop, List.take_append_drop]
section
variable {α : Type} {wr : α → Option (List UInt8)} {rd : List UInt8 → Option (α × List UInt8)}
theorem many_back (h : Cod wr rd) (hl : ∀ l x r, rd l = some (x, r) → r.length < l.length) : ∀ {xs : List α} {b : List UInt8}, allB wr xs = some b → many rd b = some xs
  | [], b, e => by injection e with e; subst e; exact many_nil rd
  | x :: xs, b, e => by
    rw [allB] at e
    obtain ⟨u, v, h1, h2, rfl⟩ := seqB_some e
    have := h.back x u v h1
    rw [many_some this (hl _ _ _ this), many_back h hl h2]; rfl
theorem many_one (h : Cod wr rd) : ∀ (n : Nat) (l : List UInt8) (xs : List α), l.length ≤ n → many rd l = some xs → allB wr xs = some l := by
  intro n
  induction n with
  | zero =>
    intro l xs hn e
    have : l = [] := List.eq_nil_of_length_eq_zero (by omega)
    subst this
    rw [many_nil] at e; injection e with e; subst e; rfl
  | succ n ih =>
    intro l xs hn e
    by_cases h0 : l = []
    · subst h0; rw [many_nil] at e; injection e with e; subst e; rfl
    · rw [many, if_neg h0] at e
      split at e
      · cases e
      · next x hx =>
        split at e
        · next hr =>
          rcases hm : many rd x.2 with _ | ys
          · rw [hm] at e; cases e
          · rw [hm] at e; injection e with e; subst e
            obtain ⟨b, h1, h2⟩ := h.one l x.1 x.2 hx
            rw [allB, h1, ih x.2 ys (by omega) hm, seqB_yes, ← h2]
        · cases e
theorem cod_L (h : Cod wr rd) (hl : ∀ l x r, rd l = some (x, r) → r.length < l.length) : Cod (fun xs => (allB wr xs).bind vecB) (rL rd) := by
  constructor
  · intro x b r e
    obtain ⟨u, h1, h2⟩ := bind2 e
    unfold rL
    rw [cod_V.back _ _ r h2, Option.bind_some]
    dsimp only
    rw [many_back h hl h1, Option.bind_some]
  · intro l x r e
    unfold rL at e
    obtain ⟨⟨u, r1⟩, h1, h2⟩ := bind2 e
    obtain ⟨v, h3, h4⟩ := bind2 h2
    injection h4 with h4; injection h4 with h4 h5; subst h4 h5
    obtain ⟨b, h6, h7⟩ := cod_V.one _ _ _ h1
    exact ⟨b, by rw [many_one h _ _ _ (Nat.le_refl _) h3]; exact h6, h7⟩
end
theorem cod_ints : Cod (fun xs => (nsI xs).bind vecB) (rL rI) := by
  have := cod_L cod_I (fun l x r h => (rI_less h).1)
  simpa only [← nsI_all] using this
theorem cod_node : Cod nodeB rNode := by
  constructor
  · rintro ⟨k, id, enc, sig, hash, un⟩ b r h
    unfold nodeB at h
    dsimp only at h
    split at h
    · next h0 =>
      subst h0
      split at h
      · next h1 =>
        obtain ⟨rfl, rfl, rfl, rfl, rfl⟩ := h1
        have := rIs_back r h
        unfold rIs at this
        obtain ⟨x, e1, e2⟩ := bind2 this
        obtain ⟨y, e3, e4⟩ := bind2 e2
        injection e3 with e3; subst e3
        injection e4 with e4; injection e4 with e4 e5; injection e4 with e4
        unfold rNode
        rw [e1, Option.bind_some, if_pos e4, e5]; rfl
      · cases h
    · next h0 =>
      split at h
      · next h1 =>
        subst h1
        split at h
        · next h2 =>
          subst h2
          have := rIs_back r h
          rw [show [1, id, enc, sig, hash].length = 4 + 1 from rfl, rIs] at this
          obtain ⟨x, e1, e2⟩ := bind2 this
          obtain ⟨y, e3, e4⟩ := bind2 e2
          injection e4 with e4; injection e4 with e4 e5; injection e4 with e4 e6
          unfold rNode
          rw [e1, Option.bind_some, if_neg (by rw [e4]; decide), if_pos e4, e3, Option.bind_some, e5, e6]; rfl
        · cases h
      · next h1 =>
        split at h
        · next h2 =>
          subst h2
          split at h
          · next h3 =>
            obtain ⟨rfl, rfl⟩ := h3
            obtain ⟨u, v, h4, h5, rfl⟩ := seqB_some h
            have := rIs_back (v ++ r) h4
            rw [show [2, enc, hash].length = 2 + 1 from rfl, rIs] at this
            obtain ⟨x, e1, e2⟩ := bind2 this
            obtain ⟨y, e3, e4⟩ := bind2 e2
            injection e4 with e4; injection e4 with e4 e5; injection e4 with e4 e6
            unfold rNode
            rw [List.append_assoc, e1, Option.bind_some, if_neg (by rw [e4]; decide), if_neg (by rw [e4]; decide), if_pos e4, e3, Option.bind_some, e5, cod_ints.back _ _ _ h5, Option.bind_some, e6]; rfl
          · cases h
        · cases h
  · intro l x r h
    unfold rNode at h
    obtain ⟨⟨k, r1⟩, h1, h2⟩ := bind2 h
    obtain ⟨b, hb, rfl⟩ := cod_I.one _ _ _ h1
    dsimp only at h2
    split at h2
    · next h0 =>
      subst h0
      injection h2 with h2; injection h2 with h2 h3; subst h2 h3
      refine ⟨b, ?_, rfl⟩
      have : nodeB nd0 = nsI [0] := rfl
      rw [this, nsI_cons, hb]
      exact congrArg some (List.append_nil _)
    · next h0 =>
      split at h2
      · next h3 =>
        subst h3
        obtain ⟨⟨ns, r2⟩, h4, h5⟩ := bind2 h2
        injection h5 with h5; injection h5 with h5 h6; subst h5 h6
        obtain ⟨b2, h7, h8⟩ := rIs_one h4
        have hl := (rIs_less h4).2
        dsimp only at h8 ⊢
        match ns, hl with
        | [a, b', c, d], _ =>
          subst h8
          refine ⟨b ++ b2, ?_, by rw [List.append_assoc]⟩
          have : nodeB (nd1 [a, b', c, d]) = nsI [1, a, b', c, d] := rfl
          rw [this, nsI_cons, hb, h7, seqB_yes]
      · next h3 =>
        split at h2
        · next h4 =>
          subst h4
          obtain ⟨⟨ns, r2⟩, h5, h6⟩ := bind2 h2
          obtain ⟨⟨un, r3⟩, h7, h8⟩ := bind2 h6
          injection h8 with h8; injection h8 with h8 h9; subst h8 h9
          obtain ⟨b2, h10, h11⟩ := rIs_one h5
          obtain ⟨b3, h12, h13⟩ := cod_ints.one _ _ _ h7
          have hl := (rIs_less h5).2
          dsimp only at h11 h13 ⊢
          subst h11 h13
          match ns, hl with
          | [a, c], _ =>
            refine ⟨b ++ (b2 ++ b3), ?_, by simp⟩
            have : nodeB (nd2 [a, c] un) = seqB (nsI [2, a, c]) ((nsI un).bind vecB) := rfl
            rw [this, nsI_cons, hb, h10, h12, seqB_yes, seqB_yes, List.append_assoc]
        · cases h2
theorem cod_tree : Cod treeB rTree := cod_L cod_node (fun _ _ _ h => rNode_less h)
def pnB (n : PN) : Option (List UInt8) := seqB (nsI [n.enc]) ((nsI n.seals).bind vecB)
theorem nsI_one (n : Int) : nsI [n] = nI n := by rw [nsI_cons]; cases nI n <;> simp [seqB, nsI]
theorem cod_PN : Cod pnB rPN := by
  constructor
  · rintro ⟨n, s⟩ b r h
    unfold pnB at h
    obtain ⟨u, v, h4, h5, rfl⟩ := seqB_some h
    dsimp only at h4 h5
    rw [nsI_one] at h4
    unfold rPN
    rw [List.append_assoc, cod_I.back _ _ _ h4, Option.bind_some]
    dsimp only
    rw [cod_ints.back _ _ _ h5]; rfl
  · intro l x r h
    unfold rPN at h
    obtain ⟨⟨n, r1⟩, h1, h2⟩ := bind2 h
    obtain ⟨⟨s, r2⟩, h3, h4⟩ := bind2 h2
    injection h4 with h4; injection h4 with h4 h5; subst h4 h5
    obtain ⟨b1, h6, rfl⟩ := cod_I.one _ _ _ h1
    obtain ⟨b2, h7, h8⟩ := cod_ints.one _ _ _ h3
    dsimp only at h7 h8
    subst h8
    refine ⟨b1 ++ b2, ?_, by simp⟩
    unfold pnB
    dsimp only
    rw [nsI_one, h6, h7, seqB_yes]
theorem cod_path : Cod (fun x : TN × List PN => pathB x.1 x.2) rPath := by
  have hc := cod_L cod_PN (fun _ _ _ h => rPN_less h)
  constructor
  · rintro ⟨n, s⟩ b r h
    dsimp only at h
    unfold pathB at h
    obtain ⟨u, v, h4, h5, rfl⟩ := seqB_some h
    unfold rPath
    rw [List.append_assoc, cod_node.back _ _ _ h4, Option.bind_some]
    dsimp only
    rw [hc.back _ _ _ h5]; rfl
  · intro l x r h
    unfold rPath at h
    obtain ⟨⟨n, r1⟩, h1, h2⟩ := bind2 h
    obtain ⟨⟨s, r2⟩, h3, h4⟩ := bind2 h2
    injection h4 with h4; injection h4 with h4 h5; subst h4 h5
    obtain ⟨b1, h6, rfl⟩ := cod_node.one _ _ _ h1
    obtain ⟨b2, h7, h8⟩ := hc.one _ _ _ h3
    dsimp only at h7 h8
    subst h8
    refine ⟨b1 ++ b2, ?_, by simp⟩
    unfold pathB
    dsimp only
    have h7' : (allB (fun n => seqB (nsI [n.enc]) ((nsI n.seals).bind vecB)) s).bind vecB = some b2 := h7
    rw [h6, h7', seqB_yes]
theorem cod_prop : Cod propB rProp := by
  constructor
  · rintro ⟨k, f, lf, a, t⟩ b r h
    unfold propB at h
    dsimp only at h
    obtain ⟨u, v, h1, h2, rfl⟩ := seqB_some h
    obtain ⟨u2, v2, h3, h4, rfl⟩ := seqB_some h2
    have e1 := rIs_back (u2 ++ v2 ++ r) h1
    have e2 := rIs_back r h4
    unfold rProp
    rw [List.append_assoc, show 2 = [k, f].length from rfl, e1, Option.bind_some]
    dsimp only
    rw [List.append_assoc, cod_node.back _ _ _ h3, Option.bind_some]
    dsimp only
    rw [show [k, f].length = [a, t].length from rfl, e2]; rfl
  · intro l x r h
    unfold rProp at h
    obtain ⟨⟨n, r1⟩, h1, h2⟩ := bind2 h
    obtain ⟨⟨s, r2⟩, h3, h4⟩ := bind2 h2
    obtain ⟨⟨m, r3⟩, h5, h6⟩ := bind2 h4
    injection h6 with h6; injection h6 with h6 h7; subst h6 h7
    obtain ⟨b1, e1, rfl⟩ := rIs_one h1
    obtain ⟨b2, e2, e3⟩ := cod_node.one _ _ _ h3
    obtain ⟨b3, e4, e5⟩ := rIs_one h5
    have l1 := (rIs_less h1).2
    have l2 := (rIs_less h5).2
    dsimp only at e2 e3 e5 ⊢
    subst e3
    subst e5
    match n, l1, m, l2 with
    | [a, b], _, [c, d], _ =>
      refine ⟨b1 ++ (b2 ++ b3), ?_, by simp⟩
      unfold propB
      simp only [List.getD_cons_zero, List.getD_cons_succ]
      rw [e1, e2, e4, seqB_yes, seqB_yes]
theorem cod_props : Cod (fun xs => (allB propB xs).bind vecB) (rL rProp) := cod_L cod_prop (fun _ _ _ h => rProp_less h)
theorem cod_welcome : Cod welcomeB rWelcome := by
  constructor
  · rintro ⟨a, b, c, d, t, e, f, g, i, j⟩ z r h
    unfold welcomeB at h
    dsimp only at h
    obtain ⟨u, v, h1, h2, rfl⟩ := seqB_some h
    obtain ⟨u2, v2, h3, h4, rfl⟩ := seqB_some h2
    have e1 := rIs_back (u2 ++ v2 ++ r) h1
    have e2 := rIs_back r h4
    unfold rWelcome
    rw [List.append_assoc, show 4 = [a, b, c, d].length from rfl, e1, Option.bind_some]
    dsimp only
    rw [List.append_assoc, cod_tree.back _ _ _ h3, Option.bind_some]
    dsimp only
    rw [show 5 = [e, f, g, i, j].length from rfl, e2]; rfl
  · intro l x r h
    unfold rWelcome at h
    obtain ⟨⟨n, r1⟩, h1, h2⟩ := bind2 h
    obtain ⟨⟨s, r2⟩, h3, h4⟩ := bind2 h2
    obtain ⟨⟨m, r3⟩, h5, h6⟩ := bind2 h4
    injection h6 with h6; injection h6 with h6 h7; subst h6 h7
    obtain ⟨b1, e1, rfl⟩ := rIs_one h1
    obtain ⟨b2, e2, e3⟩ := cod_tree.one _ _ _ h3
    obtain ⟨b3, e4, e5⟩ := rIs_one h5
    have l1 := (rIs_less h1).2
    have l2 := (rIs_less h5).2
    dsimp only at e2 e3 e5 ⊢
    subst e3
    subst e5
    match n, l1, m, l2 with
    | [a, b, c, d], _, [e, f, g, i, j], _ =>
      refine ⟨b1 ++ (b2 ++ b3), ?_, by simp⟩
      unfold welcomeB wmOf
      simp only [List.getD_cons_zero, List.getD_cons_succ]
      rw [e1, e2, e4, seqB_yes, seqB_yes]
theorem cod_commit : Cod commitB rCommit := by
  constructor
  · rintro ⟨a, b, ps, has, lf, ns, sg, tg⟩ z r h
    unfold commitB at h
    dsimp only at h
    obtain ⟨u, v, h1, h2, rfl⟩ := seqB_some h
    obtain ⟨u2, v2, h3, h4, rfl⟩ := seqB_some h2
    obtain ⟨u3, v3, h5, h6, rfl⟩ := seqB_some h4
    have e1 := rIs_back (u2 ++ (u3 ++ v3) ++ r) h1
    have e3 := cod_props.back ps u2 ((u3 ++ v3) ++ r) h3
    unfold rCommit
    rw [List.append_assoc, show rIs 2 (u ++ (u2 ++ (u3 ++ v3) ++ r)) = _ from e1, Option.bind_some]
    dsimp only
    rw [List.append_assoc, e3, Option.bind_some]
    dsimp only
    cases has
    · rw [if_neg (by decide)] at h6
      split at h6
      · next h7 =>
        obtain ⟨⟨hz0, hz1, hz2, hz3, hz4, hz5⟩, rfl⟩ := h7
        have hn : nsI [sg, tg, 0] = some (u3 ++ v3) := by rw [nsI3, h5, h6, seqB_yes]
        rw [show rIs 3 (u3 ++ v3 ++ r) = _ from rIs_back r hn, Option.bind_some]
        dsimp only
        rw [if_pos (by rfl)]
        unfold cm0 nd0
        obtain ⟨k0, k1, k2, k3, k4, k5⟩ := lf
        dsimp only at hz0 hz1 hz2 hz3 hz4 hz5
        subst hz0 hz1 hz2 hz3 hz4 hz5
        rfl
      · cases h6
    · rw [if_pos rfl] at h6
      obtain ⟨u4, v4, h7, h8, rfl⟩ := seqB_some h6
      have hn : nsI [sg, tg, 1] = some (u3 ++ u4) := by rw [nsI3, h5, h7, seqB_yes]
      have e5 := rIs_back (v4 ++ r) hn
      rw [show u3 ++ (u4 ++ v4) ++ r = u3 ++ u4 ++ (v4 ++ r) by simp, show rIs 3 (u3 ++ u4 ++ (v4 ++ r)) = _ from e5, Option.bind_some]
      dsimp only
      rw [if_neg (by show ¬ (1 : Int) = 0; decide), if_pos (by rfl), cod_path.back (lf, ns) _ _ h8]
      rfl
  · intro l x r h
    unfold rCommit at h
    obtain ⟨⟨n, r1⟩, h1, h2⟩ := bind2 h
    obtain ⟨⟨ps, r2⟩, h3, h4⟩ := bind2 h2
    obtain ⟨⟨m, r3⟩, h5, h6⟩ := bind2 h4
    obtain ⟨b1, e1, rfl⟩ := rIs_one h1
    obtain ⟨b2, e2, e3⟩ := cod_props.one _ _ _ h3
    obtain ⟨b3, e4, e5⟩ := rIs_one h5
    have l1 := (rIs_less h1).2
    have l2 := (rIs_less h5).2
    dsimp only at e2 e3 e5 h6 ⊢
    subst e3
    subst e5
    match n, l1, m, l2 with
    | [a, b], _, [c, d, e], _ =>
      simp only [List.getD_cons_zero, List.getD_cons_succ] at h6
      rw [nsI3] at e4
      obtain ⟨u, v, f1, f2, rfl⟩ := seqB_some e4
      split at h6
      · next h0 =>
        subst h0
        injection h6 with h6; injection h6 with h6 h7; subst h6 h7
        refine ⟨b1 ++ (b2 ++ (u ++ v)), ?_, by simp⟩
        unfold commitB cm0
        simp only [List.getD_cons_zero, List.getD_cons_succ]
        rw [e1, e2, f1, if_neg (by decide), if_pos ⟨by decide, trivial⟩, f2]; rfl
      · split at h6
        · next h0 =>
          subst h0
          obtain ⟨⟨⟨lf, ns⟩, r4⟩, h7, h8⟩ := bind2 h6
          injection h8 with h8; injection h8 with h8 h9; subst h8 h9
          obtain ⟨b4, e6, e7⟩ := cod_path.one _ _ _ h7
          dsimp only at e6 e7
          subst e7
          refine ⟨b1 ++ (b2 ++ (u ++ (v ++ b4))), ?_, by simp⟩
          unfold commitB cm1
          simp only [List.getD_cons_zero, List.getD_cons_succ]
          rw [e1, e2, f1, if_pos trivial, f2, e6]; rfl
        · cases h6
section
variable {α : Type} {wr : α → Option (List UInt8)} {rd : List UInt8 → Option (α × List UInt8)}
theorem Cod.full_back (h : Cod wr rd) {x : α} {b : List UInt8} (e : wr x = some b) : full rd b = some x := by
  have := h.back x b [] e
  rw [List.append_nil] at this
  unfold full; rw [this]; rfl
theorem Cod.full_one (h : Cod wr rd) {x : α} {l : List UInt8} (e : full rd l = some x) : wr x = some l := by
  obtain ⟨⟨y, r⟩, h1, h2⟩ := bind2 e
  dsimp only at h2
  split at h2
  · next h3 =>
    subst h3
    injection h2 with h2; subst h2
    obtain ⟨b, h4, h5⟩ := h.one _ _ _ h1
    rw [List.append_nil] at h5
    rw [h5, h4]
  · cases h2
/-- one byte more is nothing -/
theorem Cod.more (h : Cod wr rd) {x : α} {b : List UInt8} (e : wr x = some b) {r : List UInt8} (hr : r ≠ []) : full rd (b ++ r) = none := by
  unfold full; rw [h.back x b r e, Option.bind_some]; exact if_neg hr
/-- the bytes less the last are nothing -/
theorem Cod.less (h : Cod wr rd) {x : α} {a c : List UInt8} (e : wr x = some (a ++ c)) (hc : c ≠ []) : full rd a = none := by
  cases hf : full rd a with
  | none => rfl
  | some y =>
    have h1 := h.full_one hf
    have h2 := h.back y a c h1
    have h3 := h.back x (a ++ c) [] e
    rw [List.append_nil, h2] at h3
    injection h3 with h3; injection h3 with _ h3; exact absurd h3 hc
/-- others have other bytes -/
theorem Cod.apart (h : Cod wr rd) {x y : α} {b : List UInt8} (e : wr x = some b) (k : wr y = some b) : x = y := by
  have h1 := h.full_back e
  rw [h.full_back k] at h1
  injection h1 with h1; exact h1.symm
end
end Go.Proofs.Ytjebmmmjjiomfaa
