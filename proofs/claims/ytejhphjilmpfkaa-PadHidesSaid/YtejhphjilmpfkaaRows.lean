/-
  No cell of these rows narrows 'for every input' (looked for: loops, veiled, ifaces, maps, wideKeys, modest, calm, conditions, laid).
  DERIVED. THE GIVEN ROWS OF THIS SEAT. 4 by the template 'for every input the law returns true; each argument reads behind the call as it read before'; 0 by the template 'total and deterministic' (their statements: YtejhphjilmpfkaaTotals.lean).
  GIVEN WITH THE SEED: the statements are not yours to turn. If you find one false, say at which input.
  Laid BY PROGRAM, IN A SANDBOX (cutbox-rows.mjs): the forced cells as the released guide's own fill.sh prints them over the translation 4a027f5b4946e14d… (all of the seat's roots in one cut). By AI agents, Wed Nov 11 2026. No macro, syntax, notation, axiom, sorry.
-/
import Derived.Test.YtejhphjilmpfkaaChecked
import GoSem.Claim
import GoSem.ClaimJoined
import GoSem.ClaimMapViews
import Derived.JoinedTies
import Derived.KernelRfl
namespace Go.Proofs.Ytejhphjilmpfkaa
/- THE CELL 'sum', in the pinned program and in every row, IS THE sha256 OF THE DUMP (.gsa) THAT YtejhphjilmpfkaaProg.lean LOADS. Nothing in Lean hashes anything: it is a label: what it is worth is what the hold of that sum in a sandbox is worth. -/
noncomputable def Try.pinned : Pinned := { name := "ytejhphjilmpfkaa", sum := "4a027f5b4946e14d77c304cc5138c2971fffc943aaab336a6e68e27f5b302b23", checked := Try.checked }
namespace Rows
def none {H : Type} : Left H := { results := [], args := [] }

/-- 'cassocklaw02.PadFills': WHATEVER THE INPUT: true; the input reads as it did. -/
def padFillsSpec : ChangeSpec := { name := "padFills", fn := fun _ => fun
  | [d1, d2] => { results := [.lit (.bool true)], args := [d1, d2] }
  | _ => none }
def padFillsRow : OpenClaim := { program := "ytejhphjilmpfkaa", sum := "4a027f5b4946e14d77c304cc5138c2971fffc943aaab336a6e68e27f5b302b23", func := "cassock/cassocklaw02.PadFills", spec := "padFills", unfollowed := true, recurses := true, apart := false }
def PadFillsSaid : Prop := padFillsRow.holds Try.pinned (OpenSpec.ofChange padFillsSpec)

/-- ITS FALSE NEIGHBOUR: 'it returns false'. Refute it at one input. -/
def padFillsWrong : ChangeSpec := { name := "padFills", fn := fun _ => fun
  | [d1, d2] => { results := [.lit (.bool false)], args := [d1, d2] }
  | _ => none }
def PadFillsWrongFalsely : Prop := padFillsRow.holds Try.pinned (OpenSpec.ofChange padFillsWrong)

/-- 'cassocklaw02.PadBack': WHATEVER THE INPUT: true; the input reads as it did. -/
def padBackSpec : ChangeSpec := { name := "padBack", fn := fun _ => fun
  | [d] => { results := [.lit (.bool true)], args := [d] }
  | _ => none }
def padBackRow : OpenClaim := { program := "ytejhphjilmpfkaa", sum := "4a027f5b4946e14d77c304cc5138c2971fffc943aaab336a6e68e27f5b302b23", func := "cassock/cassocklaw02.PadBack", spec := "padBack", unfollowed := true, recurses := true, apart := false }
def PadBackSaid : Prop := padBackRow.holds Try.pinned (OpenSpec.ofChange padBackSpec)

/-- ITS FALSE NEIGHBOUR: 'it returns false'. Refute it at one input. -/
def padBackWrong : ChangeSpec := { name := "padBack", fn := fun _ => fun
  | [d] => { results := [.lit (.bool false)], args := [d] }
  | _ => none }
def PadBackWrongFalsely : Prop := padBackRow.holds Try.pinned (OpenSpec.ofChange padBackWrong)

/-- 'cassocklaw02.PadWhole': WHATEVER THE INPUT: true; the input reads as it did. -/
def padWholeSpec : ChangeSpec := { name := "padWhole", fn := fun _ => fun
  | [d1, d2] => { results := [.lit (.bool true)], args := [d1, d2] }
  | _ => none }
def padWholeRow : OpenClaim := { program := "ytejhphjilmpfkaa", sum := "4a027f5b4946e14d77c304cc5138c2971fffc943aaab336a6e68e27f5b302b23", func := "cassock/cassocklaw02.PadWhole", spec := "padWhole", unfollowed := true, recurses := true, apart := false }
def PadWholeSaid : Prop := padWholeRow.holds Try.pinned (OpenSpec.ofChange padWholeSpec)

/-- ITS FALSE NEIGHBOUR: 'it returns false'. Refute it at one input. -/
def padWholeWrong : ChangeSpec := { name := "padWhole", fn := fun _ => fun
  | [d1, d2] => { results := [.lit (.bool false)], args := [d1, d2] }
  | _ => none }
def PadWholeWrongFalsely : Prop := padWholeRow.holds Try.pinned (OpenSpec.ofChange padWholeWrong)

/-- 'cassocklaw02.PadHides': WHATEVER THE INPUT: true; the input reads as it did. -/
def padHidesSpec : ChangeSpec := { name := "padHides", fn := fun _ => fun
  | [d1, d2, d3] => { results := [.lit (.bool true)], args := [d1, d2, d3] }
  | _ => none }
def padHidesRow : OpenClaim := { program := "ytejhphjilmpfkaa", sum := "4a027f5b4946e14d77c304cc5138c2971fffc943aaab336a6e68e27f5b302b23", func := "cassock/cassocklaw02.PadHides", spec := "padHides", unfollowed := true, recurses := true, apart := false }
def PadHidesSaid : Prop := padHidesRow.holds Try.pinned (OpenSpec.ofChange padHidesSpec)

/-- ITS FALSE NEIGHBOUR: 'it returns false'. Refute it at one input. -/
def padHidesWrong : ChangeSpec := { name := "padHides", fn := fun _ => fun
  | [d1, d2, d3] => { results := [.lit (.bool false)], args := [d1, d2, d3] }
  | _ => none }
def PadHidesWrongFalsely : Prop := padHidesRow.holds Try.pinned (OpenSpec.ofChange padHidesWrong)

/- THE SECOND FORM. 'bulk': how many values and letters a reading holds, each counted each time it is reached (what is shared counts as often as it is met; a slice's spare places count too). A statement '..UptoSaid' is the law's where the arguments, and the package variables that the reading takes, are together of bulk at most 1048576: NARROWER than '..Said'. Prove '..Said' where nothing that the law and all that it calls make is longer than what came in: it says more and counts as full. Else prove '..UptoSaid'. A law counts once. -/
mutual
def uptoBulk {H : Type} : DataW H → Nat
  | .lit (.string bytes) => bytes.length + 1
  | .lit _ => 1
  | .nil => 1
  | .ptr d => uptoBulk d + 1
  | .slice elems spare => uptoBulkAll elems + uptoBulkAll spare + 1
  | .agg parts => uptoBulkAll parts + 1
  | .iface _ d => uptoBulk d + 1
  | .map entries => uptoBulkEntries entries + 1
  | .held _ => 1
def uptoBulkAll {H : Type} : List (DataW H) → Nat
  | [] => 0
  | d :: r => uptoBulk d + uptoBulkAll r
def uptoBulkEntries {H : Type} : List (Lit × DataW H) → Nat
  | [] => 0
  | x :: r => uptoBulkEntry x + uptoBulkEntries r
def uptoBulkEntry {H : Type} : Lit × DataW H → Nat
  | (.string bytes, d) => bytes.length + uptoBulk d + 1
  | (_, d) => uptoBulk d + 1
 end
def uptoSmall : (H : Type) → List (DataW H) → Bool := fun _ ds => decide (uptoBulkAll ds ≤ 1048576)
def OpenSpec.upto (s : _root_.Go.ChangeSpec) : _root_.Go.OpenSpec := { _root_.Go.OpenSpec.ofChange s with cond := some uptoSmall }

/-- 'cassocklaw02.PadFills', WHERE WHAT IT READS IS OF BULK AT MOST 1048576: true; the input reads as it did. -/
def padFillsUptoRow : OpenClaim := { program := "ytejhphjilmpfkaa", sum := "4a027f5b4946e14d77c304cc5138c2971fffc943aaab336a6e68e27f5b302b23", func := "cassock/cassocklaw02.PadFills", spec := "padFills", unfollowed := true, recurses := true, apart := false, narrowed := true }
def PadFillsUptoSaid : Prop := padFillsUptoRow.holds Try.pinned (OpenSpec.upto padFillsSpec)

/-- 'cassocklaw02.PadBack', WHERE WHAT IT READS IS OF BULK AT MOST 1048576: true; the input reads as it did. -/
def padBackUptoRow : OpenClaim := { program := "ytejhphjilmpfkaa", sum := "4a027f5b4946e14d77c304cc5138c2971fffc943aaab336a6e68e27f5b302b23", func := "cassock/cassocklaw02.PadBack", spec := "padBack", unfollowed := true, recurses := true, apart := false, narrowed := true }
def PadBackUptoSaid : Prop := padBackUptoRow.holds Try.pinned (OpenSpec.upto padBackSpec)

/-- 'cassocklaw02.PadWhole', WHERE WHAT IT READS IS OF BULK AT MOST 1048576: true; the input reads as it did. -/
def padWholeUptoRow : OpenClaim := { program := "ytejhphjilmpfkaa", sum := "4a027f5b4946e14d77c304cc5138c2971fffc943aaab336a6e68e27f5b302b23", func := "cassock/cassocklaw02.PadWhole", spec := "padWhole", unfollowed := true, recurses := true, apart := false, narrowed := true }
def PadWholeUptoSaid : Prop := padWholeUptoRow.holds Try.pinned (OpenSpec.upto padWholeSpec)

/-- 'cassocklaw02.PadHides', WHERE WHAT IT READS IS OF BULK AT MOST 1048576: true; the input reads as it did. -/
def padHidesUptoRow : OpenClaim := { program := "ytejhphjilmpfkaa", sum := "4a027f5b4946e14d77c304cc5138c2971fffc943aaab336a6e68e27f5b302b23", func := "cassock/cassocklaw02.PadHides", spec := "padHides", unfollowed := true, recurses := true, apart := false, narrowed := true }
def PadHidesUptoSaid : Prop := padHidesUptoRow.holds Try.pinned (OpenSpec.upto padHidesSpec)

end Rows
end Go.Proofs.Ytejhphjilmpfkaa
