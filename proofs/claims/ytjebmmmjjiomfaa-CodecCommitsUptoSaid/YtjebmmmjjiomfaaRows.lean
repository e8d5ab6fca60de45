/-
  No cell of these rows narrows 'for every input' (looked for: loops, veiled, ifaces, maps, wideKeys, modest, calm, conditions, laid).
  DERIVED. THE GIVEN ROWS OF THIS SEAT. 12 by the template 'for every input the law returns true; each argument reads behind the call as it read before'; 0 by the template 'total and deterministic' (their statements: YtjebmmmjjiomfaaTotals.lean).
  GIVEN WITH THE SEED: the statements are not yours to turn. If you find one false, say at which input.
  Laid BY PROGRAM, IN A SANDBOX (cutbox-rows.mjs): the forced cells as the released guide's own fill.sh prints them over the translation 3065884ba2085b3c… (all of the seat's roots in one cut). By AI agents, Wed Nov 11 2026. No macro, syntax, notation, axiom, sorry.
-/
import Derived.Test.YtjebmmmjjiomfaaChecked
import GoSem.Claim
import GoSem.ClaimJoined
import GoSem.ClaimMapViews
import Derived.JoinedTies
import Derived.KernelRfl
namespace Go.Proofs.Ytjebmmmjjiomfaa
/- THE CELL 'sum', in the pinned program and in every row, IS THE sha256 OF THE DUMP (.gsa) THAT YtjebmmmjjiomfaaProg.lean LOADS. Nothing in Lean hashes anything: it is a label: what it is worth is what the hold of that sum in a sandbox is worth. -/
noncomputable def Try.pinned : Pinned := { name := "ytjebmmmjjiomfaa", sum := "3065884ba2085b3c5c418624d9b973895441f93d383f3b33e6e390a631a006cc", checked := Try.checked }
namespace Rows
def none {H : Type} : Left H := { results := [], args := [] }

/-- 'cassocklaw01.WireNumbers': WHATEVER THE INPUT: true; the input reads as it did. -/
def wireNumbersSpec : ChangeSpec := { name := "wireNumbers", fn := fun _ => fun
  | [d1, d2] => { results := [.lit (.bool true)], args := [d1, d2] }
  | _ => none }
def wireNumbersRow : OpenClaim := { program := "ytjebmmmjjiomfaa", sum := "3065884ba2085b3c5c418624d9b973895441f93d383f3b33e6e390a631a006cc", func := "cassock/cassocklaw01.WireNumbers", spec := "wireNumbers", apart := false }
def WireNumbersSaid : Prop := wireNumbersRow.holds Try.pinned (OpenSpec.ofChange wireNumbersSpec)

/-- ITS FALSE NEIGHBOUR: 'it returns false'. Refute it at one input. -/
def wireNumbersWrong : ChangeSpec := { name := "wireNumbers", fn := fun _ => fun
  | [d1, d2] => { results := [.lit (.bool false)], args := [d1, d2] }
  | _ => none }
def WireNumbersWrongFalsely : Prop := wireNumbersRow.holds Try.pinned (OpenSpec.ofChange wireNumbersWrong)

/-- 'cassocklaw01.WireWide': WHATEVER THE INPUT: true; the input reads as it did. -/
def wireWideSpec : ChangeSpec := { name := "wireWide", fn := fun _ => fun
  | [d1, d2] => { results := [.lit (.bool true)], args := [d1, d2] }
  | _ => none }
def wireWideRow : OpenClaim := { program := "ytjebmmmjjiomfaa", sum := "3065884ba2085b3c5c418624d9b973895441f93d383f3b33e6e390a631a006cc", func := "cassock/cassocklaw01.WireWide", spec := "wireWide", apart := false }
def WireWideSaid : Prop := wireWideRow.holds Try.pinned (OpenSpec.ofChange wireWideSpec)

/-- ITS FALSE NEIGHBOUR: 'it returns false'. Refute it at one input. -/
def wireWideWrong : ChangeSpec := { name := "wireWide", fn := fun _ => fun
  | [d1, d2] => { results := [.lit (.bool false)], args := [d1, d2] }
  | _ => none }
def WireWideWrongFalsely : Prop := wireWideRow.holds Try.pinned (OpenSpec.ofChange wireWideWrong)

/-- 'cassocklaw01.WireBack': WHATEVER THE INPUT: true; the input reads as it did. -/
def wireBackSpec : ChangeSpec := { name := "wireBack", fn := fun _ => fun
  | [d1, d2, d3] => { results := [.lit (.bool true)], args := [d1, d2, d3] }
  | _ => none }
def wireBackRow : OpenClaim := { program := "ytjebmmmjjiomfaa", sum := "3065884ba2085b3c5c418624d9b973895441f93d383f3b33e6e390a631a006cc", func := "cassock/cassocklaw01.WireBack", spec := "wireBack", apart := false }
def WireBackSaid : Prop := wireBackRow.holds Try.pinned (OpenSpec.ofChange wireBackSpec)

/-- ITS FALSE NEIGHBOUR: 'it returns false'. Refute it at one input. -/
def wireBackWrong : ChangeSpec := { name := "wireBack", fn := fun _ => fun
  | [d1, d2, d3] => { results := [.lit (.bool false)], args := [d1, d2, d3] }
  | _ => none }
def WireBackWrongFalsely : Prop := wireBackRow.holds Try.pinned (OpenSpec.ofChange wireBackWrong)

/-- 'cassocklaw01.WireWrites': WHATEVER THE INPUT: true; the input reads as it did. -/
def wireWritesSpec : ChangeSpec := { name := "wireWrites", fn := fun _ => fun
  | [d1, d2, d3, d4, d5] => { results := [.lit (.bool true)], args := [d1, d2, d3, d4, d5] }
  | _ => none }
def wireWritesRow : OpenClaim := { program := "ytjebmmmjjiomfaa", sum := "3065884ba2085b3c5c418624d9b973895441f93d383f3b33e6e390a631a006cc", func := "cassock/cassocklaw01.WireWrites", spec := "wireWrites", inPlace := ["slices.overlaps[byte]"], apart := false }
def WireWritesSaid : Prop := wireWritesRow.holds Try.pinned (OpenSpec.ofChange wireWritesSpec)

/-- ITS FALSE NEIGHBOUR: 'it returns false'. Refute it at one input. -/
def wireWritesWrong : ChangeSpec := { name := "wireWrites", fn := fun _ => fun
  | [d1, d2, d3, d4, d5] => { results := [.lit (.bool false)], args := [d1, d2, d3, d4, d5] }
  | _ => none }
def WireWritesWrongFalsely : Prop := wireWritesRow.holds Try.pinned (OpenSpec.ofChange wireWritesWrong)

/-- 'cassocklaw01.WireOptions': WHATEVER THE INPUT: true; the input reads as it did. -/
def wireOptionsSpec : ChangeSpec := { name := "wireOptions", fn := fun _ => fun
  | [d1, d2] => { results := [.lit (.bool true)], args := [d1, d2] }
  | _ => none }
def wireOptionsRow : OpenClaim := { program := "ytjebmmmjjiomfaa", sum := "3065884ba2085b3c5c418624d9b973895441f93d383f3b33e6e390a631a006cc", func := "cassock/cassocklaw01.WireOptions", spec := "wireOptions", inPlace := ["slices.overlaps[byte]"], apart := false }
def WireOptionsSaid : Prop := wireOptionsRow.holds Try.pinned (OpenSpec.ofChange wireOptionsSpec)

/-- ITS FALSE NEIGHBOUR: 'it returns false'. Refute it at one input. -/
def wireOptionsWrong : ChangeSpec := { name := "wireOptions", fn := fun _ => fun
  | [d1, d2] => { results := [.lit (.bool false)], args := [d1, d2] }
  | _ => none }
def WireOptionsWrongFalsely : Prop := wireOptionsRow.holds Try.pinned (OpenSpec.ofChange wireOptionsWrong)

/-- 'cassocklaw01.WireOne': WHATEVER THE INPUT: true; the input reads as it did. -/
def wireOneSpec : ChangeSpec := { name := "wireOne", fn := fun _ => fun
  | [d] => { results := [.lit (.bool true)], args := [d] }
  | _ => none }
def wireOneRow : OpenClaim := { program := "ytjebmmmjjiomfaa", sum := "3065884ba2085b3c5c418624d9b973895441f93d383f3b33e6e390a631a006cc", func := "cassock/cassocklaw01.WireOne", spec := "wireOne", inPlace := ["slices.overlaps[byte]"], apart := false }
def WireOneSaid : Prop := wireOneRow.holds Try.pinned (OpenSpec.ofChange wireOneSpec)

/-- ITS FALSE NEIGHBOUR: 'it returns false'. Refute it at one input. -/
def wireOneWrong : ChangeSpec := { name := "wireOne", fn := fun _ => fun
  | [d] => { results := [.lit (.bool false)], args := [d] }
  | _ => none }
def WireOneWrongFalsely : Prop := wireOneRow.holds Try.pinned (OpenSpec.ofChange wireOneWrong)

/-- 'cassocklaw21.CodecTrees': WHATEVER THE INPUT: true; the input reads as it did. -/
def codecTreesSpec : ChangeSpec := { name := "codecTrees", fn := fun _ => fun
  | [d1, d2] => { results := [.lit (.bool true)], args := [d1, d2] }
  | _ => none }
def codecTreesRow : OpenClaim := { program := "ytjebmmmjjiomfaa", sum := "3065884ba2085b3c5c418624d9b973895441f93d383f3b33e6e390a631a006cc", func := "cassock/cassocklaw21.CodecTrees", spec := "codecTrees", unfollowed := true, recurses := true, apart := false }
def CodecTreesSaid : Prop := codecTreesRow.holds Try.pinned (OpenSpec.ofChange codecTreesSpec)

/-- ITS FALSE NEIGHBOUR: 'it returns false'. Refute it at one input. -/
def codecTreesWrong : ChangeSpec := { name := "codecTrees", fn := fun _ => fun
  | [d1, d2] => { results := [.lit (.bool false)], args := [d1, d2] }
  | _ => none }
def CodecTreesWrongFalsely : Prop := codecTreesRow.holds Try.pinned (OpenSpec.ofChange codecTreesWrong)

/-- 'cassocklaw21.CodecWelcomes': WHATEVER THE INPUT: true; the input reads as it did. -/
def codecWelcomesSpec : ChangeSpec := { name := "codecWelcomes", fn := fun _ => fun
  | [d1, d2] => { results := [.lit (.bool true)], args := [d1, d2] }
  | _ => none }
def codecWelcomesRow : OpenClaim := { program := "ytjebmmmjjiomfaa", sum := "3065884ba2085b3c5c418624d9b973895441f93d383f3b33e6e390a631a006cc", func := "cassock/cassocklaw21.CodecWelcomes", spec := "codecWelcomes", unfollowed := true, recurses := true, apart := false }
def CodecWelcomesSaid : Prop := codecWelcomesRow.holds Try.pinned (OpenSpec.ofChange codecWelcomesSpec)

/-- ITS FALSE NEIGHBOUR: 'it returns false'. Refute it at one input. -/
def codecWelcomesWrong : ChangeSpec := { name := "codecWelcomes", fn := fun _ => fun
  | [d1, d2] => { results := [.lit (.bool false)], args := [d1, d2] }
  | _ => none }
def CodecWelcomesWrongFalsely : Prop := codecWelcomesRow.holds Try.pinned (OpenSpec.ofChange codecWelcomesWrong)

/-- 'cassocklaw21.CodecApart': WHATEVER THE INPUT: true; the input reads as it did. -/
def codecApartSpec : ChangeSpec := { name := "codecApart", fn := fun _ => fun
  | [d1, d2, d3, d4, d5, d6] => { results := [.lit (.bool true)], args := [d1, d2, d3, d4, d5, d6] }
  | _ => none }
def codecApartRow : OpenClaim := { program := "ytjebmmmjjiomfaa", sum := "3065884ba2085b3c5c418624d9b973895441f93d383f3b33e6e390a631a006cc", func := "cassock/cassocklaw21.CodecApart", spec := "codecApart", unfollowed := true, recurses := true, apart := false }
def CodecApartSaid : Prop := codecApartRow.holds Try.pinned (OpenSpec.ofChange codecApartSpec)

/-- ITS FALSE NEIGHBOUR: 'it returns false'. Refute it at one input. -/
def codecApartWrong : ChangeSpec := { name := "codecApart", fn := fun _ => fun
  | [d1, d2, d3, d4, d5, d6] => { results := [.lit (.bool false)], args := [d1, d2, d3, d4, d5, d6] }
  | _ => none }
def CodecApartWrongFalsely : Prop := codecApartRow.holds Try.pinned (OpenSpec.ofChange codecApartWrong)

/-- 'cassocklaw21.CodecCommits': WHATEVER THE INPUT: true; the input reads as it did. -/
def codecCommitsSpec : ChangeSpec := { name := "codecCommits", fn := fun _ => fun
  | [d1, d2] => { results := [.lit (.bool true)], args := [d1, d2] }
  | _ => none }
def codecCommitsRow : OpenClaim := { program := "ytjebmmmjjiomfaa", sum := "3065884ba2085b3c5c418624d9b973895441f93d383f3b33e6e390a631a006cc", func := "cassock/cassocklaw21.CodecCommits", spec := "codecCommits", unfollowed := true, recurses := true, apart := false }
def CodecCommitsSaid : Prop := codecCommitsRow.holds Try.pinned (OpenSpec.ofChange codecCommitsSpec)

/-- ITS FALSE NEIGHBOUR: 'it returns false'. Refute it at one input. -/
def codecCommitsWrong : ChangeSpec := { name := "codecCommits", fn := fun _ => fun
  | [d1, d2] => { results := [.lit (.bool false)], args := [d1, d2] }
  | _ => none }
def CodecCommitsWrongFalsely : Prop := codecCommitsRow.holds Try.pinned (OpenSpec.ofChange codecCommitsWrong)

/-- 'cassocklaw21.CodecBack': WHATEVER THE INPUT: true; the input reads as it did. -/
def codecBackSpec : ChangeSpec := { name := "codecBack", fn := fun _ => fun
  | [d1, d2, d3] => { results := [.lit (.bool true)], args := [d1, d2, d3] }
  | _ => none }
def codecBackRow : OpenClaim := { program := "ytjebmmmjjiomfaa", sum := "3065884ba2085b3c5c418624d9b973895441f93d383f3b33e6e390a631a006cc", func := "cassock/cassocklaw21.CodecBack", spec := "codecBack", unfollowed := true, recurses := true, apart := false }
def CodecBackSaid : Prop := codecBackRow.holds Try.pinned (OpenSpec.ofChange codecBackSpec)

/-- ITS FALSE NEIGHBOUR: 'it returns false'. Refute it at one input. -/
def codecBackWrong : ChangeSpec := { name := "codecBack", fn := fun _ => fun
  | [d1, d2, d3] => { results := [.lit (.bool false)], args := [d1, d2, d3] }
  | _ => none }
def CodecBackWrongFalsely : Prop := codecBackRow.holds Try.pinned (OpenSpec.ofChange codecBackWrong)

/-- 'cassocklaw21.CodecOne': WHATEVER THE INPUT: true; the input reads as it did. -/
def codecOneSpec : ChangeSpec := { name := "codecOne", fn := fun _ => fun
  | [d] => { results := [.lit (.bool true)], args := [d] }
  | _ => none }
def codecOneRow : OpenClaim := { program := "ytjebmmmjjiomfaa", sum := "3065884ba2085b3c5c418624d9b973895441f93d383f3b33e6e390a631a006cc", func := "cassock/cassocklaw21.CodecOne", spec := "codecOne", unfollowed := true, recurses := true, apart := false }
def CodecOneSaid : Prop := codecOneRow.holds Try.pinned (OpenSpec.ofChange codecOneSpec)

/-- ITS FALSE NEIGHBOUR: 'it returns false'. Refute it at one input. -/
def codecOneWrong : ChangeSpec := { name := "codecOne", fn := fun _ => fun
  | [d] => { results := [.lit (.bool false)], args := [d] }
  | _ => none }
def CodecOneWrongFalsely : Prop := codecOneRow.holds Try.pinned (OpenSpec.ofChange codecOneWrong)

/- THE SECOND FORM. 'bulk': how many values and letters a reading holds, each counted each time it is reached (what is shared counts as often as it is met; a slice's spare places count too). A statement '..UptoSaid' is the law's where the arguments, and the package variables that the reading takes, are together of bulk at most 1048576: NARROWER than '..Said'. Prove '..Said' where nothing that the law and all that it calls make is longer than what came in: it says more and counts as full. Else prove '..UptoSaid'. A law counts once. -/
mutual
def uptoBulk {H : Type} : DataW H → Nat
  | .lit (.string bytes) => bytes.length + 1
  | .lit _ => 1
  | .nil => 1
  | .ptr d => uptoBulk d + 1
  | .slice elems spare => uptoBulkAll elems + uptoBulkAll spare + 1
  | .agg parts => uptoBulkAll parts + 1
  | .iface _ d => uptoBulk d + 1
  | .map entries => uptoBulkEntries entries + 1
  | .held _ => 1
def uptoBulkAll {H : Type} : List (DataW H) → Nat
  | [] => 0
  | d :: r => uptoBulk d + uptoBulkAll r
def uptoBulkEntries {H : Type} : List (Lit × DataW H) → Nat
  | [] => 0
  | x :: r => uptoBulkEntry x + uptoBulkEntries r
def uptoBulkEntry {H : Type} : Lit × DataW H → Nat
  | (.string bytes, d) => bytes.length + uptoBulk d + 1
  | (_, d) => uptoBulk d + 1
 end
def uptoSmall : (H : Type) → List (DataW H) → Bool := fun _ ds => decide (uptoBulkAll ds ≤ 1048576)
def OpenSpec.upto (s : _root_.Go.ChangeSpec) : _root_.Go.OpenSpec := { _root_.Go.OpenSpec.ofChange s with cond := some uptoSmall }

/-- 'cassocklaw01.WireNumbers', WHERE WHAT IT READS IS OF BULK AT MOST 1048576: true; the input reads as it did. -/
def wireNumbersUptoRow : OpenClaim := { program := "ytjebmmmjjiomfaa", sum := "3065884ba2085b3c5c418624d9b973895441f93d383f3b33e6e390a631a006cc", func := "cassock/cassocklaw01.WireNumbers", spec := "wireNumbers", apart := false, narrowed := true }
def WireNumbersUptoSaid : Prop := wireNumbersUptoRow.holds Try.pinned (OpenSpec.upto wireNumbersSpec)

/-- 'cassocklaw01.WireWide', WHERE WHAT IT READS IS OF BULK AT MOST 1048576: true; the input reads as it did. -/
def wireWideUptoRow : OpenClaim := { program := "ytjebmmmjjiomfaa", sum := "3065884ba2085b3c5c418624d9b973895441f93d383f3b33e6e390a631a006cc", func := "cassock/cassocklaw01.WireWide", spec := "wireWide", apart := false, narrowed := true }
def WireWideUptoSaid : Prop := wireWideUptoRow.holds Try.pinned (OpenSpec.upto wireWideSpec)

/-- 'cassocklaw01.WireBack', WHERE WHAT IT READS IS OF BULK AT MOST 1048576: true; the input reads as it did. -/
def wireBackUptoRow : OpenClaim := { program := "ytjebmmmjjiomfaa", sum := "3065884ba2085b3c5c418624d9b973895441f93d383f3b33e6e390a631a006cc", func := "cassock/cassocklaw01.WireBack", spec := "wireBack", apart := false, narrowed := true }
def WireBackUptoSaid : Prop := wireBackUptoRow.holds Try.pinned (OpenSpec.upto wireBackSpec)

/-- 'cassocklaw01.WireWrites', WHERE WHAT IT READS IS OF BULK AT MOST 1048576: true; the input reads as it did. -/
def wireWritesUptoRow : OpenClaim := { program := "ytjebmmmjjiomfaa", sum := "3065884ba2085b3c5c418624d9b973895441f93d383f3b33e6e390a631a006cc", func := "cassock/cassocklaw01.WireWrites", spec := "wireWrites", inPlace := ["slices.overlaps[byte]"], apart := false, narrowed := true }
def WireWritesUptoSaid : Prop := wireWritesUptoRow.holds Try.pinned (OpenSpec.upto wireWritesSpec)

/-- 'cassocklaw01.WireOptions', WHERE WHAT IT READS IS OF BULK AT MOST 1048576: true; the input reads as it did. -/
def wireOptionsUptoRow : OpenClaim := { program := "ytjebmmmjjiomfaa", sum := "3065884ba2085b3c5c418624d9b973895441f93d383f3b33e6e390a631a006cc", func := "cassock/cassocklaw01.WireOptions", spec := "wireOptions", inPlace := ["slices.overlaps[byte]"], apart := false, narrowed := true }
def WireOptionsUptoSaid : Prop := wireOptionsUptoRow.holds Try.pinned (OpenSpec.upto wireOptionsSpec)

/-- 'cassocklaw01.WireOne', WHERE WHAT IT READS IS OF BULK AT MOST 1048576: true; the input reads as it did. -/
def wireOneUptoRow : OpenClaim := { program := "ytjebmmmjjiomfaa", sum := "3065884ba2085b3c5c418624d9b973895441f93d383f3b33e6e390a631a006cc", func := "cassock/cassocklaw01.WireOne", spec := "wireOne", inPlace := ["slices.overlaps[byte]"], apart := false, narrowed := true }
def WireOneUptoSaid : Prop := wireOneUptoRow.holds Try.pinned (OpenSpec.upto wireOneSpec)

/-- 'cassocklaw21.CodecTrees', WHERE WHAT IT READS IS OF BULK AT MOST 1048576: true; the input reads as it did. -/
def codecTreesUptoRow : OpenClaim := { program := "ytjebmmmjjiomfaa", sum := "3065884ba2085b3c5c418624d9b973895441f93d383f3b33e6e390a631a006cc", func := "cassock/cassocklaw21.CodecTrees", spec := "codecTrees", unfollowed := true, recurses := true, apart := false, narrowed := true }
def CodecTreesUptoSaid : Prop := codecTreesUptoRow.holds Try.pinned (OpenSpec.upto codecTreesSpec)

/-- 'cassocklaw21.CodecWelcomes', WHERE WHAT IT READS IS OF BULK AT MOST 1048576: true; the input reads as it did. -/
def codecWelcomesUptoRow : OpenClaim := { program := "ytjebmmmjjiomfaa", sum := "3065884ba2085b3c5c418624d9b973895441f93d383f3b33e6e390a631a006cc", func := "cassock/cassocklaw21.CodecWelcomes", spec := "codecWelcomes", unfollowed := true, recurses := true, apart := false, narrowed := true }
def CodecWelcomesUptoSaid : Prop := codecWelcomesUptoRow.holds Try.pinned (OpenSpec.upto codecWelcomesSpec)

/-- 'cassocklaw21.CodecApart', WHERE WHAT IT READS IS OF BULK AT MOST 1048576: true; the input reads as it did. -/
def codecApartUptoRow : OpenClaim := { program := "ytjebmmmjjiomfaa", sum := "3065884ba2085b3c5c418624d9b973895441f93d383f3b33e6e390a631a006cc", func := "cassock/cassocklaw21.CodecApart", spec := "codecApart", unfollowed := true, recurses := true, apart := false, narrowed := true }
def CodecApartUptoSaid : Prop := codecApartUptoRow.holds Try.pinned (OpenSpec.upto codecApartSpec)

/-- 'cassocklaw21.CodecCommits', WHERE WHAT IT READS IS OF BULK AT MOST 1048576: true; the input reads as it did. -/
def codecCommitsUptoRow : OpenClaim := { program := "ytjebmmmjjiomfaa", sum := "3065884ba2085b3c5c418624d9b973895441f93d383f3b33e6e390a631a006cc", func := "cassock/cassocklaw21.CodecCommits", spec := "codecCommits", unfollowed := true, recurses := true, apart := false, narrowed := true }
def CodecCommitsUptoSaid : Prop := codecCommitsUptoRow.holds Try.pinned (OpenSpec.upto codecCommitsSpec)

/-- 'cassocklaw21.CodecBack', WHERE WHAT IT READS IS OF BULK AT MOST 1048576: true; the input reads as it did. -/
def codecBackUptoRow : OpenClaim := { program := "ytjebmmmjjiomfaa", sum := "3065884ba2085b3c5c418624d9b973895441f93d383f3b33e6e390a631a006cc", func := "cassock/cassocklaw21.CodecBack", spec := "codecBack", unfollowed := true, recurses := true, apart := false, narrowed := true }
def CodecBackUptoSaid : Prop := codecBackUptoRow.holds Try.pinned (OpenSpec.upto codecBackSpec)

/-- 'cassocklaw21.CodecOne', WHERE WHAT IT READS IS OF BULK AT MOST 1048576: true; the input reads as it did. -/
def codecOneUptoRow : OpenClaim := { program := "ytjebmmmjjiomfaa", sum := "3065884ba2085b3c5c418624d9b973895441f93d383f3b33e6e390a631a006cc", func := "cassock/cassocklaw21.CodecOne", spec := "codecOne", unfollowed := true, recurses := true, apart := false, narrowed := true }
def CodecOneUptoSaid : Prop := codecOneUptoRow.holds Try.pinned (OpenSpec.upto codecOneSpec)

end Rows
end Go.Proofs.Ytjebmmmjjiomfaa
