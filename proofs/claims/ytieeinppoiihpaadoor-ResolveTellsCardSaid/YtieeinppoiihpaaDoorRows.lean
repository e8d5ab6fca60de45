/-
  NARROWER THAN 'FOR EVERY INPUT', by the rows' own cells (each row's printed sentence says how): MathCopath: laid · MathParts: laid · MathTrees: laid · MathNodes: laid · MathSides: laid · ResolveOnce: laid · ResolveAlone: laid · ResolveTells: laid.
  DERIVED. THE GIVEN ROWS OF THIS SEAT. 8 by the template 'for every input the law returns true; each argument reads behind the call as it read before'; 0 by the template 'total and deterministic' (their statements: YtieeinppoiihpaaDoorTotals.lean).
  GIVEN WITH THE SEED: the statements are not yours to turn. If you find one false, say at which input.
  Laid BY PROGRAM, IN A SANDBOX (cutbox-rows.mjs): the forced cells as the released guide's own fill.sh prints them over the translation fd1d6232f56c64b5… (all of the seat's roots in one cut). By AI agents, Wed Nov 11 2026. No macro, syntax, notation, axiom, sorry.
-/
import Derived.Test.YtieeinppoiihpaaDoorChecked
import GoSem.Claim
import GoSem.ClaimJoined
import GoSem.ClaimMapViews
import Derived.JoinedTies
import Derived.KernelRfl
namespace Go.Proofs.YtieeinppoiihpaaDoor
/- THE CELL 'sum', in the pinned program and in every row, IS THE sha256 OF THE DUMP (.gsa) THAT YtieeinppoiihpaaDoorProg.lean LOADS. Nothing in Lean hashes anything: it is a label: what it is worth is what the hold of that sum in a sandbox is worth. -/
noncomputable def Tryd.pinned : Pinned := { name := "ytieeinppoiihpaadoor", sum := "fd1d6232f56c64b5ea100914d87542e3d50b4e63613b898a9d3b9011e6f30245", checked := Tryd.checked }
namespace Rows
def none {H : Type} : Left H := { results := [], args := [] }

/- WHAT THE LISTED PACKAGE-LEVEL VARIABLES READ AS WHEN THE CALL BEGINS. Each datum BY PROGRAM (the guide's laid-datum.mjs) off the statement by which the dump's own 'gosem.cut.vars' lays the variable. In a bare row this is a premise. The card (YtieeinppoiihpaaDoorCards.lean) ties it to the program's text. -/
def laid_math_bits_deBruijn32tab {H : Type} : DataW H := .agg [.lit (.int .u8 0), .lit (.int .u8 1), .lit (.int .u8 28), .lit (.int .u8 2), .lit (.int .u8 29), .lit (.int .u8 14), .lit (.int .u8 24), .lit (.int .u8 3), .lit (.int .u8 30), .lit (.int .u8 22), .lit (.int .u8 20), .lit (.int .u8 15), .lit (.int .u8 25), .lit (.int .u8 17), .lit (.int .u8 4), .lit (.int .u8 8), .lit (.int .u8 31), .lit (.int .u8 27), .lit (.int .u8 13), .lit (.int .u8 23), .lit (.int .u8 21), .lit (.int .u8 19), .lit (.int .u8 16), .lit (.int .u8 7), .lit (.int .u8 26), .lit (.int .u8 12), .lit (.int .u8 18), .lit (.int .u8 6), .lit (.int .u8 11), .lit (.int .u8 5), .lit (.int .u8 10), .lit (.int .u8 9)]
def laid_math_bits_deBruijn64tab {H : Type} : DataW H := .agg [.lit (.int .u8 0), .lit (.int .u8 1), .lit (.int .u8 56), .lit (.int .u8 2), .lit (.int .u8 57), .lit (.int .u8 49), .lit (.int .u8 28), .lit (.int .u8 3), .lit (.int .u8 61), .lit (.int .u8 58), .lit (.int .u8 42), .lit (.int .u8 50), .lit (.int .u8 38), .lit (.int .u8 29), .lit (.int .u8 17), .lit (.int .u8 4), .lit (.int .u8 62), .lit (.int .u8 47), .lit (.int .u8 59), .lit (.int .u8 36), .lit (.int .u8 45), .lit (.int .u8 43), .lit (.int .u8 51), .lit (.int .u8 22), .lit (.int .u8 53), .lit (.int .u8 39), .lit (.int .u8 33), .lit (.int .u8 30), .lit (.int .u8 24), .lit (.int .u8 18), .lit (.int .u8 12), .lit (.int .u8 5), .lit (.int .u8 63), .lit (.int .u8 55), .lit (.int .u8 48), .lit (.int .u8 27), .lit (.int .u8 60), .lit (.int .u8 41), .lit (.int .u8 37), .lit (.int .u8 16), .lit (.int .u8 46), .lit (.int .u8 35), .lit (.int .u8 44), .lit (.int .u8 21), .lit (.int .u8 52), .lit (.int .u8 32), .lit (.int .u8 23), .lit (.int .u8 11), .lit (.int .u8 54), .lit (.int .u8 26), .lit (.int .u8 40), .lit (.int .u8 15), .lit (.int .u8 34), .lit (.int .u8 20), .lit (.int .u8 31), .lit (.int .u8 10), .lit (.int .u8 25), .lit (.int .u8 14), .lit (.int .u8 19), .lit (.int .u8 9), .lit (.int .u8 13), .lit (.int .u8 8), .lit (.int .u8 7), .lit (.int .u8 6)]

/-- 'cassocklaw06.MathCopath': WHATEVER THE INPUT: true; the input reads as it did. -/
def mathCopathSpec : ChangeSpec := { name := "mathCopath", fn := fun _ => fun
  | [d1, d2, d3] => { results := [.lit (.bool true)], args := [d1, d2, d3] }
  | _ => none }
def mathCopathRow : OpenClaim := { program := "ytieeinppoiihpaadoor", sum := "fd1d6232f56c64b5ea100914d87542e3d50b4e63613b898a9d3b9011e6f30245", func := "cassock/cassocklaw06.MathCopath", spec := "mathCopath", unfollowed := true, recurses := true, named := ["math/bits.deBruijn32tab", "math/bits.deBruijn64tab"], apart := false, laid := [("math/bits.deBruijn32tab", laid_math_bits_deBruijn32tab), ("math/bits.deBruijn64tab", laid_math_bits_deBruijn64tab)] }
def MathCopathSaid : Prop := mathCopathRow.holds Tryd.pinned (OpenSpec.ofChange mathCopathSpec)

/-- ITS FALSE NEIGHBOUR: 'it returns false'. Refute it at one input. -/
def mathCopathWrong : ChangeSpec := { name := "mathCopath", fn := fun _ => fun
  | [d1, d2, d3] => { results := [.lit (.bool false)], args := [d1, d2, d3] }
  | _ => none }
def MathCopathWrongFalsely : Prop := mathCopathRow.holds Tryd.pinned (OpenSpec.ofChange mathCopathWrong)

/-- 'cassocklaw06.MathParts': WHATEVER THE INPUT: true; the input reads as it did. -/
def mathPartsSpec : ChangeSpec := { name := "mathParts", fn := fun _ => fun
  | [d1, d2] => { results := [.lit (.bool true)], args := [d1, d2] }
  | _ => none }
def mathPartsRow : OpenClaim := { program := "ytieeinppoiihpaadoor", sum := "fd1d6232f56c64b5ea100914d87542e3d50b4e63613b898a9d3b9011e6f30245", func := "cassock/cassocklaw06.MathParts", spec := "mathParts", unfollowed := true, recurses := true, named := ["math/bits.deBruijn32tab", "math/bits.deBruijn64tab"], apart := false, laid := [("math/bits.deBruijn32tab", laid_math_bits_deBruijn32tab), ("math/bits.deBruijn64tab", laid_math_bits_deBruijn64tab)] }
def MathPartsSaid : Prop := mathPartsRow.holds Tryd.pinned (OpenSpec.ofChange mathPartsSpec)

/-- ITS FALSE NEIGHBOUR: 'it returns false'. Refute it at one input. -/
def mathPartsWrong : ChangeSpec := { name := "mathParts", fn := fun _ => fun
  | [d1, d2] => { results := [.lit (.bool false)], args := [d1, d2] }
  | _ => none }
def MathPartsWrongFalsely : Prop := mathPartsRow.holds Tryd.pinned (OpenSpec.ofChange mathPartsWrong)

/-- 'cassocklaw06.MathTrees': WHATEVER THE INPUT: true; the input reads as it did. -/
def mathTreesSpec : ChangeSpec := { name := "mathTrees", fn := fun _ => fun
  | [d1, d2] => { results := [.lit (.bool true)], args := [d1, d2] }
  | _ => none }
def mathTreesRow : OpenClaim := { program := "ytieeinppoiihpaadoor", sum := "fd1d6232f56c64b5ea100914d87542e3d50b4e63613b898a9d3b9011e6f30245", func := "cassock/cassocklaw06.MathTrees", spec := "mathTrees", unfollowed := true, recurses := true, named := ["math/bits.deBruijn32tab", "math/bits.deBruijn64tab"], apart := false, laid := [("math/bits.deBruijn32tab", laid_math_bits_deBruijn32tab), ("math/bits.deBruijn64tab", laid_math_bits_deBruijn64tab)] }
def MathTreesSaid : Prop := mathTreesRow.holds Tryd.pinned (OpenSpec.ofChange mathTreesSpec)

/-- ITS FALSE NEIGHBOUR: 'it returns false'. Refute it at one input. -/
def mathTreesWrong : ChangeSpec := { name := "mathTrees", fn := fun _ => fun
  | [d1, d2] => { results := [.lit (.bool false)], args := [d1, d2] }
  | _ => none }
def MathTreesWrongFalsely : Prop := mathTreesRow.holds Tryd.pinned (OpenSpec.ofChange mathTreesWrong)

/-- 'cassocklaw06.MathNodes': WHATEVER THE INPUT: true; the input reads as it did. -/
def mathNodesSpec : ChangeSpec := { name := "mathNodes", fn := fun _ => fun
  | [d] => { results := [.lit (.bool true)], args := [d] }
  | _ => none }
def mathNodesRow : OpenClaim := { program := "ytieeinppoiihpaadoor", sum := "fd1d6232f56c64b5ea100914d87542e3d50b4e63613b898a9d3b9011e6f30245", func := "cassock/cassocklaw06.MathNodes", spec := "mathNodes", unfollowed := true, recurses := true, named := ["math/bits.deBruijn32tab", "math/bits.deBruijn64tab"], apart := false, laid := [("math/bits.deBruijn32tab", laid_math_bits_deBruijn32tab), ("math/bits.deBruijn64tab", laid_math_bits_deBruijn64tab)] }
def MathNodesSaid : Prop := mathNodesRow.holds Tryd.pinned (OpenSpec.ofChange mathNodesSpec)

/-- ITS FALSE NEIGHBOUR: 'it returns false'. Refute it at one input. -/
def mathNodesWrong : ChangeSpec := { name := "mathNodes", fn := fun _ => fun
  | [d] => { results := [.lit (.bool false)], args := [d] }
  | _ => none }
def MathNodesWrongFalsely : Prop := mathNodesRow.holds Tryd.pinned (OpenSpec.ofChange mathNodesWrong)

/-- 'cassocklaw06.MathSides': WHATEVER THE INPUT: true; the input reads as it did. -/
def mathSidesSpec : ChangeSpec := { name := "mathSides", fn := fun _ => fun
  | [d1, d2] => { results := [.lit (.bool true)], args := [d1, d2] }
  | _ => none }
def mathSidesRow : OpenClaim := { program := "ytieeinppoiihpaadoor", sum := "fd1d6232f56c64b5ea100914d87542e3d50b4e63613b898a9d3b9011e6f30245", func := "cassock/cassocklaw06.MathSides", spec := "mathSides", unfollowed := true, recurses := true, named := ["math/bits.deBruijn32tab", "math/bits.deBruijn64tab"], apart := false, laid := [("math/bits.deBruijn32tab", laid_math_bits_deBruijn32tab), ("math/bits.deBruijn64tab", laid_math_bits_deBruijn64tab)] }
def MathSidesSaid : Prop := mathSidesRow.holds Tryd.pinned (OpenSpec.ofChange mathSidesSpec)

/-- ITS FALSE NEIGHBOUR: 'it returns false'. Refute it at one input. -/
def mathSidesWrong : ChangeSpec := { name := "mathSides", fn := fun _ => fun
  | [d1, d2] => { results := [.lit (.bool false)], args := [d1, d2] }
  | _ => none }
def MathSidesWrongFalsely : Prop := mathSidesRow.holds Tryd.pinned (OpenSpec.ofChange mathSidesWrong)

/-- 'cassocklaw08.ResolveOnce': WHATEVER THE INPUT: true; the input reads as it did. -/
def resolveOnceSpec : ChangeSpec := { name := "resolveOnce", fn := fun _ => fun
  | [d1, d2] => { results := [.lit (.bool true)], args := [d1, d2] }
  | _ => none }
def resolveOnceRow : OpenClaim := { program := "ytieeinppoiihpaadoor", sum := "fd1d6232f56c64b5ea100914d87542e3d50b4e63613b898a9d3b9011e6f30245", func := "cassock/cassocklaw08.ResolveOnce", spec := "resolveOnce", unfollowed := true, recurses := true, named := ["math/bits.deBruijn32tab", "math/bits.deBruijn64tab"], apart := false, laid := [("math/bits.deBruijn32tab", laid_math_bits_deBruijn32tab), ("math/bits.deBruijn64tab", laid_math_bits_deBruijn64tab)] }
def ResolveOnceSaid : Prop := resolveOnceRow.holds Tryd.pinned (OpenSpec.ofChange resolveOnceSpec)

/-- ITS FALSE NEIGHBOUR: 'it returns false'. Refute it at one input. -/
def resolveOnceWrong : ChangeSpec := { name := "resolveOnce", fn := fun _ => fun
  | [d1, d2] => { results := [.lit (.bool false)], args := [d1, d2] }
  | _ => none }
def ResolveOnceWrongFalsely : Prop := resolveOnceRow.holds Tryd.pinned (OpenSpec.ofChange resolveOnceWrong)

/-- 'cassocklaw08.ResolveAlone': WHATEVER THE INPUT: true; the input reads as it did. -/
def resolveAloneSpec : ChangeSpec := { name := "resolveAlone", fn := fun _ => fun
  | [d1, d2, d3] => { results := [.lit (.bool true)], args := [d1, d2, d3] }
  | _ => none }
def resolveAloneRow : OpenClaim := { program := "ytieeinppoiihpaadoor", sum := "fd1d6232f56c64b5ea100914d87542e3d50b4e63613b898a9d3b9011e6f30245", func := "cassock/cassocklaw08.ResolveAlone", spec := "resolveAlone", unfollowed := true, recurses := true, named := ["math/bits.deBruijn32tab", "math/bits.deBruijn64tab"], apart := false, laid := [("math/bits.deBruijn32tab", laid_math_bits_deBruijn32tab), ("math/bits.deBruijn64tab", laid_math_bits_deBruijn64tab)] }
def ResolveAloneSaid : Prop := resolveAloneRow.holds Tryd.pinned (OpenSpec.ofChange resolveAloneSpec)

/-- ITS FALSE NEIGHBOUR: 'it returns false'. Refute it at one input. -/
def resolveAloneWrong : ChangeSpec := { name := "resolveAlone", fn := fun _ => fun
  | [d1, d2, d3] => { results := [.lit (.bool false)], args := [d1, d2, d3] }
  | _ => none }
def ResolveAloneWrongFalsely : Prop := resolveAloneRow.holds Tryd.pinned (OpenSpec.ofChange resolveAloneWrong)

/-- 'cassocklaw08.ResolveTells': WHATEVER THE INPUT: true; the input reads as it did. -/
def resolveTellsSpec : ChangeSpec := { name := "resolveTells", fn := fun _ => fun
  | [d1, d2, d3] => { results := [.lit (.bool true)], args := [d1, d2, d3] }
  | _ => none }
def resolveTellsRow : OpenClaim := { program := "ytieeinppoiihpaadoor", sum := "fd1d6232f56c64b5ea100914d87542e3d50b4e63613b898a9d3b9011e6f30245", func := "cassock/cassocklaw08.ResolveTells", spec := "resolveTells", unfollowed := true, recurses := true, named := ["math/bits.deBruijn32tab", "math/bits.deBruijn64tab"], apart := false, laid := [("math/bits.deBruijn32tab", laid_math_bits_deBruijn32tab), ("math/bits.deBruijn64tab", laid_math_bits_deBruijn64tab)] }
def ResolveTellsSaid : Prop := resolveTellsRow.holds Tryd.pinned (OpenSpec.ofChange resolveTellsSpec)

/-- ITS FALSE NEIGHBOUR: 'it returns false'. Refute it at one input. -/
def resolveTellsWrong : ChangeSpec := { name := "resolveTells", fn := fun _ => fun
  | [d1, d2, d3] => { results := [.lit (.bool false)], args := [d1, d2, d3] }
  | _ => none }
def ResolveTellsWrongFalsely : Prop := resolveTellsRow.holds Tryd.pinned (OpenSpec.ofChange resolveTellsWrong)

/- THE SECOND FORM. 'bulk': how many values and letters a reading holds, each counted each time it is reached (what is shared counts as often as it is met; a slice's spare places count too). A statement '..UptoSaid' is the law's where the arguments, and the package variables that the reading takes, are together of bulk at most 1048576: NARROWER than '..Said'. Prove '..Said' where nothing that the law and all that it calls make is longer than what came in: it says more and counts as full. Else prove '..UptoSaid'. A law counts once. -/
mutual
def uptoBulk {H : Type} : DataW H → Nat
  | .lit (.string bytes) => bytes.length + 1
  | .lit _ => 1
  | .nil => 1
  | .ptr d => uptoBulk d + 1
  | .slice elems spare => uptoBulkAll elems + uptoBulkAll spare + 1
  | .agg parts => uptoBulkAll parts + 1
  | .iface _ d => uptoBulk d + 1
  | .map entries => uptoBulkEntries entries + 1
  | .held _ => 1
def uptoBulkAll {H : Type} : List (DataW H) → Nat
  | [] => 0
  | d :: r => uptoBulk d + uptoBulkAll r
def uptoBulkEntries {H : Type} : List (Lit × DataW H) → Nat
  | [] => 0
  | x :: r => uptoBulkEntry x + uptoBulkEntries r
def uptoBulkEntry {H : Type} : Lit × DataW H → Nat
  | (.string bytes, d) => bytes.length + uptoBulk d + 1
  | (_, d) => uptoBulk d + 1
 end
def uptoSmall : (H : Type) → List (DataW H) → Bool := fun _ ds => decide (uptoBulkAll ds ≤ 1048576)
def OpenSpec.upto (s : _root_.Go.ChangeSpec) : _root_.Go.OpenSpec := { _root_.Go.OpenSpec.ofChange s with cond := some uptoSmall }

/-- 'cassocklaw06.MathCopath', WHERE WHAT IT READS IS OF BULK AT MOST 1048576: true; the input reads as it did. -/
def mathCopathUptoRow : OpenClaim := { program := "ytieeinppoiihpaadoor", sum := "fd1d6232f56c64b5ea100914d87542e3d50b4e63613b898a9d3b9011e6f30245", func := "cassock/cassocklaw06.MathCopath", spec := "mathCopath", unfollowed := true, recurses := true, named := ["math/bits.deBruijn32tab", "math/bits.deBruijn64tab"], apart := false, laid := [("math/bits.deBruijn32tab", laid_math_bits_deBruijn32tab), ("math/bits.deBruijn64tab", laid_math_bits_deBruijn64tab)], narrowed := true }
def MathCopathUptoSaid : Prop := mathCopathUptoRow.holds Tryd.pinned (OpenSpec.upto mathCopathSpec)

/-- 'cassocklaw06.MathParts', WHERE WHAT IT READS IS OF BULK AT MOST 1048576: true; the input reads as it did. -/
def mathPartsUptoRow : OpenClaim := { program := "ytieeinppoiihpaadoor", sum := "fd1d6232f56c64b5ea100914d87542e3d50b4e63613b898a9d3b9011e6f30245", func := "cassock/cassocklaw06.MathParts", spec := "mathParts", unfollowed := true, recurses := true, named := ["math/bits.deBruijn32tab", "math/bits.deBruijn64tab"], apart := false, laid := [("math/bits.deBruijn32tab", laid_math_bits_deBruijn32tab), ("math/bits.deBruijn64tab", laid_math_bits_deBruijn64tab)], narrowed := true }
def MathPartsUptoSaid : Prop := mathPartsUptoRow.holds Tryd.pinned (OpenSpec.upto mathPartsSpec)

/-- 'cassocklaw06.MathTrees', WHERE WHAT IT READS IS OF BULK AT MOST 1048576: true; the input reads as it did. -/
def mathTreesUptoRow : OpenClaim := { program := "ytieeinppoiihpaadoor", sum := "fd1d6232f56c64b5ea100914d87542e3d50b4e63613b898a9d3b9011e6f30245", func := "cassock/cassocklaw06.MathTrees", spec := "mathTrees", unfollowed := true, recurses := true, named := ["math/bits.deBruijn32tab", "math/bits.deBruijn64tab"], apart := false, laid := [("math/bits.deBruijn32tab", laid_math_bits_deBruijn32tab), ("math/bits.deBruijn64tab", laid_math_bits_deBruijn64tab)], narrowed := true }
def MathTreesUptoSaid : Prop := mathTreesUptoRow.holds Tryd.pinned (OpenSpec.upto mathTreesSpec)

/-- 'cassocklaw06.MathNodes', WHERE WHAT IT READS IS OF BULK AT MOST 1048576: true; the input reads as it did. -/
def mathNodesUptoRow : OpenClaim := { program := "ytieeinppoiihpaadoor", sum := "fd1d6232f56c64b5ea100914d87542e3d50b4e63613b898a9d3b9011e6f30245", func := "cassock/cassocklaw06.MathNodes", spec := "mathNodes", unfollowed := true, recurses := true, named := ["math/bits.deBruijn32tab", "math/bits.deBruijn64tab"], apart := false, laid := [("math/bits.deBruijn32tab", laid_math_bits_deBruijn32tab), ("math/bits.deBruijn64tab", laid_math_bits_deBruijn64tab)], narrowed := true }
def MathNodesUptoSaid : Prop := mathNodesUptoRow.holds Tryd.pinned (OpenSpec.upto mathNodesSpec)

/-- 'cassocklaw06.MathSides', WHERE WHAT IT READS IS OF BULK AT MOST 1048576: true; the input reads as it did. -/
def mathSidesUptoRow : OpenClaim := { program := "ytieeinppoiihpaadoor", sum := "fd1d6232f56c64b5ea100914d87542e3d50b4e63613b898a9d3b9011e6f30245", func := "cassock/cassocklaw06.MathSides", spec := "mathSides", unfollowed := true, recurses := true, named := ["math/bits.deBruijn32tab", "math/bits.deBruijn64tab"], apart := false, laid := [("math/bits.deBruijn32tab", laid_math_bits_deBruijn32tab), ("math/bits.deBruijn64tab", laid_math_bits_deBruijn64tab)], narrowed := true }
def MathSidesUptoSaid : Prop := mathSidesUptoRow.holds Tryd.pinned (OpenSpec.upto mathSidesSpec)

/-- 'cassocklaw08.ResolveOnce', WHERE WHAT IT READS IS OF BULK AT MOST 1048576: true; the input reads as it did. -/
def resolveOnceUptoRow : OpenClaim := { program := "ytieeinppoiihpaadoor", sum := "fd1d6232f56c64b5ea100914d87542e3d50b4e63613b898a9d3b9011e6f30245", func := "cassock/cassocklaw08.ResolveOnce", spec := "resolveOnce", unfollowed := true, recurses := true, named := ["math/bits.deBruijn32tab", "math/bits.deBruijn64tab"], apart := false, laid := [("math/bits.deBruijn32tab", laid_math_bits_deBruijn32tab), ("math/bits.deBruijn64tab", laid_math_bits_deBruijn64tab)], narrowed := true }
def ResolveOnceUptoSaid : Prop := resolveOnceUptoRow.holds Tryd.pinned (OpenSpec.upto resolveOnceSpec)

/-- 'cassocklaw08.ResolveAlone', WHERE WHAT IT READS IS OF BULK AT MOST 1048576: true; the input reads as it did. -/
def resolveAloneUptoRow : OpenClaim := { program := "ytieeinppoiihpaadoor", sum := "fd1d6232f56c64b5ea100914d87542e3d50b4e63613b898a9d3b9011e6f30245", func := "cassock/cassocklaw08.ResolveAlone", spec := "resolveAlone", unfollowed := true, recurses := true, named := ["math/bits.deBruijn32tab", "math/bits.deBruijn64tab"], apart := false, laid := [("math/bits.deBruijn32tab", laid_math_bits_deBruijn32tab), ("math/bits.deBruijn64tab", laid_math_bits_deBruijn64tab)], narrowed := true }
def ResolveAloneUptoSaid : Prop := resolveAloneUptoRow.holds Tryd.pinned (OpenSpec.upto resolveAloneSpec)

/-- 'cassocklaw08.ResolveTells', WHERE WHAT IT READS IS OF BULK AT MOST 1048576: true; the input reads as it did. -/
def resolveTellsUptoRow : OpenClaim := { program := "ytieeinppoiihpaadoor", sum := "fd1d6232f56c64b5ea100914d87542e3d50b4e63613b898a9d3b9011e6f30245", func := "cassock/cassocklaw08.ResolveTells", spec := "resolveTells", unfollowed := true, recurses := true, named := ["math/bits.deBruijn32tab", "math/bits.deBruijn64tab"], apart := false, laid := [("math/bits.deBruijn32tab", laid_math_bits_deBruijn32tab), ("math/bits.deBruijn64tab", laid_math_bits_deBruijn64tab)], narrowed := true }
def ResolveTellsUptoSaid : Prop := resolveTellsUptoRow.holds Tryd.pinned (OpenSpec.upto resolveTellsSpec)

end Rows
end Go.Proofs.YtieeinppoiihpaaDoor
