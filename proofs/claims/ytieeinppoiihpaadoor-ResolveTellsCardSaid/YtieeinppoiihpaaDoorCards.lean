/-
  DERIVED. GIVEN WITH THE SEED: THE CARDS: each row of YtieeinppoiihpaaDoorRows.lean that lists a variable, with what it lists TIED to the program's text (the seventh form; the later family's looks); each row that meets fmt, with fmt's text TOLD by the authors' own Lean function (tested against real Go, not proved from fmt's source: count such statements apart). THE CARD IS WHAT COUNTS. Prove the row's statement (the work); the ties are given (YtieeinppoiihpaaDoorTie.lean); close each card by the builder's one call (the guide's Derived/Test/ToyasCard.lean, 'card_holds'). Laid BY PROGRAM, IN A SANDBOX (cutbox-door.mjs). By AI agents, Wed Nov 11 2026. No macro, syntax, notation, axiom, sorry.
-/
import Derived.Test.YtieeinppoiihpaaDoorRows
import GoSem.ClaimSeven
namespace Go.Proofs.YtieeinppoiihpaaDoor
namespace Rows

/-- THE TIED CARD OF 'cassocklaw06.MathCopath'. -/
def mathCopathCard : Claim7 := { stood := { row := mathCopathRow, standIns := [], harness := (true, "29d217ad97b3eae601dec70563a2b30ad1a8e5a97997797a49a4f7bd1b11300c"), looks := false }, kinds := [], alts := [], laidByText := true, laidKinds := [.data, .data], laidTests := true, laidLooks := .later }
def MathCopathCardSaid : Prop := Claim7.holds Tryd.pinned (.plain (OpenSpec.ofChange mathCopathSpec)) mathCopathCard

/-- THE TIED CARD OF 'cassocklaw06.MathParts'. -/
def mathPartsCard : Claim7 := { stood := { row := mathPartsRow, standIns := [], harness := (true, "29d217ad97b3eae601dec70563a2b30ad1a8e5a97997797a49a4f7bd1b11300c"), looks := false }, kinds := [], alts := [], laidByText := true, laidKinds := [.data, .data], laidTests := true, laidLooks := .later }
def MathPartsCardSaid : Prop := Claim7.holds Tryd.pinned (.plain (OpenSpec.ofChange mathPartsSpec)) mathPartsCard

/-- THE TIED CARD OF 'cassocklaw06.MathTrees'. -/
def mathTreesCard : Claim7 := { stood := { row := mathTreesRow, standIns := [], harness := (true, "29d217ad97b3eae601dec70563a2b30ad1a8e5a97997797a49a4f7bd1b11300c"), looks := false }, kinds := [], alts := [], laidByText := true, laidKinds := [.data, .data], laidTests := true, laidLooks := .later }
def MathTreesCardSaid : Prop := Claim7.holds Tryd.pinned (.plain (OpenSpec.ofChange mathTreesSpec)) mathTreesCard

/-- THE TIED CARD OF 'cassocklaw06.MathNodes'. -/
def mathNodesCard : Claim7 := { stood := { row := mathNodesRow, standIns := [], harness := (true, "29d217ad97b3eae601dec70563a2b30ad1a8e5a97997797a49a4f7bd1b11300c"), looks := false }, kinds := [], alts := [], laidByText := true, laidKinds := [.data, .data], laidTests := true, laidLooks := .later }
def MathNodesCardSaid : Prop := Claim7.holds Tryd.pinned (.plain (OpenSpec.ofChange mathNodesSpec)) mathNodesCard

/-- THE TIED CARD OF 'cassocklaw06.MathSides'. -/
def mathSidesCard : Claim7 := { stood := { row := mathSidesRow, standIns := [], harness := (true, "29d217ad97b3eae601dec70563a2b30ad1a8e5a97997797a49a4f7bd1b11300c"), looks := false }, kinds := [], alts := [], laidByText := true, laidKinds := [.data, .data], laidTests := true, laidLooks := .later }
def MathSidesCardSaid : Prop := Claim7.holds Tryd.pinned (.plain (OpenSpec.ofChange mathSidesSpec)) mathSidesCard

/-- THE TIED CARD OF 'cassocklaw08.ResolveOnce'. -/
def resolveOnceCard : Claim7 := { stood := { row := resolveOnceRow, standIns := [], harness := (true, "29d217ad97b3eae601dec70563a2b30ad1a8e5a97997797a49a4f7bd1b11300c"), looks := false }, kinds := [], alts := [], laidByText := true, laidKinds := [.data, .data], laidTests := true, laidLooks := .later }
def ResolveOnceCardSaid : Prop := Claim7.holds Tryd.pinned (.plain (OpenSpec.ofChange resolveOnceSpec)) resolveOnceCard

/-- THE TIED CARD OF 'cassocklaw08.ResolveAlone'. -/
def resolveAloneCard : Claim7 := { stood := { row := resolveAloneRow, standIns := [], harness := (true, "29d217ad97b3eae601dec70563a2b30ad1a8e5a97997797a49a4f7bd1b11300c"), looks := false }, kinds := [], alts := [], laidByText := true, laidKinds := [.data, .data], laidTests := true, laidLooks := .later }
def ResolveAloneCardSaid : Prop := Claim7.holds Tryd.pinned (.plain (OpenSpec.ofChange resolveAloneSpec)) resolveAloneCard

/-- THE TIED CARD OF 'cassocklaw08.ResolveTells'. -/
def resolveTellsCard : Claim7 := { stood := { row := resolveTellsRow, standIns := [], harness := (true, "29d217ad97b3eae601dec70563a2b30ad1a8e5a97997797a49a4f7bd1b11300c"), looks := false }, kinds := [], alts := [], laidByText := true, laidKinds := [.data, .data], laidTests := true, laidLooks := .later }
def ResolveTellsCardSaid : Prop := Claim7.holds Tryd.pinned (.plain (OpenSpec.ofChange resolveTellsSpec)) resolveTellsCard

/-- THE SECOND FORM's CARD OF 'cassocklaw06.MathCopath'. -/
def mathCopathUptoCard : Claim7 := { stood := { row := mathCopathUptoRow, standIns := [], harness := (true, "29d217ad97b3eae601dec70563a2b30ad1a8e5a97997797a49a4f7bd1b11300c"), looks := false }, kinds := [], alts := [], laidByText := true, laidKinds := [.data, .data], laidTests := true, laidLooks := .later }
def MathCopathUptoCardSaid : Prop := Claim7.holds Tryd.pinned (.plain (OpenSpec.upto mathCopathSpec)) mathCopathUptoCard

/-- THE SECOND FORM's CARD OF 'cassocklaw06.MathParts'. -/
def mathPartsUptoCard : Claim7 := { stood := { row := mathPartsUptoRow, standIns := [], harness := (true, "29d217ad97b3eae601dec70563a2b30ad1a8e5a97997797a49a4f7bd1b11300c"), looks := false }, kinds := [], alts := [], laidByText := true, laidKinds := [.data, .data], laidTests := true, laidLooks := .later }
def MathPartsUptoCardSaid : Prop := Claim7.holds Tryd.pinned (.plain (OpenSpec.upto mathPartsSpec)) mathPartsUptoCard

/-- THE SECOND FORM's CARD OF 'cassocklaw06.MathTrees'. -/
def mathTreesUptoCard : Claim7 := { stood := { row := mathTreesUptoRow, standIns := [], harness := (true, "29d217ad97b3eae601dec70563a2b30ad1a8e5a97997797a49a4f7bd1b11300c"), looks := false }, kinds := [], alts := [], laidByText := true, laidKinds := [.data, .data], laidTests := true, laidLooks := .later }
def MathTreesUptoCardSaid : Prop := Claim7.holds Tryd.pinned (.plain (OpenSpec.upto mathTreesSpec)) mathTreesUptoCard

/-- THE SECOND FORM's CARD OF 'cassocklaw06.MathNodes'. -/
def mathNodesUptoCard : Claim7 := { stood := { row := mathNodesUptoRow, standIns := [], harness := (true, "29d217ad97b3eae601dec70563a2b30ad1a8e5a97997797a49a4f7bd1b11300c"), looks := false }, kinds := [], alts := [], laidByText := true, laidKinds := [.data, .data], laidTests := true, laidLooks := .later }
def MathNodesUptoCardSaid : Prop := Claim7.holds Tryd.pinned (.plain (OpenSpec.upto mathNodesSpec)) mathNodesUptoCard

/-- THE SECOND FORM's CARD OF 'cassocklaw06.MathSides'. -/
def mathSidesUptoCard : Claim7 := { stood := { row := mathSidesUptoRow, standIns := [], harness := (true, "29d217ad97b3eae601dec70563a2b30ad1a8e5a97997797a49a4f7bd1b11300c"), looks := false }, kinds := [], alts := [], laidByText := true, laidKinds := [.data, .data], laidTests := true, laidLooks := .later }
def MathSidesUptoCardSaid : Prop := Claim7.holds Tryd.pinned (.plain (OpenSpec.upto mathSidesSpec)) mathSidesUptoCard

/-- THE SECOND FORM's CARD OF 'cassocklaw08.ResolveOnce'. -/
def resolveOnceUptoCard : Claim7 := { stood := { row := resolveOnceUptoRow, standIns := [], harness := (true, "29d217ad97b3eae601dec70563a2b30ad1a8e5a97997797a49a4f7bd1b11300c"), looks := false }, kinds := [], alts := [], laidByText := true, laidKinds := [.data, .data], laidTests := true, laidLooks := .later }
def ResolveOnceUptoCardSaid : Prop := Claim7.holds Tryd.pinned (.plain (OpenSpec.upto resolveOnceSpec)) resolveOnceUptoCard

/-- THE SECOND FORM's CARD OF 'cassocklaw08.ResolveAlone'. -/
def resolveAloneUptoCard : Claim7 := { stood := { row := resolveAloneUptoRow, standIns := [], harness := (true, "29d217ad97b3eae601dec70563a2b30ad1a8e5a97997797a49a4f7bd1b11300c"), looks := false }, kinds := [], alts := [], laidByText := true, laidKinds := [.data, .data], laidTests := true, laidLooks := .later }
def ResolveAloneUptoCardSaid : Prop := Claim7.holds Tryd.pinned (.plain (OpenSpec.upto resolveAloneSpec)) resolveAloneUptoCard

/-- THE SECOND FORM's CARD OF 'cassocklaw08.ResolveTells'. -/
def resolveTellsUptoCard : Claim7 := { stood := { row := resolveTellsUptoRow, standIns := [], harness := (true, "29d217ad97b3eae601dec70563a2b30ad1a8e5a97997797a49a4f7bd1b11300c"), looks := false }, kinds := [], alts := [], laidByText := true, laidKinds := [.data, .data], laidTests := true, laidLooks := .later }
def ResolveTellsUptoCardSaid : Prop := Claim7.holds Tryd.pinned (.plain (OpenSpec.upto resolveTellsSpec)) resolveTellsUptoCard
end Rows
end Go.Proofs.YtieeinppoiihpaaDoor
