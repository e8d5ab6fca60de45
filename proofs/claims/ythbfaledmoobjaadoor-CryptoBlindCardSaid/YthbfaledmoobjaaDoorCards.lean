/-
  DERIVED. GIVEN WITH THE SEED: THE CARDS: each row of YthbfaledmoobjaaDoorRows.lean that lists a variable, with what it lists TIED to the program's text (the seventh form; the later family's looks); each row that meets fmt, with fmt's text TOLD by the authors' own Lean function (tested against real Go, not proved from fmt's source: count such statements apart). THE CARD IS WHAT COUNTS. Prove the row's statement (the work); the ties are given (YthbfaledmoobjaaDoorTie.lean); close each card by the builder's one call (the guide's Derived/Test/ToyasCard.lean, 'card_holds'). Laid BY PROGRAM, IN A SANDBOX (cutbox-door.mjs). By AI agents, Wed Nov 11 2026. No macro, syntax, notation, axiom, sorry.
-/
import Derived.Test.YthbfaledmoobjaaDoorRows
import GoSem.ClaimSeven
namespace Go.Proofs.YthbfaledmoobjaaDoor
namespace Rows

/-- THE TIED CARD OF 'cassocklaw04.CryptoReads'. -/
def cryptoReadsCard : Claim7 := { stood := { row := cryptoReadsRow, standIns := [], harness := (true, "8a611c66a5a3c7f5b89d3c09ea2b6b1471f64ee0438ad3abc86c7f8b6bc94d36"), looks := false }, kinds := [], alts := [], laidByText := true, laidKinds := [.data, .data, .data], laidTests := true, laidLooks := .later }
def CryptoReadsCardSaid : Prop := Claim7.holds Tryd.pinned (.plain (OpenSpec.ofChange cryptoReadsSpec)) cryptoReadsCard

/-- THE TIED CARD OF 'cassocklaw04.CryptoBlind'. -/
def cryptoBlindCard : Claim7 := { stood := { row := cryptoBlindRow, standIns := [], harness := (true, "8a611c66a5a3c7f5b89d3c09ea2b6b1471f64ee0438ad3abc86c7f8b6bc94d36"), looks := false }, kinds := [], alts := [], laidByText := true, laidKinds := [.data, .data, .data], laidTests := true, laidLooks := .later }
def CryptoBlindCardSaid : Prop := Claim7.holds Tryd.pinned (.plain (OpenSpec.ofChange cryptoBlindSpec)) cryptoBlindCard

/-- THE TIED CARD OF 'cassocklaw04.CryptoKeys'. -/
def cryptoKeysCard : Claim7 := { stood := { row := cryptoKeysRow, standIns := [], harness := (true, "8a611c66a5a3c7f5b89d3c09ea2b6b1471f64ee0438ad3abc86c7f8b6bc94d36"), looks := false }, kinds := [], alts := [], laidByText := true, laidKinds := [.data, .data, .data], laidTests := true, laidLooks := .later }
def CryptoKeysCardSaid : Prop := Claim7.holds Tryd.pinned (.plain (OpenSpec.ofChange cryptoKeysSpec)) cryptoKeysCard

/-- THE TIED CARD OF 'cassocklaw04.CryptoSigns'. -/
def cryptoSignsCard : Claim7 := { stood := { row := cryptoSignsRow, standIns := [], harness := (true, "8a611c66a5a3c7f5b89d3c09ea2b6b1471f64ee0438ad3abc86c7f8b6bc94d36"), looks := false }, kinds := [], alts := [], laidByText := true, laidKinds := [.data, .data, .data], laidTests := true, laidLooks := .later }
def CryptoSignsCardSaid : Prop := Claim7.holds Tryd.pinned (.plain (OpenSpec.ofChange cryptoSignsSpec)) cryptoSignsCard

/-- THE TIED CARD OF 'cassocklaw04.CryptoApart'. -/
def cryptoApartCard : Claim7 := { stood := { row := cryptoApartRow, standIns := [], harness := (true, "8a611c66a5a3c7f5b89d3c09ea2b6b1471f64ee0438ad3abc86c7f8b6bc94d36"), looks := false }, kinds := [], alts := [], laidByText := true, laidKinds := [.data, .data, .data], laidTests := true, laidLooks := .later }
def CryptoApartCardSaid : Prop := Claim7.holds Tryd.pinned (.plain (OpenSpec.ofChange cryptoApartSpec)) cryptoApartCard

/-- THE SECOND FORM's CARD OF 'cassocklaw04.CryptoReads'. -/
def cryptoReadsUptoCard : Claim7 := { stood := { row := cryptoReadsUptoRow, standIns := [], harness := (true, "8a611c66a5a3c7f5b89d3c09ea2b6b1471f64ee0438ad3abc86c7f8b6bc94d36"), looks := false }, kinds := [], alts := [], laidByText := true, laidKinds := [.data, .data, .data], laidTests := true, laidLooks := .later }
def CryptoReadsUptoCardSaid : Prop := Claim7.holds Tryd.pinned (.plain (OpenSpec.upto cryptoReadsSpec)) cryptoReadsUptoCard

/-- THE SECOND FORM's CARD OF 'cassocklaw04.CryptoBlind'. -/
def cryptoBlindUptoCard : Claim7 := { stood := { row := cryptoBlindUptoRow, standIns := [], harness := (true, "8a611c66a5a3c7f5b89d3c09ea2b6b1471f64ee0438ad3abc86c7f8b6bc94d36"), looks := false }, kinds := [], alts := [], laidByText := true, laidKinds := [.data, .data, .data], laidTests := true, laidLooks := .later }
def CryptoBlindUptoCardSaid : Prop := Claim7.holds Tryd.pinned (.plain (OpenSpec.upto cryptoBlindSpec)) cryptoBlindUptoCard

/-- THE SECOND FORM's CARD OF 'cassocklaw04.CryptoKeys'. -/
def cryptoKeysUptoCard : Claim7 := { stood := { row := cryptoKeysUptoRow, standIns := [], harness := (true, "8a611c66a5a3c7f5b89d3c09ea2b6b1471f64ee0438ad3abc86c7f8b6bc94d36"), looks := false }, kinds := [], alts := [], laidByText := true, laidKinds := [.data, .data, .data], laidTests := true, laidLooks := .later }
def CryptoKeysUptoCardSaid : Prop := Claim7.holds Tryd.pinned (.plain (OpenSpec.upto cryptoKeysSpec)) cryptoKeysUptoCard

/-- THE SECOND FORM's CARD OF 'cassocklaw04.CryptoSigns'. -/
def cryptoSignsUptoCard : Claim7 := { stood := { row := cryptoSignsUptoRow, standIns := [], harness := (true, "8a611c66a5a3c7f5b89d3c09ea2b6b1471f64ee0438ad3abc86c7f8b6bc94d36"), looks := false }, kinds := [], alts := [], laidByText := true, laidKinds := [.data, .data, .data], laidTests := true, laidLooks := .later }
def CryptoSignsUptoCardSaid : Prop := Claim7.holds Tryd.pinned (.plain (OpenSpec.upto cryptoSignsSpec)) cryptoSignsUptoCard

/-- THE SECOND FORM's CARD OF 'cassocklaw04.CryptoApart'. -/
def cryptoApartUptoCard : Claim7 := { stood := { row := cryptoApartUptoRow, standIns := [], harness := (true, "8a611c66a5a3c7f5b89d3c09ea2b6b1471f64ee0438ad3abc86c7f8b6bc94d36"), looks := false }, kinds := [], alts := [], laidByText := true, laidKinds := [.data, .data, .data], laidTests := true, laidLooks := .later }
def CryptoApartUptoCardSaid : Prop := Claim7.holds Tryd.pinned (.plain (OpenSpec.upto cryptoApartSpec)) cryptoApartUptoCard
end Rows
end Go.Proofs.YthbfaledmoobjaaDoor
