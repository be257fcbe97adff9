/-
  DERIVED. GIVEN WITH THE SEED: THE CARDS: each row of YtcchjdmioeocdaaDoorRows.lean that lists a variable, with what it lists TIED to the program's text (the seventh form; the later family's looks); each row that meets fmt, with fmt's text TOLD by the authors' own Lean function (tested against real Go, not proved from fmt's source: count such statements apart). THE CARD IS WHAT COUNTS. Prove the row's statement (the work); the ties are given (YtcchjdmioeocdaaDoorTie.lean); close each card by the builder's one call (the guide's Derived/Test/ToyasCard.lean, 'card_holds'). Laid BY PROGRAM, IN A SANDBOX (cutbox-door.mjs). By AI agents, Wed Nov 11 2026. No macro, syntax, notation, axiom, sorry.
-/
import Derived.Test.YtcchjdmioeocdaaDoorRows
import GoSem.ClaimSeven
namespace Go.Proofs.YtcchjdmioeocdaaDoor
namespace Rows

/-- THE TIED CARD OF 'laws.FnExactPageLine'. -/
def fnExactPageLineCard : Claim7 := { stood := { row := fnExactPageLineRow, standIns := [], harness := (true, "e5cd9e76b11943cec893e1d61b89746dcda1e0c70c51fb1c7271ab2d922f9933"), looks := true }, kinds := [], alts := [], laidByText := true, laidKinds := [.data, .data, .data], laidTests := true, laidLooks := .later }
def FnExactPageLineCardSaid : Prop := Claim7.holds Tryd.pinned (.plain (OpenSpec.ofChange fnExactPageLineSpec)) fnExactPageLineCard

/-- THE TIED CARD OF 'laws.FnExactPrintBook'. -/
def fnExactPrintBookCard : Claim7 := { stood := { row := fnExactPrintBookRow, standIns := [], harness := (true, "e5cd9e76b11943cec893e1d61b89746dcda1e0c70c51fb1c7271ab2d922f9933"), looks := true }, kinds := [], alts := [], laidByText := true, laidKinds := [.data, .data, .data], laidTests := true, laidLooks := .later }
def FnExactPrintBookCardSaid : Prop := Claim7.holds Tryd.pinned (.plain (OpenSpec.ofChange fnExactPrintBookSpec)) fnExactPrintBookCard

/-- THE TIED CARD OF 'laws.FnExactParsePage'. -/
def fnExactParsePageCard : Claim7 := { stood := { row := fnExactParsePageRow, standIns := [], harness := (true, "e5cd9e76b11943cec893e1d61b89746dcda1e0c70c51fb1c7271ab2d922f9933"), looks := true }, kinds := [], alts := [], laidByText := true, laidKinds := [.data, .data, .data, .data, .sentinel, .sentinel, .pinned], laidTests := true, laidLooks := .later }
def FnExactParsePageCardSaid : Prop := Claim7.holds Tryd.pinned (.plain (OpenSpec.ofChange fnExactParsePageSpec)) fnExactParsePageCard

/-- THE TIED CARD OF 'laws.FnExactReadBook'. -/
def fnExactReadBookCard : Claim7 := { stood := { row := fnExactReadBookRow, standIns := [], harness := (true, "e5cd9e76b11943cec893e1d61b89746dcda1e0c70c51fb1c7271ab2d922f9933"), looks := true }, kinds := [], alts := [], laidByText := true, laidKinds := [.data, .data, .data, .data, .sentinel, .sentinel, .pinned], laidTests := true, laidLooks := .later }
def FnExactReadBookCardSaid : Prop := Claim7.holds Tryd.pinned (.plain (OpenSpec.ofChange fnExactReadBookSpec)) fnExactReadBookCard

/-- THE SECOND FORM's CARD OF 'laws.FnExactPageLine'. -/
def fnExactPageLineUptoCard : Claim7 := { stood := { row := fnExactPageLineUptoRow, standIns := [], harness := (true, "e5cd9e76b11943cec893e1d61b89746dcda1e0c70c51fb1c7271ab2d922f9933"), looks := true }, kinds := [], alts := [], laidByText := true, laidKinds := [.data, .data, .data], laidTests := true, laidLooks := .later }
def FnExactPageLineUptoCardSaid : Prop := Claim7.holds Tryd.pinned (.plain (OpenSpec.upto fnExactPageLineSpec)) fnExactPageLineUptoCard

/-- THE SECOND FORM's CARD OF 'laws.FnExactPrintBook'. -/
def fnExactPrintBookUptoCard : Claim7 := { stood := { row := fnExactPrintBookUptoRow, standIns := [], harness := (true, "e5cd9e76b11943cec893e1d61b89746dcda1e0c70c51fb1c7271ab2d922f9933"), looks := true }, kinds := [], alts := [], laidByText := true, laidKinds := [.data, .data, .data], laidTests := true, laidLooks := .later }
def FnExactPrintBookUptoCardSaid : Prop := Claim7.holds Tryd.pinned (.plain (OpenSpec.upto fnExactPrintBookSpec)) fnExactPrintBookUptoCard

/-- THE SECOND FORM's CARD OF 'laws.FnExactParsePage'. -/
def fnExactParsePageUptoCard : Claim7 := { stood := { row := fnExactParsePageUptoRow, standIns := [], harness := (true, "e5cd9e76b11943cec893e1d61b89746dcda1e0c70c51fb1c7271ab2d922f9933"), looks := true }, kinds := [], alts := [], laidByText := true, laidKinds := [.data, .data, .data, .data, .sentinel, .sentinel, .pinned], laidTests := true, laidLooks := .later }
def FnExactParsePageUptoCardSaid : Prop := Claim7.holds Tryd.pinned (.plain (OpenSpec.upto fnExactParsePageSpec)) fnExactParsePageUptoCard

/-- THE SECOND FORM's CARD OF 'laws.FnExactReadBook'. -/
def fnExactReadBookUptoCard : Claim7 := { stood := { row := fnExactReadBookUptoRow, standIns := [], harness := (true, "e5cd9e76b11943cec893e1d61b89746dcda1e0c70c51fb1c7271ab2d922f9933"), looks := true }, kinds := [], alts := [], laidByText := true, laidKinds := [.data, .data, .data, .data, .sentinel, .sentinel, .pinned], laidTests := true, laidLooks := .later }
def FnExactReadBookUptoCardSaid : Prop := Claim7.holds Tryd.pinned (.plain (OpenSpec.upto fnExactReadBookSpec)) fnExactReadBookUptoCard
end Rows
end Go.Proofs.YtcchjdmioeocdaaDoor
