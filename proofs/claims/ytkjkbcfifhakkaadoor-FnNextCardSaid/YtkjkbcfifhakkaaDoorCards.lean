/-
  DERIVED. GIVEN WITH THE SEED: THE CARDS: each row of YtkjkbcfifhakkaaDoorRows.lean that lists a variable, with what it lists TIED to the program's text (the seventh form; the later family's looks); each row that meets fmt, with fmt's text TOLD by the authors' own Lean function (tested against real Go, not proved from fmt's source: count such statements apart). THE CARD IS WHAT COUNTS. Prove the row's statement (the work); the ties are given (YtkjkbcfifhakkaaDoorTie.lean); close each card by the builder's one call (the guide's Derived/Test/ToyasCard.lean, 'card_holds'). Laid BY PROGRAM, IN A SANDBOX (cutbox-door.mjs). By AI agents, Wed Nov 11 2026. No macro, syntax, notation, axiom, sorry.
-/
import Derived.Test.YtkjkbcfifhakkaaDoorRows
import GoSem.ClaimSeven
namespace Go.Proofs.YtkjkbcfifhakkaaDoor
namespace Rows

/-- THE TIED CARD OF 'laws.FnPlayText'. -/
def fnPlayTextCard : Claim7 := { stood := { row := fnPlayTextRow, standIns := [], harness := (true, "d3e0ee7e46a902158194fe4f480994baf0abc88fb873058d43154580e3c4ed7e"), looks := false }, kinds := [], alts := [], laidByText := true, laidKinds := [.data, .data, .data], laidTests := true, laidLooks := .later }
def FnPlayTextCardSaid : Prop := Claim7.holds Tryd.pinned (.plain (OpenSpec.ofChange fnPlayTextSpec)) fnPlayTextCard

/-- THE TIED CARD OF 'laws.FnLegal'. -/
def fnLegalCard : Claim7 := { stood := { row := fnLegalRow, standIns := [], harness := (true, "d3e0ee7e46a902158194fe4f480994baf0abc88fb873058d43154580e3c4ed7e"), looks := false }, kinds := [], alts := [], laidByText := true, laidKinds := [.data, .data, .data], laidTests := true, laidLooks := .later }
def FnLegalCardSaid : Prop := Claim7.holds Tryd.pinned (.plain (OpenSpec.ofChange fnLegalSpec)) fnLegalCard

/-- THE TIED CARD OF 'laws.FnNext'. -/
def fnNextCard : Claim7 := { stood := { row := fnNextRow, standIns := [], harness := (true, "d3e0ee7e46a902158194fe4f480994baf0abc88fb873058d43154580e3c4ed7e"), looks := false }, kinds := [], alts := [], laidByText := true, laidKinds := [.data, .data, .data], laidTests := true, laidLooks := .later }
def FnNextCardSaid : Prop := Claim7.holds Tryd.pinned (.plain (OpenSpec.ofChange fnNextSpec)) fnNextCard

/-- THE SECOND FORM's CARD OF 'laws.FnPlayText'. -/
def fnPlayTextUptoCard : Claim7 := { stood := { row := fnPlayTextUptoRow, standIns := [], harness := (true, "d3e0ee7e46a902158194fe4f480994baf0abc88fb873058d43154580e3c4ed7e"), looks := false }, kinds := [], alts := [], laidByText := true, laidKinds := [.data, .data, .data], laidTests := true, laidLooks := .later }
def FnPlayTextUptoCardSaid : Prop := Claim7.holds Tryd.pinned (.plain (OpenSpec.upto fnPlayTextSpec)) fnPlayTextUptoCard

/-- THE SECOND FORM's CARD OF 'laws.FnLegal'. -/
def fnLegalUptoCard : Claim7 := { stood := { row := fnLegalUptoRow, standIns := [], harness := (true, "d3e0ee7e46a902158194fe4f480994baf0abc88fb873058d43154580e3c4ed7e"), looks := false }, kinds := [], alts := [], laidByText := true, laidKinds := [.data, .data, .data], laidTests := true, laidLooks := .later }
def FnLegalUptoCardSaid : Prop := Claim7.holds Tryd.pinned (.plain (OpenSpec.upto fnLegalSpec)) fnLegalUptoCard

/-- THE SECOND FORM's CARD OF 'laws.FnNext'. -/
def fnNextUptoCard : Claim7 := { stood := { row := fnNextUptoRow, standIns := [], harness := (true, "d3e0ee7e46a902158194fe4f480994baf0abc88fb873058d43154580e3c4ed7e"), looks := false }, kinds := [], alts := [], laidByText := true, laidKinds := [.data, .data, .data], laidTests := true, laidLooks := .later }
def FnNextUptoCardSaid : Prop := Claim7.holds Tryd.pinned (.plain (OpenSpec.upto fnNextSpec)) fnNextUptoCard
end Rows
end Go.Proofs.YtkjkbcfifhakkaaDoor
