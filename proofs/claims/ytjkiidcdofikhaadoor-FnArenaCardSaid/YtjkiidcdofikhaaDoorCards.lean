/-
  DERIVED. GIVEN WITH THE SEED: THE CARDS: each row of YtjkiidcdofikhaaDoorRows.lean that lists a variable, with what it lists TIED to the program's text (the seventh form; the later family's looks); each row that meets fmt, with fmt's text TOLD by the authors' own Lean function (tested against real Go, not proved from fmt's source: count such statements apart). THE CARD IS WHAT COUNTS. Prove the row's statement (the work); the ties are given (YtjkiidcdofikhaaDoorTie.lean); close each card by the builder's one call (the guide's Derived/Test/ToyasCard.lean, 'card_holds'). Laid BY PROGRAM, IN A SANDBOX (cutbox-door.mjs). By AI agents, Wed Nov 11 2026. No macro, syntax, notation, axiom, sorry.
-/
import Derived.Test.YtjkiidcdofikhaaDoorRows
import GoSem.ClaimSeven
namespace Go.Proofs.YtjkiidcdofikhaaDoor
namespace Rows

/-- THE TIED CARD OF 'laws.FnExactArenaMoves'. -/
def fnExactArenaMovesCard : Claim7 := { stood := { row := fnExactArenaMovesRow, standIns := [], harness := (true, "d066fb6e53467f3dca5eef93a69156c4898ad9b6fcc9877be33f7a0ed414f305"), looks := true }, kinds := [], alts := [], laidByText := true, laidKinds := [.data, .data, .data], laidTests := true, laidLooks := .later }
def FnExactArenaMovesCardSaid : Prop := Claim7.holds Tryd.pinned (.plain (OpenSpec.ofChange fnExactArenaMovesSpec)) fnExactArenaMovesCard

/-- THE TIED CARD OF 'laws.FnArena'. -/
def fnArenaCard : Claim7 := { stood := { row := fnArenaRow, standIns := [], harness := (true, "d066fb6e53467f3dca5eef93a69156c4898ad9b6fcc9877be33f7a0ed414f305"), looks := true }, kinds := [], alts := [], laidByText := true, laidKinds := [.data, .data, .data], laidTests := true, laidLooks := .later }
def FnArenaCardSaid : Prop := Claim7.holds Tryd.pinned (.plain (OpenSpec.ofChange fnArenaSpec)) fnArenaCard

/-- THE TIED CARD OF 'laws.FnMove'. -/
def fnMoveCard : Claim7 := { stood := { row := fnMoveRow, standIns := [], harness := (true, "d066fb6e53467f3dca5eef93a69156c4898ad9b6fcc9877be33f7a0ed414f305"), looks := true }, kinds := [], alts := [], laidByText := true, laidKinds := [.data, .data, .data], laidTests := true, laidLooks := .later }
def FnMoveCardSaid : Prop := Claim7.holds Tryd.pinned (.plain (OpenSpec.ofChange fnMoveSpec)) fnMoveCard

/-- THE TIED CARD OF 'laws.FnExactCopyOf'. -/
def fnExactCopyOfCard : Claim7 := { stood := { row := fnExactCopyOfRow, standIns := [], harness := (true, "d066fb6e53467f3dca5eef93a69156c4898ad9b6fcc9877be33f7a0ed414f305"), looks := true }, kinds := [], alts := [], laidByText := true, laidKinds := [.data, .data, .data], laidTests := true, laidLooks := .later }
def FnExactCopyOfCardSaid : Prop := Claim7.holds Tryd.pinned (.plain (OpenSpec.ofChange fnExactCopyOfSpec)) fnExactCopyOfCard

/-- THE TIED CARD OF 'laws.FnExactStrategyValid'. -/
def fnExactStrategyValidCard : Claim7 := { stood := { row := fnExactStrategyValidRow, standIns := [], harness := (true, "d066fb6e53467f3dca5eef93a69156c4898ad9b6fcc9877be33f7a0ed414f305"), looks := true }, kinds := [], alts := [], laidByText := true, laidKinds := [.data, .data, .data, .sentinel, .sentinel], laidTests := true, laidLooks := .later }
def FnExactStrategyValidCardSaid : Prop := Claim7.holds Tryd.pinned (.plain (OpenSpec.ofChange fnExactStrategyValidSpec)) fnExactStrategyValidCard

/-- THE TIED CARD OF 'laws.FnExactStrategySize'. -/
def fnExactStrategySizeCard : Claim7 := { stood := { row := fnExactStrategySizeRow, standIns := [], harness := (true, "d066fb6e53467f3dca5eef93a69156c4898ad9b6fcc9877be33f7a0ed414f305"), looks := true }, kinds := [], alts := [], laidByText := true, laidKinds := [.data, .data, .data, .sentinel, .sentinel], laidTests := true, laidLooks := .later }
def FnExactStrategySizeCardSaid : Prop := Claim7.holds Tryd.pinned (.plain (OpenSpec.ofChange fnExactStrategySizeSpec)) fnExactStrategySizeCard

/-- THE SECOND FORM's CARD OF 'laws.FnExactArenaMoves'. -/
def fnExactArenaMovesUptoCard : Claim7 := { stood := { row := fnExactArenaMovesUptoRow, standIns := [], harness := (true, "d066fb6e53467f3dca5eef93a69156c4898ad9b6fcc9877be33f7a0ed414f305"), looks := true }, kinds := [], alts := [], laidByText := true, laidKinds := [.data, .data, .data], laidTests := true, laidLooks := .later }
def FnExactArenaMovesUptoCardSaid : Prop := Claim7.holds Tryd.pinned (.plain (OpenSpec.upto fnExactArenaMovesSpec)) fnExactArenaMovesUptoCard

/-- THE SECOND FORM's CARD OF 'laws.FnArena'. -/
def fnArenaUptoCard : Claim7 := { stood := { row := fnArenaUptoRow, standIns := [], harness := (true, "d066fb6e53467f3dca5eef93a69156c4898ad9b6fcc9877be33f7a0ed414f305"), looks := true }, kinds := [], alts := [], laidByText := true, laidKinds := [.data, .data, .data], laidTests := true, laidLooks := .later }
def FnArenaUptoCardSaid : Prop := Claim7.holds Tryd.pinned (.plain (OpenSpec.upto fnArenaSpec)) fnArenaUptoCard

/-- THE SECOND FORM's CARD OF 'laws.FnMove'. -/
def fnMoveUptoCard : Claim7 := { stood := { row := fnMoveUptoRow, standIns := [], harness := (true, "d066fb6e53467f3dca5eef93a69156c4898ad9b6fcc9877be33f7a0ed414f305"), looks := true }, kinds := [], alts := [], laidByText := true, laidKinds := [.data, .data, .data], laidTests := true, laidLooks := .later }
def FnMoveUptoCardSaid : Prop := Claim7.holds Tryd.pinned (.plain (OpenSpec.upto fnMoveSpec)) fnMoveUptoCard

/-- THE SECOND FORM's CARD OF 'laws.FnExactCopyOf'. -/
def fnExactCopyOfUptoCard : Claim7 := { stood := { row := fnExactCopyOfUptoRow, standIns := [], harness := (true, "d066fb6e53467f3dca5eef93a69156c4898ad9b6fcc9877be33f7a0ed414f305"), looks := true }, kinds := [], alts := [], laidByText := true, laidKinds := [.data, .data, .data], laidTests := true, laidLooks := .later }
def FnExactCopyOfUptoCardSaid : Prop := Claim7.holds Tryd.pinned (.plain (OpenSpec.upto fnExactCopyOfSpec)) fnExactCopyOfUptoCard

/-- THE SECOND FORM's CARD OF 'laws.FnExactStrategyValid'. -/
def fnExactStrategyValidUptoCard : Claim7 := { stood := { row := fnExactStrategyValidUptoRow, standIns := [], harness := (true, "d066fb6e53467f3dca5eef93a69156c4898ad9b6fcc9877be33f7a0ed414f305"), looks := true }, kinds := [], alts := [], laidByText := true, laidKinds := [.data, .data, .data, .sentinel, .sentinel], laidTests := true, laidLooks := .later }
def FnExactStrategyValidUptoCardSaid : Prop := Claim7.holds Tryd.pinned (.plain (OpenSpec.upto fnExactStrategyValidSpec)) fnExactStrategyValidUptoCard

/-- THE SECOND FORM's CARD OF 'laws.FnExactStrategySize'. -/
def fnExactStrategySizeUptoCard : Claim7 := { stood := { row := fnExactStrategySizeUptoRow, standIns := [], harness := (true, "d066fb6e53467f3dca5eef93a69156c4898ad9b6fcc9877be33f7a0ed414f305"), looks := true }, kinds := [], alts := [], laidByText := true, laidKinds := [.data, .data, .data, .sentinel, .sentinel], laidTests := true, laidLooks := .later }
def FnExactStrategySizeUptoCardSaid : Prop := Claim7.holds Tryd.pinned (.plain (OpenSpec.upto fnExactStrategySizeSpec)) fnExactStrategySizeUptoCard
end Rows
end Go.Proofs.YtjkiidcdofikhaaDoor
