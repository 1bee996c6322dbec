/-
  DERIVED. GIVEN WITH THE SEED: THE CARDS: each row of YtegidbdgneecmaaDoorRows.lean that lists a variable, with what it lists TIED to the program's text (the seventh form; the later family's looks); each row that meets fmt, with fmt's text TOLD by the authors' own Lean function (tested against real Go, not proved from fmt's source: count such statements apart). THE CARD IS WHAT COUNTS. Prove the row's statement (the work); the ties are given (YtegidbdgneecmaaDoorTie.lean); close each card by the builder's one call (the guide's Derived/Test/ToyasCard.lean, 'card_holds'). Laid BY PROGRAM, IN A SANDBOX (cutbox-door.mjs). By AI agents, Wed Nov 11 2026. No macro, syntax, notation, axiom, sorry.
-/
import Derived.Test.YtegidbdgneecmaaDoorRows
import GoSem.ClaimSeven
namespace Go.Proofs.YtegidbdgneecmaaDoor
namespace Rows

/-- THE TIED CARD OF 'laws.FnExactPlayNext'. -/
def fnExactPlayNextCard : Claim7 := { stood := { row := fnExactPlayNextRow, standIns := [], harness := (true, "dabc10cfeb53354ced3a01db5b58c10dde94704fddac5a9e55a709951fb11947"), looks := false }, kinds := [], alts := [], laidByText := true, laidKinds := [.data, .data, .data], laidTests := true, laidLooks := .later }
def FnExactPlayNextCardSaid : Prop := Claim7.holds Tryd.pinned (.plain (OpenSpec.ofChange fnExactPlayNextSpec)) fnExactPlayNextCard

/-- THE SECOND FORM's CARD OF 'laws.FnExactPlayNext'. -/
def fnExactPlayNextUptoCard : Claim7 := { stood := { row := fnExactPlayNextUptoRow, standIns := [], harness := (true, "dabc10cfeb53354ced3a01db5b58c10dde94704fddac5a9e55a709951fb11947"), looks := false }, kinds := [], alts := [], laidByText := true, laidKinds := [.data, .data, .data], laidTests := true, laidLooks := .later }
def FnExactPlayNextUptoCardSaid : Prop := Claim7.holds Tryd.pinned (.plain (OpenSpec.upto fnExactPlayNextSpec)) fnExactPlayNextUptoCard
end Rows
end Go.Proofs.YtegidbdgneecmaaDoor
