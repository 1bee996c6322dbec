/-
  DERIVED. GIVEN WITH THE SEED: THE CARDS: each row of YtlehnlfgjadleaaDoorRows.lean that lists a variable, with what it lists TIED to the program's text (the seventh form; the later family's looks); each row that meets fmt, with fmt's text TOLD by the authors' own Lean function (tested against real Go, not proved from fmt's source: count such statements apart). THE CARD IS WHAT COUNTS. Prove the row's statement (the work); the ties are given (YtlehnlfgjadleaaDoorTie.lean); close each card by the builder's one call (the guide's Derived/Test/ToyasCard.lean, 'card_holds'). Laid BY PROGRAM, IN A SANDBOX (cutbox-door.mjs). By AI agents, Wed Nov 11 2026. No macro, syntax, notation, axiom, sorry.
-/
import Derived.Test.YtlehnlfgjadleaaDoorRows
import GoSem.ClaimSeven
namespace Go.Proofs.YtlehnlfgjadleaaDoor
namespace Rows

/-- THE TIED CARD OF 'laws.FnExactCopyOf'. -/
def fnExactCopyOfCard : Claim7 := { stood := { row := fnExactCopyOfRow, standIns := [], harness := (true, "f8201b85e39d9f4f09fc89df892a1c65e31b1d26e155630205cc84682b6c8221"), looks := true }, kinds := [], alts := [], laidByText := true, laidKinds := [.data, .data, .data], laidTests := true, laidLooks := .later }
def FnExactCopyOfCardSaid : Prop := Claim7.holds Tryd.pinned (.plain (OpenSpec.ofChange fnExactCopyOfSpec)) fnExactCopyOfCard

/-- THE TIED CARD OF 'laws.FnExactStrategyValid'. -/
def fnExactStrategyValidCard : Claim7 := { stood := { row := fnExactStrategyValidRow, standIns := [], harness := (true, "f8201b85e39d9f4f09fc89df892a1c65e31b1d26e155630205cc84682b6c8221"), looks := true }, kinds := [], alts := [], laidByText := true, laidKinds := [.data, .data, .data, .sentinel, .sentinel], laidTests := true, laidLooks := .later }
def FnExactStrategyValidCardSaid : Prop := Claim7.holds Tryd.pinned (.plain (OpenSpec.ofChange fnExactStrategyValidSpec)) fnExactStrategyValidCard

/-- THE TIED CARD OF 'laws.FnExactStrategySize'. -/
def fnExactStrategySizeCard : Claim7 := { stood := { row := fnExactStrategySizeRow, standIns := [], harness := (true, "f8201b85e39d9f4f09fc89df892a1c65e31b1d26e155630205cc84682b6c8221"), looks := true }, kinds := [], alts := [], laidByText := true, laidKinds := [.data, .data, .data, .sentinel, .sentinel], laidTests := true, laidLooks := .later }
def FnExactStrategySizeCardSaid : Prop := Claim7.holds Tryd.pinned (.plain (OpenSpec.ofChange fnExactStrategySizeSpec)) fnExactStrategySizeCard

/-- THE SECOND FORM's CARD OF 'laws.FnExactCopyOf'. -/
def fnExactCopyOfUptoCard : Claim7 := { stood := { row := fnExactCopyOfUptoRow, standIns := [], harness := (true, "f8201b85e39d9f4f09fc89df892a1c65e31b1d26e155630205cc84682b6c8221"), looks := true }, kinds := [], alts := [], laidByText := true, laidKinds := [.data, .data, .data], laidTests := true, laidLooks := .later }
def FnExactCopyOfUptoCardSaid : Prop := Claim7.holds Tryd.pinned (.plain (OpenSpec.upto fnExactCopyOfSpec)) fnExactCopyOfUptoCard

/-- THE SECOND FORM's CARD OF 'laws.FnExactStrategyValid'. -/
def fnExactStrategyValidUptoCard : Claim7 := { stood := { row := fnExactStrategyValidUptoRow, standIns := [], harness := (true, "f8201b85e39d9f4f09fc89df892a1c65e31b1d26e155630205cc84682b6c8221"), looks := true }, kinds := [], alts := [], laidByText := true, laidKinds := [.data, .data, .data, .sentinel, .sentinel], laidTests := true, laidLooks := .later }
def FnExactStrategyValidUptoCardSaid : Prop := Claim7.holds Tryd.pinned (.plain (OpenSpec.upto fnExactStrategyValidSpec)) fnExactStrategyValidUptoCard

/-- THE SECOND FORM's CARD OF 'laws.FnExactStrategySize'. -/
def fnExactStrategySizeUptoCard : Claim7 := { stood := { row := fnExactStrategySizeUptoRow, standIns := [], harness := (true, "f8201b85e39d9f4f09fc89df892a1c65e31b1d26e155630205cc84682b6c8221"), looks := true }, kinds := [], alts := [], laidByText := true, laidKinds := [.data, .data, .data, .sentinel, .sentinel], laidTests := true, laidLooks := .later }
def FnExactStrategySizeUptoCardSaid : Prop := Claim7.holds Tryd.pinned (.plain (OpenSpec.upto fnExactStrategySizeSpec)) fnExactStrategySizeUptoCard
end Rows
end Go.Proofs.YtlehnlfgjadleaaDoor
