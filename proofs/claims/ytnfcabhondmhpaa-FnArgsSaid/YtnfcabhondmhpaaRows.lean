/-
  No cell of these rows narrows 'for every input' (looked for: loops, veiled, ifaces, maps, wideKeys, modest, calm, conditions, laid).
  DERIVED. THE GIVEN ROWS OF THIS SEAT. 12 by the template 'for every input the law returns true; each argument reads behind the call as it read before'; 0 by the template 'total and deterministic' (their statements: YtnfcabhondmhpaaTotals.lean).
  GIVEN WITH THE SEED: the statements are not yours to turn. If you find one false, say at which input.
  Laid BY PROGRAM, IN A SANDBOX (cutbox-rows.mjs): the forced cells as the released guide's own fill.sh prints them over the translation f13090c12c2d85a7… (all of the seat's roots in one cut). By AI agents, Wed Nov 11 2026. No macro, syntax, notation, axiom, sorry.
-/
import Derived.Test.YtnfcabhondmhpaaChecked
import GoSem.Claim
import GoSem.ClaimJoined
import GoSem.ClaimMapViews
import Derived.JoinedTies
import Derived.KernelRfl
namespace Go.Proofs.Ytnfcabhondmhpaa
/- THE CELL 'sum', in the pinned program and in every row, IS THE sha256 OF THE DUMP (.gsa) THAT YtnfcabhondmhpaaProg.lean LOADS. Nothing in Lean hashes anything: it is a label: what it is worth is what the hold of that sum in a sandbox is worth. -/
noncomputable def Try.pinned : Pinned := { name := "ytnfcabhondmhpaa", sum := "f13090c12c2d85a7a04059fe78cb7752cb9be695f274a7d94e0bc4ce8b2ef282", checked := Try.checked }
namespace Rows
def none {H : Type} : Left H := { results := [], args := [] }

/-- 'laws.FnExactConstants': WHATEVER THE INPUT: true; the input reads as it did. -/
def fnExactConstantsSpec : ChangeSpec := { name := "fnExactConstants", fn := fun _ => fun
  | [] => { results := [.lit (.bool true)], args := [] }
  | _ => none }
def fnExactConstantsRow : OpenClaim := { program := "ytnfcabhondmhpaa", sum := "f13090c12c2d85a7a04059fe78cb7752cb9be695f274a7d94e0bc4ce8b2ef282", func := "loop.example/innocentgames/laws.FnExactConstants", spec := "fnExactConstants", apart := false }
def FnExactConstantsSaid : Prop := fnExactConstantsRow.holds Try.pinned (OpenSpec.ofChange fnExactConstantsSpec)

/-- ITS FALSE NEIGHBOUR: 'it returns false'. Refute it at one input. -/
def fnExactConstantsWrong : ChangeSpec := { name := "fnExactConstants", fn := fun _ => fun
  | [] => { results := [.lit (.bool false)], args := [] }
  | _ => none }
def FnExactConstantsWrongFalsely : Prop := fnExactConstantsRow.holds Try.pinned (OpenSpec.ofChange fnExactConstantsWrong)

/-- 'laws.FnExactTypeValid': WHATEVER THE INPUT: true; the input reads as it did. -/
def fnExactTypeValidSpec : ChangeSpec := { name := "fnExactTypeValid", fn := fun _ => fun
  | [d] => { results := [.lit (.bool true)], args := [d] }
  | _ => none }
def fnExactTypeValidRow : OpenClaim := { program := "ytnfcabhondmhpaa", sum := "f13090c12c2d85a7a04059fe78cb7752cb9be695f274a7d94e0bc4ce8b2ef282", func := "loop.example/innocentgames/laws.FnExactTypeValid", spec := "fnExactTypeValid", recurses := true, apart := false }
def FnExactTypeValidSaid : Prop := fnExactTypeValidRow.holds Try.pinned (OpenSpec.ofChange fnExactTypeValidSpec)

/-- ITS FALSE NEIGHBOUR: 'it returns false'. Refute it at one input. -/
def fnExactTypeValidWrong : ChangeSpec := { name := "fnExactTypeValid", fn := fun _ => fun
  | [d] => { results := [.lit (.bool false)], args := [d] }
  | _ => none }
def FnExactTypeValidWrongFalsely : Prop := fnExactTypeValidRow.holds Try.pinned (OpenSpec.ofChange fnExactTypeValidWrong)

/-- 'laws.FnExactTypeOrder': WHATEVER THE INPUT: true; the input reads as it did. -/
def fnExactTypeOrderSpec : ChangeSpec := { name := "fnExactTypeOrder", fn := fun _ => fun
  | [d] => { results := [.lit (.bool true)], args := [d] }
  | _ => none }
def fnExactTypeOrderRow : OpenClaim := { program := "ytnfcabhondmhpaa", sum := "f13090c12c2d85a7a04059fe78cb7752cb9be695f274a7d94e0bc4ce8b2ef282", func := "loop.example/innocentgames/laws.FnExactTypeOrder", spec := "fnExactTypeOrder", recurses := true, apart := false }
def FnExactTypeOrderSaid : Prop := fnExactTypeOrderRow.holds Try.pinned (OpenSpec.ofChange fnExactTypeOrderSpec)

/-- ITS FALSE NEIGHBOUR: 'it returns false'. Refute it at one input. -/
def fnExactTypeOrderWrong : ChangeSpec := { name := "fnExactTypeOrder", fn := fun _ => fun
  | [d] => { results := [.lit (.bool false)], args := [d] }
  | _ => none }
def FnExactTypeOrderWrongFalsely : Prop := fnExactTypeOrderRow.holds Try.pinned (OpenSpec.ofChange fnExactTypeOrderWrong)

/-- 'laws.FnExactMoveValid': WHATEVER THE INPUT: true; the input reads as it did. -/
def fnExactMoveValidSpec : ChangeSpec := { name := "fnExactMoveValid", fn := fun _ => fun
  | [d1, d2] => { results := [.lit (.bool true)], args := [d1, d2] }
  | _ => none }
def fnExactMoveValidRow : OpenClaim := { program := "ytnfcabhondmhpaa", sum := "f13090c12c2d85a7a04059fe78cb7752cb9be695f274a7d94e0bc4ce8b2ef282", func := "loop.example/innocentgames/laws.FnExactMoveValid", spec := "fnExactMoveValid", inPlace := ["internal/bytealg.IndexByteString"], recurses := true, apart := false }
def FnExactMoveValidSaid : Prop := fnExactMoveValidRow.holds Try.pinned (OpenSpec.ofChange fnExactMoveValidSpec)

/-- ITS FALSE NEIGHBOUR: 'it returns false'. Refute it at one input. -/
def fnExactMoveValidWrong : ChangeSpec := { name := "fnExactMoveValid", fn := fun _ => fun
  | [d1, d2] => { results := [.lit (.bool false)], args := [d1, d2] }
  | _ => none }
def FnExactMoveValidWrongFalsely : Prop := fnExactMoveValidRow.holds Try.pinned (OpenSpec.ofChange fnExactMoveValidWrong)

/-- 'laws.FnOrder': WHATEVER THE INPUT: true; the input reads as it did. -/
def fnOrderSpec : ChangeSpec := { name := "fnOrder", fn := fun _ => fun
  | [d] => { results := [.lit (.bool true)], args := [d] }
  | _ => none }
def fnOrderRow : OpenClaim := { program := "ytnfcabhondmhpaa", sum := "f13090c12c2d85a7a04059fe78cb7752cb9be695f274a7d94e0bc4ce8b2ef282", func := "loop.example/innocentgames/laws.FnOrder", spec := "fnOrder", recurses := true, apart := false }
def FnOrderSaid : Prop := fnOrderRow.holds Try.pinned (OpenSpec.ofChange fnOrderSpec)

/-- ITS FALSE NEIGHBOUR: 'it returns false'. Refute it at one input. -/
def fnOrderWrong : ChangeSpec := { name := "fnOrder", fn := fun _ => fun
  | [d] => { results := [.lit (.bool false)], args := [d] }
  | _ => none }
def FnOrderWrongFalsely : Prop := fnOrderRow.holds Try.pinned (OpenSpec.ofChange fnOrderWrong)

/-- 'laws.FnExactTypeAt': WHATEVER THE INPUT: true; the input reads as it did. -/
def fnExactTypeAtSpec : ChangeSpec := { name := "fnExactTypeAt", fn := fun _ => fun
  | [d1, d2] => { results := [.lit (.bool true)], args := [d1, d2] }
  | _ => none }
def fnExactTypeAtRow : OpenClaim := { program := "ytnfcabhondmhpaa", sum := "f13090c12c2d85a7a04059fe78cb7752cb9be695f274a7d94e0bc4ce8b2ef282", func := "loop.example/innocentgames/laws.FnExactTypeAt", spec := "fnExactTypeAt", unfollowed := true, recurses := true, apart := false }
def FnExactTypeAtSaid : Prop := fnExactTypeAtRow.holds Try.pinned (OpenSpec.ofChange fnExactTypeAtSpec)

/-- ITS FALSE NEIGHBOUR: 'it returns false'. Refute it at one input. -/
def fnExactTypeAtWrong : ChangeSpec := { name := "fnExactTypeAt", fn := fun _ => fun
  | [d1, d2] => { results := [.lit (.bool false)], args := [d1, d2] }
  | _ => none }
def FnExactTypeAtWrongFalsely : Prop := fnExactTypeAtRow.holds Try.pinned (OpenSpec.ofChange fnExactTypeAtWrong)

/-- 'laws.FnExactMovePlayer': WHATEVER THE INPUT: true; the input reads as it did. -/
def fnExactMovePlayerSpec : ChangeSpec := { name := "fnExactMovePlayer", fn := fun _ => fun
  | [d1, d2] => { results := [.lit (.bool true)], args := [d1, d2] }
  | _ => none }
def fnExactMovePlayerRow : OpenClaim := { program := "ytnfcabhondmhpaa", sum := "f13090c12c2d85a7a04059fe78cb7752cb9be695f274a7d94e0bc4ce8b2ef282", func := "loop.example/innocentgames/laws.FnExactMovePlayer", spec := "fnExactMovePlayer", inPlace := ["internal/bytealg.IndexByteString"], recurses := true, apart := false }
def FnExactMovePlayerSaid : Prop := fnExactMovePlayerRow.holds Try.pinned (OpenSpec.ofChange fnExactMovePlayerSpec)

/-- ITS FALSE NEIGHBOUR: 'it returns false'. Refute it at one input. -/
def fnExactMovePlayerWrong : ChangeSpec := { name := "fnExactMovePlayer", fn := fun _ => fun
  | [d1, d2] => { results := [.lit (.bool false)], args := [d1, d2] }
  | _ => none }
def FnExactMovePlayerWrongFalsely : Prop := fnExactMovePlayerRow.holds Try.pinned (OpenSpec.ofChange fnExactMovePlayerWrong)

/-- 'laws.FnExactMoveEnabler': WHATEVER THE INPUT: true; the input reads as it did. -/
def fnExactMoveEnablerSpec : ChangeSpec := { name := "fnExactMoveEnabler", fn := fun _ => fun
  | [d1, d2] => { results := [.lit (.bool true)], args := [d1, d2] }
  | _ => none }
def fnExactMoveEnablerRow : OpenClaim := { program := "ytnfcabhondmhpaa", sum := "f13090c12c2d85a7a04059fe78cb7752cb9be695f274a7d94e0bc4ce8b2ef282", func := "loop.example/innocentgames/laws.FnExactMoveEnabler", spec := "fnExactMoveEnabler", inPlace := ["internal/bytealg.IndexByteString"], recurses := true, apart := false }
def FnExactMoveEnablerSaid : Prop := fnExactMoveEnablerRow.holds Try.pinned (OpenSpec.ofChange fnExactMoveEnablerSpec)

/-- ITS FALSE NEIGHBOUR: 'it returns false'. Refute it at one input. -/
def fnExactMoveEnablerWrong : ChangeSpec := { name := "fnExactMoveEnabler", fn := fun _ => fun
  | [d1, d2] => { results := [.lit (.bool false)], args := [d1, d2] }
  | _ => none }
def FnExactMoveEnablerWrongFalsely : Prop := fnExactMoveEnablerRow.holds Try.pinned (OpenSpec.ofChange fnExactMoveEnablerWrong)

/-- 'laws.FnExactTypeMake': WHATEVER THE INPUT: true; the input reads as it did. -/
def fnExactTypeMakeSpec : ChangeSpec := { name := "fnExactTypeMake", fn := fun _ => fun
  | [d] => { results := [.lit (.bool true)], args := [d] }
  | _ => none }
def fnExactTypeMakeRow : OpenClaim := { program := "ytnfcabhondmhpaa", sum := "f13090c12c2d85a7a04059fe78cb7752cb9be695f274a7d94e0bc4ce8b2ef282", func := "loop.example/innocentgames/laws.FnExactTypeMake", spec := "fnExactTypeMake", unfollowed := true, recurses := true, apart := false }
def FnExactTypeMakeSaid : Prop := fnExactTypeMakeRow.holds Try.pinned (OpenSpec.ofChange fnExactTypeMakeSpec)

/-- ITS FALSE NEIGHBOUR: 'it returns false'. Refute it at one input. -/
def fnExactTypeMakeWrong : ChangeSpec := { name := "fnExactTypeMake", fn := fun _ => fun
  | [d] => { results := [.lit (.bool false)], args := [d] }
  | _ => none }
def FnExactTypeMakeWrongFalsely : Prop := fnExactTypeMakeRow.holds Try.pinned (OpenSpec.ofChange fnExactTypeMakeWrong)

/-- 'laws.FnExactTypeArgs': WHATEVER THE INPUT: true; the input reads as it did. -/
def fnExactTypeArgsSpec : ChangeSpec := { name := "fnExactTypeArgs", fn := fun _ => fun
  | [d] => { results := [.lit (.bool true)], args := [d] }
  | _ => none }
def fnExactTypeArgsRow : OpenClaim := { program := "ytnfcabhondmhpaa", sum := "f13090c12c2d85a7a04059fe78cb7752cb9be695f274a7d94e0bc4ce8b2ef282", func := "loop.example/innocentgames/laws.FnExactTypeArgs", spec := "fnExactTypeArgs", unfollowed := true, recurses := true, apart := false }
def FnExactTypeArgsSaid : Prop := fnExactTypeArgsRow.holds Try.pinned (OpenSpec.ofChange fnExactTypeArgsSpec)

/-- ITS FALSE NEIGHBOUR: 'it returns false'. Refute it at one input. -/
def fnExactTypeArgsWrong : ChangeSpec := { name := "fnExactTypeArgs", fn := fun _ => fun
  | [d] => { results := [.lit (.bool false)], args := [d] }
  | _ => none }
def FnExactTypeArgsWrongFalsely : Prop := fnExactTypeArgsRow.holds Try.pinned (OpenSpec.ofChange fnExactTypeArgsWrong)

/-- 'laws.FnType': WHATEVER THE INPUT: true; the input reads as it did. -/
def fnTypeSpec : ChangeSpec := { name := "fnType", fn := fun _ => fun
  | [d] => { results := [.lit (.bool true)], args := [d] }
  | _ => none }
def fnTypeRow : OpenClaim := { program := "ytnfcabhondmhpaa", sum := "f13090c12c2d85a7a04059fe78cb7752cb9be695f274a7d94e0bc4ce8b2ef282", func := "loop.example/innocentgames/laws.FnType", spec := "fnType", unfollowed := true, recurses := true, apart := false }
def FnTypeSaid : Prop := fnTypeRow.holds Try.pinned (OpenSpec.ofChange fnTypeSpec)

/-- ITS FALSE NEIGHBOUR: 'it returns false'. Refute it at one input. -/
def fnTypeWrong : ChangeSpec := { name := "fnType", fn := fun _ => fun
  | [d] => { results := [.lit (.bool false)], args := [d] }
  | _ => none }
def FnTypeWrongFalsely : Prop := fnTypeRow.holds Try.pinned (OpenSpec.ofChange fnTypeWrong)

/-- 'laws.FnArgs': WHATEVER THE INPUT: true; the input reads as it did. -/
def fnArgsSpec : ChangeSpec := { name := "fnArgs", fn := fun _ => fun
  | [d] => { results := [.lit (.bool true)], args := [d] }
  | _ => none }
def fnArgsRow : OpenClaim := { program := "ytnfcabhondmhpaa", sum := "f13090c12c2d85a7a04059fe78cb7752cb9be695f274a7d94e0bc4ce8b2ef282", func := "loop.example/innocentgames/laws.FnArgs", spec := "fnArgs", unfollowed := true, recurses := true, apart := false }
def FnArgsSaid : Prop := fnArgsRow.holds Try.pinned (OpenSpec.ofChange fnArgsSpec)

/-- ITS FALSE NEIGHBOUR: 'it returns false'. Refute it at one input. -/
def fnArgsWrong : ChangeSpec := { name := "fnArgs", fn := fun _ => fun
  | [d] => { results := [.lit (.bool false)], args := [d] }
  | _ => none }
def FnArgsWrongFalsely : Prop := fnArgsRow.holds Try.pinned (OpenSpec.ofChange fnArgsWrong)

/- THE SECOND FORM. 'bulk': how many values and letters a reading holds, each counted each time it is reached (what is shared counts as often as it is met; a slice's spare places count too). A statement '..UptoSaid' is the law's where the arguments, and the package variables that the reading takes, are together of bulk at most 1048576: NARROWER than '..Said'. Prove '..Said' where nothing that the law and all that it calls make is longer than what came in: it says more and counts as full. Else prove '..UptoSaid'. A law counts once. -/
mutual
def uptoBulk {H : Type} : DataW H → Nat
  | .lit (.string bytes) => bytes.length + 1
  | .lit _ => 1
  | .nil => 1
  | .ptr d => uptoBulk d + 1
  | .slice elems spare => uptoBulkAll elems + uptoBulkAll spare + 1
  | .agg parts => uptoBulkAll parts + 1
  | .iface _ d => uptoBulk d + 1
  | .map entries => uptoBulkEntries entries + 1
  | .held _ => 1
def uptoBulkAll {H : Type} : List (DataW H) → Nat
  | [] => 0
  | d :: r => uptoBulk d + uptoBulkAll r
def uptoBulkEntries {H : Type} : List (Lit × DataW H) → Nat
  | [] => 0
  | x :: r => uptoBulkEntry x + uptoBulkEntries r
def uptoBulkEntry {H : Type} : Lit × DataW H → Nat
  | (.string bytes, d) => bytes.length + uptoBulk d + 1
  | (_, d) => uptoBulk d + 1
 end
def uptoSmall : (H : Type) → List (DataW H) → Bool := fun _ ds => decide (uptoBulkAll ds ≤ 1048576)
def OpenSpec.upto (s : _root_.Go.ChangeSpec) : _root_.Go.OpenSpec := { _root_.Go.OpenSpec.ofChange s with cond := some uptoSmall }

/-- 'laws.FnExactConstants', WHERE WHAT IT READS IS OF BULK AT MOST 1048576: true; the input reads as it did. -/
def fnExactConstantsUptoRow : OpenClaim := { program := "ytnfcabhondmhpaa", sum := "f13090c12c2d85a7a04059fe78cb7752cb9be695f274a7d94e0bc4ce8b2ef282", func := "loop.example/innocentgames/laws.FnExactConstants", spec := "fnExactConstants", apart := false, narrowed := true }
def FnExactConstantsUptoSaid : Prop := fnExactConstantsUptoRow.holds Try.pinned (OpenSpec.upto fnExactConstantsSpec)

/-- 'laws.FnExactTypeValid', WHERE WHAT IT READS IS OF BULK AT MOST 1048576: true; the input reads as it did. -/
def fnExactTypeValidUptoRow : OpenClaim := { program := "ytnfcabhondmhpaa", sum := "f13090c12c2d85a7a04059fe78cb7752cb9be695f274a7d94e0bc4ce8b2ef282", func := "loop.example/innocentgames/laws.FnExactTypeValid", spec := "fnExactTypeValid", recurses := true, apart := false, narrowed := true }
def FnExactTypeValidUptoSaid : Prop := fnExactTypeValidUptoRow.holds Try.pinned (OpenSpec.upto fnExactTypeValidSpec)

/-- 'laws.FnExactTypeOrder', WHERE WHAT IT READS IS OF BULK AT MOST 1048576: true; the input reads as it did. -/
def fnExactTypeOrderUptoRow : OpenClaim := { program := "ytnfcabhondmhpaa", sum := "f13090c12c2d85a7a04059fe78cb7752cb9be695f274a7d94e0bc4ce8b2ef282", func := "loop.example/innocentgames/laws.FnExactTypeOrder", spec := "fnExactTypeOrder", recurses := true, apart := false, narrowed := true }
def FnExactTypeOrderUptoSaid : Prop := fnExactTypeOrderUptoRow.holds Try.pinned (OpenSpec.upto fnExactTypeOrderSpec)

/-- 'laws.FnExactMoveValid', WHERE WHAT IT READS IS OF BULK AT MOST 1048576: true; the input reads as it did. -/
def fnExactMoveValidUptoRow : OpenClaim := { program := "ytnfcabhondmhpaa", sum := "f13090c12c2d85a7a04059fe78cb7752cb9be695f274a7d94e0bc4ce8b2ef282", func := "loop.example/innocentgames/laws.FnExactMoveValid", spec := "fnExactMoveValid", inPlace := ["internal/bytealg.IndexByteString"], recurses := true, apart := false, narrowed := true }
def FnExactMoveValidUptoSaid : Prop := fnExactMoveValidUptoRow.holds Try.pinned (OpenSpec.upto fnExactMoveValidSpec)

/-- 'laws.FnOrder', WHERE WHAT IT READS IS OF BULK AT MOST 1048576: true; the input reads as it did. -/
def fnOrderUptoRow : OpenClaim := { program := "ytnfcabhondmhpaa", sum := "f13090c12c2d85a7a04059fe78cb7752cb9be695f274a7d94e0bc4ce8b2ef282", func := "loop.example/innocentgames/laws.FnOrder", spec := "fnOrder", recurses := true, apart := false, narrowed := true }
def FnOrderUptoSaid : Prop := fnOrderUptoRow.holds Try.pinned (OpenSpec.upto fnOrderSpec)

/-- 'laws.FnExactTypeAt', WHERE WHAT IT READS IS OF BULK AT MOST 1048576: true; the input reads as it did. -/
def fnExactTypeAtUptoRow : OpenClaim := { program := "ytnfcabhondmhpaa", sum := "f13090c12c2d85a7a04059fe78cb7752cb9be695f274a7d94e0bc4ce8b2ef282", func := "loop.example/innocentgames/laws.FnExactTypeAt", spec := "fnExactTypeAt", unfollowed := true, recurses := true, apart := false, narrowed := true }
def FnExactTypeAtUptoSaid : Prop := fnExactTypeAtUptoRow.holds Try.pinned (OpenSpec.upto fnExactTypeAtSpec)

/-- 'laws.FnExactMovePlayer', WHERE WHAT IT READS IS OF BULK AT MOST 1048576: true; the input reads as it did. -/
def fnExactMovePlayerUptoRow : OpenClaim := { program := "ytnfcabhondmhpaa", sum := "f13090c12c2d85a7a04059fe78cb7752cb9be695f274a7d94e0bc4ce8b2ef282", func := "loop.example/innocentgames/laws.FnExactMovePlayer", spec := "fnExactMovePlayer", inPlace := ["internal/bytealg.IndexByteString"], recurses := true, apart := false, narrowed := true }
def FnExactMovePlayerUptoSaid : Prop := fnExactMovePlayerUptoRow.holds Try.pinned (OpenSpec.upto fnExactMovePlayerSpec)

/-- 'laws.FnExactMoveEnabler', WHERE WHAT IT READS IS OF BULK AT MOST 1048576: true; the input reads as it did. -/
def fnExactMoveEnablerUptoRow : OpenClaim := { program := "ytnfcabhondmhpaa", sum := "f13090c12c2d85a7a04059fe78cb7752cb9be695f274a7d94e0bc4ce8b2ef282", func := "loop.example/innocentgames/laws.FnExactMoveEnabler", spec := "fnExactMoveEnabler", inPlace := ["internal/bytealg.IndexByteString"], recurses := true, apart := false, narrowed := true }
def FnExactMoveEnablerUptoSaid : Prop := fnExactMoveEnablerUptoRow.holds Try.pinned (OpenSpec.upto fnExactMoveEnablerSpec)

/-- 'laws.FnExactTypeMake', WHERE WHAT IT READS IS OF BULK AT MOST 1048576: true; the input reads as it did. -/
def fnExactTypeMakeUptoRow : OpenClaim := { program := "ytnfcabhondmhpaa", sum := "f13090c12c2d85a7a04059fe78cb7752cb9be695f274a7d94e0bc4ce8b2ef282", func := "loop.example/innocentgames/laws.FnExactTypeMake", spec := "fnExactTypeMake", unfollowed := true, recurses := true, apart := false, narrowed := true }
def FnExactTypeMakeUptoSaid : Prop := fnExactTypeMakeUptoRow.holds Try.pinned (OpenSpec.upto fnExactTypeMakeSpec)

/-- 'laws.FnExactTypeArgs', WHERE WHAT IT READS IS OF BULK AT MOST 1048576: true; the input reads as it did. -/
def fnExactTypeArgsUptoRow : OpenClaim := { program := "ytnfcabhondmhpaa", sum := "f13090c12c2d85a7a04059fe78cb7752cb9be695f274a7d94e0bc4ce8b2ef282", func := "loop.example/innocentgames/laws.FnExactTypeArgs", spec := "fnExactTypeArgs", unfollowed := true, recurses := true, apart := false, narrowed := true }
def FnExactTypeArgsUptoSaid : Prop := fnExactTypeArgsUptoRow.holds Try.pinned (OpenSpec.upto fnExactTypeArgsSpec)

/-- 'laws.FnType', WHERE WHAT IT READS IS OF BULK AT MOST 1048576: true; the input reads as it did. -/
def fnTypeUptoRow : OpenClaim := { program := "ytnfcabhondmhpaa", sum := "f13090c12c2d85a7a04059fe78cb7752cb9be695f274a7d94e0bc4ce8b2ef282", func := "loop.example/innocentgames/laws.FnType", spec := "fnType", unfollowed := true, recurses := true, apart := false, narrowed := true }
def FnTypeUptoSaid : Prop := fnTypeUptoRow.holds Try.pinned (OpenSpec.upto fnTypeSpec)

/-- 'laws.FnArgs', WHERE WHAT IT READS IS OF BULK AT MOST 1048576: true; the input reads as it did. -/
def fnArgsUptoRow : OpenClaim := { program := "ytnfcabhondmhpaa", sum := "f13090c12c2d85a7a04059fe78cb7752cb9be695f274a7d94e0bc4ce8b2ef282", func := "loop.example/innocentgames/laws.FnArgs", spec := "fnArgs", unfollowed := true, recurses := true, apart := false, narrowed := true }
def FnArgsUptoSaid : Prop := fnArgsUptoRow.holds Try.pinned (OpenSpec.upto fnArgsSpec)

end Rows
end Go.Proofs.Ytnfcabhondmhpaa
