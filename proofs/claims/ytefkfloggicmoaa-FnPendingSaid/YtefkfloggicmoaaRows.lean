/-
  No cell of these rows narrows 'for every input' (looked for: loops, veiled, ifaces, maps, wideKeys, modest, calm, conditions, laid).
  DERIVED. THE GIVEN ROWS OF THIS SEAT. 10 by the template 'for every input the law returns true; each argument reads behind the call as it read before'; 0 by the template 'total and deterministic' (their statements: YtefkfloggicmoaaTotals.lean).
  GIVEN WITH THE SEED: the statements are not yours to turn. If you find one false, say at which input.
  Laid BY PROGRAM, IN A SANDBOX (cutbox-rows.mjs): the forced cells as the released guide's own fill.sh prints them over the translation 9c99ee5339bc0623… (all of the seat's roots in one cut). By AI agents, Wed Nov 11 2026. No macro, syntax, notation, axiom, sorry.
-/
import Derived.Test.YtefkfloggicmoaaChecked
import GoSem.Claim
import GoSem.ClaimJoined
import GoSem.ClaimMapViews
import Derived.JoinedTies
import Derived.KernelRfl
namespace Go.Proofs.Ytefkfloggicmoaa
/- THE CELL 'sum', in the pinned program and in every row, IS THE sha256 OF THE DUMP (.gsa) THAT YtefkfloggicmoaaProg.lean LOADS. Nothing in Lean hashes anything: it is a label: what it is worth is what the hold of that sum in a sandbox is worth. -/
noncomputable def Try.pinned : Pinned := { name := "ytefkfloggicmoaa", sum := "9c99ee5339bc062332a15b13d36dae331e70c81727a36b3b9d8dde645ea3efb9", checked := Try.checked }
namespace Rows
def none {H : Type} : Left H := { results := [], args := [] }

/-- 'laws.FnExactPlayValid': WHATEVER THE INPUT: true; the input reads as it did. -/
def fnExactPlayValidSpec : ChangeSpec := { name := "fnExactPlayValid", fn := fun _ => fun
  | [d1, d2] => { results := [.lit (.bool true)], args := [d1, d2] }
  | _ => none }
def fnExactPlayValidRow : OpenClaim := { program := "ytefkfloggicmoaa", sum := "9c99ee5339bc062332a15b13d36dae331e70c81727a36b3b9d8dde645ea3efb9", func := "loop.example/innocentgames/laws.FnExactPlayValid", spec := "fnExactPlayValid", inPlace := ["internal/bytealg.IndexByteString"], recurses := true, apart := false }
def FnExactPlayValidSaid : Prop := fnExactPlayValidRow.holds Try.pinned (OpenSpec.ofChange fnExactPlayValidSpec)

/-- ITS FALSE NEIGHBOUR: 'it returns false'. Refute it at one input. -/
def fnExactPlayValidWrong : ChangeSpec := { name := "fnExactPlayValid", fn := fun _ => fun
  | [d1, d2] => { results := [.lit (.bool false)], args := [d1, d2] }
  | _ => none }
def FnExactPlayValidWrongFalsely : Prop := fnExactPlayValidRow.holds Try.pinned (OpenSpec.ofChange fnExactPlayValidWrong)

/-- 'laws.FnExactPlayPending': WHATEVER THE INPUT: true; the input reads as it did. -/
def fnExactPlayPendingSpec : ChangeSpec := { name := "fnExactPlayPending", fn := fun _ => fun
  | [d1, d2] => { results := [.lit (.bool true)], args := [d1, d2] }
  | _ => none }
def fnExactPlayPendingRow : OpenClaim := { program := "ytefkfloggicmoaa", sum := "9c99ee5339bc062332a15b13d36dae331e70c81727a36b3b9d8dde645ea3efb9", func := "loop.example/innocentgames/laws.FnExactPlayPending", spec := "fnExactPlayPending", inPlace := ["internal/bytealg.IndexByteString"], recurses := true, apart := false }
def FnExactPlayPendingSaid : Prop := fnExactPlayPendingRow.holds Try.pinned (OpenSpec.ofChange fnExactPlayPendingSpec)

/-- ITS FALSE NEIGHBOUR: 'it returns false'. Refute it at one input. -/
def fnExactPlayPendingWrong : ChangeSpec := { name := "fnExactPlayPending", fn := fun _ => fun
  | [d1, d2] => { results := [.lit (.bool false)], args := [d1, d2] }
  | _ => none }
def FnExactPlayPendingWrongFalsely : Prop := fnExactPlayPendingRow.holds Try.pinned (OpenSpec.ofChange fnExactPlayPendingWrong)

/-- 'laws.FnExactPlayBracketed': WHATEVER THE INPUT: true; the input reads as it did. -/
def fnExactPlayBracketedSpec : ChangeSpec := { name := "fnExactPlayBracketed", fn := fun _ => fun
  | [d1, d2] => { results := [.lit (.bool true)], args := [d1, d2] }
  | _ => none }
def fnExactPlayBracketedRow : OpenClaim := { program := "ytefkfloggicmoaa", sum := "9c99ee5339bc062332a15b13d36dae331e70c81727a36b3b9d8dde645ea3efb9", func := "loop.example/innocentgames/laws.FnExactPlayBracketed", spec := "fnExactPlayBracketed", inPlace := ["internal/bytealg.IndexByteString"], recurses := true, apart := false }
def FnExactPlayBracketedSaid : Prop := fnExactPlayBracketedRow.holds Try.pinned (OpenSpec.ofChange fnExactPlayBracketedSpec)

/-- ITS FALSE NEIGHBOUR: 'it returns false'. Refute it at one input. -/
def fnExactPlayBracketedWrong : ChangeSpec := { name := "fnExactPlayBracketed", fn := fun _ => fun
  | [d1, d2] => { results := [.lit (.bool false)], args := [d1, d2] }
  | _ => none }
def FnExactPlayBracketedWrongFalsely : Prop := fnExactPlayBracketedRow.holds Try.pinned (OpenSpec.ofChange fnExactPlayBracketedWrong)

/-- 'laws.FnExactPlayVisible': WHATEVER THE INPUT: true; the input reads as it did. -/
def fnExactPlayVisibleSpec : ChangeSpec := { name := "fnExactPlayVisible", fn := fun _ => fun
  | [d1, d2] => { results := [.lit (.bool true)], args := [d1, d2] }
  | _ => none }
def fnExactPlayVisibleRow : OpenClaim := { program := "ytefkfloggicmoaa", sum := "9c99ee5339bc062332a15b13d36dae331e70c81727a36b3b9d8dde645ea3efb9", func := "loop.example/innocentgames/laws.FnExactPlayVisible", spec := "fnExactPlayVisible", inPlace := ["internal/bytealg.IndexByteString"], recurses := true, apart := false }
def FnExactPlayVisibleSaid : Prop := fnExactPlayVisibleRow.holds Try.pinned (OpenSpec.ofChange fnExactPlayVisibleSpec)

/-- ITS FALSE NEIGHBOUR: 'it returns false'. Refute it at one input. -/
def fnExactPlayVisibleWrong : ChangeSpec := { name := "fnExactPlayVisible", fn := fun _ => fun
  | [d1, d2] => { results := [.lit (.bool false)], args := [d1, d2] }
  | _ => none }
def FnExactPlayVisibleWrongFalsely : Prop := fnExactPlayVisibleRow.holds Try.pinned (OpenSpec.ofChange fnExactPlayVisibleWrong)

/-- 'laws.FnExactViewO': WHATEVER THE INPUT: true; the input reads as it did. -/
def fnExactViewOSpec : ChangeSpec := { name := "fnExactViewO", fn := fun _ => fun
  | [d1, d2] => { results := [.lit (.bool true)], args := [d1, d2] }
  | _ => none }
def fnExactViewORow : OpenClaim := { program := "ytefkfloggicmoaa", sum := "9c99ee5339bc062332a15b13d36dae331e70c81727a36b3b9d8dde645ea3efb9", func := "loop.example/innocentgames/laws.FnExactViewO", spec := "fnExactViewO", inPlace := ["internal/bytealg.IndexByteString"], recurses := true, apart := false }
def FnExactViewOSaid : Prop := fnExactViewORow.holds Try.pinned (OpenSpec.ofChange fnExactViewOSpec)

/-- ITS FALSE NEIGHBOUR: 'it returns false'. Refute it at one input. -/
def fnExactViewOWrong : ChangeSpec := { name := "fnExactViewO", fn := fun _ => fun
  | [d1, d2] => { results := [.lit (.bool false)], args := [d1, d2] }
  | _ => none }
def FnExactViewOWrongFalsely : Prop := fnExactViewORow.holds Try.pinned (OpenSpec.ofChange fnExactViewOWrong)

/-- 'laws.FnExactViewP': WHATEVER THE INPUT: true; the input reads as it did. -/
def fnExactViewPSpec : ChangeSpec := { name := "fnExactViewP", fn := fun _ => fun
  | [d1, d2] => { results := [.lit (.bool true)], args := [d1, d2] }
  | _ => none }
def fnExactViewPRow : OpenClaim := { program := "ytefkfloggicmoaa", sum := "9c99ee5339bc062332a15b13d36dae331e70c81727a36b3b9d8dde645ea3efb9", func := "loop.example/innocentgames/laws.FnExactViewP", spec := "fnExactViewP", inPlace := ["internal/bytealg.IndexByteString"], recurses := true, apart := false }
def FnExactViewPSaid : Prop := fnExactViewPRow.holds Try.pinned (OpenSpec.ofChange fnExactViewPSpec)

/-- ITS FALSE NEIGHBOUR: 'it returns false'. Refute it at one input. -/
def fnExactViewPWrong : ChangeSpec := { name := "fnExactViewP", fn := fun _ => fun
  | [d1, d2] => { results := [.lit (.bool false)], args := [d1, d2] }
  | _ => none }
def FnExactViewPWrongFalsely : Prop := fnExactViewPRow.holds Try.pinned (OpenSpec.ofChange fnExactViewPWrong)

/-- 'laws.FnExactPlayLegal': WHATEVER THE INPUT: true; the input reads as it did. -/
def fnExactPlayLegalSpec : ChangeSpec := { name := "fnExactPlayLegal", fn := fun _ => fun
  | [d1, d2] => { results := [.lit (.bool true)], args := [d1, d2] }
  | _ => none }
def fnExactPlayLegalRow : OpenClaim := { program := "ytefkfloggicmoaa", sum := "9c99ee5339bc062332a15b13d36dae331e70c81727a36b3b9d8dde645ea3efb9", func := "loop.example/innocentgames/laws.FnExactPlayLegal", spec := "fnExactPlayLegal", inPlace := ["internal/bytealg.IndexByteString"], recurses := true, apart := false }
def FnExactPlayLegalSaid : Prop := fnExactPlayLegalRow.holds Try.pinned (OpenSpec.ofChange fnExactPlayLegalSpec)

/-- ITS FALSE NEIGHBOUR: 'it returns false'. Refute it at one input. -/
def fnExactPlayLegalWrong : ChangeSpec := { name := "fnExactPlayLegal", fn := fun _ => fun
  | [d1, d2] => { results := [.lit (.bool false)], args := [d1, d2] }
  | _ => none }
def FnExactPlayLegalWrongFalsely : Prop := fnExactPlayLegalRow.holds Try.pinned (OpenSpec.ofChange fnExactPlayLegalWrong)

/-- 'laws.FnExactPlayPart': WHATEVER THE INPUT: true; the input reads as it did. -/
def fnExactPlayPartSpec : ChangeSpec := { name := "fnExactPlayPart", fn := fun _ => fun
  | [d1, d2] => { results := [.lit (.bool true)], args := [d1, d2] }
  | _ => none }
def fnExactPlayPartRow : OpenClaim := { program := "ytefkfloggicmoaa", sum := "9c99ee5339bc062332a15b13d36dae331e70c81727a36b3b9d8dde645ea3efb9", func := "loop.example/innocentgames/laws.FnExactPlayPart", spec := "fnExactPlayPart", inPlace := ["internal/bytealg.IndexByteString"], recurses := true, apart := false }
def FnExactPlayPartSaid : Prop := fnExactPlayPartRow.holds Try.pinned (OpenSpec.ofChange fnExactPlayPartSpec)

/-- ITS FALSE NEIGHBOUR: 'it returns false'. Refute it at one input. -/
def fnExactPlayPartWrong : ChangeSpec := { name := "fnExactPlayPart", fn := fun _ => fun
  | [d1, d2] => { results := [.lit (.bool false)], args := [d1, d2] }
  | _ => none }
def FnExactPlayPartWrongFalsely : Prop := fnExactPlayPartRow.holds Try.pinned (OpenSpec.ofChange fnExactPlayPartWrong)

/-- 'laws.FnPlay': WHATEVER THE INPUT: true; the input reads as it did. -/
def fnPlaySpec : ChangeSpec := { name := "fnPlay", fn := fun _ => fun
  | [d] => { results := [.lit (.bool true)], args := [d] }
  | _ => none }
def fnPlayRow : OpenClaim := { program := "ytefkfloggicmoaa", sum := "9c99ee5339bc062332a15b13d36dae331e70c81727a36b3b9d8dde645ea3efb9", func := "loop.example/innocentgames/laws.FnPlay", spec := "fnPlay", inPlace := ["internal/bytealg.IndexByteString"], recurses := true, apart := false }
def FnPlaySaid : Prop := fnPlayRow.holds Try.pinned (OpenSpec.ofChange fnPlaySpec)

/-- ITS FALSE NEIGHBOUR: 'it returns false'. Refute it at one input. -/
def fnPlayWrong : ChangeSpec := { name := "fnPlay", fn := fun _ => fun
  | [d] => { results := [.lit (.bool false)], args := [d] }
  | _ => none }
def FnPlayWrongFalsely : Prop := fnPlayRow.holds Try.pinned (OpenSpec.ofChange fnPlayWrong)

/-- 'laws.FnPending': WHATEVER THE INPUT: true; the input reads as it did. -/
def fnPendingSpec : ChangeSpec := { name := "fnPending", fn := fun _ => fun
  | [d] => { results := [.lit (.bool true)], args := [d] }
  | _ => none }
def fnPendingRow : OpenClaim := { program := "ytefkfloggicmoaa", sum := "9c99ee5339bc062332a15b13d36dae331e70c81727a36b3b9d8dde645ea3efb9", func := "loop.example/innocentgames/laws.FnPending", spec := "fnPending", inPlace := ["internal/bytealg.IndexByteString"], recurses := true, apart := false }
def FnPendingSaid : Prop := fnPendingRow.holds Try.pinned (OpenSpec.ofChange fnPendingSpec)

/-- ITS FALSE NEIGHBOUR: 'it returns false'. Refute it at one input. -/
def fnPendingWrong : ChangeSpec := { name := "fnPending", fn := fun _ => fun
  | [d] => { results := [.lit (.bool false)], args := [d] }
  | _ => none }
def FnPendingWrongFalsely : Prop := fnPendingRow.holds Try.pinned (OpenSpec.ofChange fnPendingWrong)

/- THE SECOND FORM. 'bulk': how many values and letters a reading holds, each counted each time it is reached (what is shared counts as often as it is met; a slice's spare places count too). A statement '..UptoSaid' is the law's where the arguments, and the package variables that the reading takes, are together of bulk at most 1048576: NARROWER than '..Said'. Prove '..Said' where nothing that the law and all that it calls make is longer than what came in: it says more and counts as full. Else prove '..UptoSaid'. A law counts once. -/
mutual
def uptoBulk {H : Type} : DataW H → Nat
  | .lit (.string bytes) => bytes.length + 1
  | .lit _ => 1
  | .nil => 1
  | .ptr d => uptoBulk d + 1
  | .slice elems spare => uptoBulkAll elems + uptoBulkAll spare + 1
  | .agg parts => uptoBulkAll parts + 1
  | .iface _ d => uptoBulk d + 1
  | .map entries => uptoBulkEntries entries + 1
  | .held _ => 1
def uptoBulkAll {H : Type} : List (DataW H) → Nat
  | [] => 0
  | d :: r => uptoBulk d + uptoBulkAll r
def uptoBulkEntries {H : Type} : List (Lit × DataW H) → Nat
  | [] => 0
  | x :: r => uptoBulkEntry x + uptoBulkEntries r
def uptoBulkEntry {H : Type} : Lit × DataW H → Nat
  | (.string bytes, d) => bytes.length + uptoBulk d + 1
  | (_, d) => uptoBulk d + 1
 end
def uptoSmall : (H : Type) → List (DataW H) → Bool := fun _ ds => decide (uptoBulkAll ds ≤ 1048576)
def OpenSpec.upto (s : _root_.Go.ChangeSpec) : _root_.Go.OpenSpec := { _root_.Go.OpenSpec.ofChange s with cond := some uptoSmall }

/-- 'laws.FnExactPlayValid', WHERE WHAT IT READS IS OF BULK AT MOST 1048576: true; the input reads as it did. -/
def fnExactPlayValidUptoRow : OpenClaim := { program := "ytefkfloggicmoaa", sum := "9c99ee5339bc062332a15b13d36dae331e70c81727a36b3b9d8dde645ea3efb9", func := "loop.example/innocentgames/laws.FnExactPlayValid", spec := "fnExactPlayValid", inPlace := ["internal/bytealg.IndexByteString"], recurses := true, apart := false, narrowed := true }
def FnExactPlayValidUptoSaid : Prop := fnExactPlayValidUptoRow.holds Try.pinned (OpenSpec.upto fnExactPlayValidSpec)

/-- 'laws.FnExactPlayPending', WHERE WHAT IT READS IS OF BULK AT MOST 1048576: true; the input reads as it did. -/
def fnExactPlayPendingUptoRow : OpenClaim := { program := "ytefkfloggicmoaa", sum := "9c99ee5339bc062332a15b13d36dae331e70c81727a36b3b9d8dde645ea3efb9", func := "loop.example/innocentgames/laws.FnExactPlayPending", spec := "fnExactPlayPending", inPlace := ["internal/bytealg.IndexByteString"], recurses := true, apart := false, narrowed := true }
def FnExactPlayPendingUptoSaid : Prop := fnExactPlayPendingUptoRow.holds Try.pinned (OpenSpec.upto fnExactPlayPendingSpec)

/-- 'laws.FnExactPlayBracketed', WHERE WHAT IT READS IS OF BULK AT MOST 1048576: true; the input reads as it did. -/
def fnExactPlayBracketedUptoRow : OpenClaim := { program := "ytefkfloggicmoaa", sum := "9c99ee5339bc062332a15b13d36dae331e70c81727a36b3b9d8dde645ea3efb9", func := "loop.example/innocentgames/laws.FnExactPlayBracketed", spec := "fnExactPlayBracketed", inPlace := ["internal/bytealg.IndexByteString"], recurses := true, apart := false, narrowed := true }
def FnExactPlayBracketedUptoSaid : Prop := fnExactPlayBracketedUptoRow.holds Try.pinned (OpenSpec.upto fnExactPlayBracketedSpec)

/-- 'laws.FnExactPlayVisible', WHERE WHAT IT READS IS OF BULK AT MOST 1048576: true; the input reads as it did. -/
def fnExactPlayVisibleUptoRow : OpenClaim := { program := "ytefkfloggicmoaa", sum := "9c99ee5339bc062332a15b13d36dae331e70c81727a36b3b9d8dde645ea3efb9", func := "loop.example/innocentgames/laws.FnExactPlayVisible", spec := "fnExactPlayVisible", inPlace := ["internal/bytealg.IndexByteString"], recurses := true, apart := false, narrowed := true }
def FnExactPlayVisibleUptoSaid : Prop := fnExactPlayVisibleUptoRow.holds Try.pinned (OpenSpec.upto fnExactPlayVisibleSpec)

/-- 'laws.FnExactViewO', WHERE WHAT IT READS IS OF BULK AT MOST 1048576: true; the input reads as it did. -/
def fnExactViewOUptoRow : OpenClaim := { program := "ytefkfloggicmoaa", sum := "9c99ee5339bc062332a15b13d36dae331e70c81727a36b3b9d8dde645ea3efb9", func := "loop.example/innocentgames/laws.FnExactViewO", spec := "fnExactViewO", inPlace := ["internal/bytealg.IndexByteString"], recurses := true, apart := false, narrowed := true }
def FnExactViewOUptoSaid : Prop := fnExactViewOUptoRow.holds Try.pinned (OpenSpec.upto fnExactViewOSpec)

/-- 'laws.FnExactViewP', WHERE WHAT IT READS IS OF BULK AT MOST 1048576: true; the input reads as it did. -/
def fnExactViewPUptoRow : OpenClaim := { program := "ytefkfloggicmoaa", sum := "9c99ee5339bc062332a15b13d36dae331e70c81727a36b3b9d8dde645ea3efb9", func := "loop.example/innocentgames/laws.FnExactViewP", spec := "fnExactViewP", inPlace := ["internal/bytealg.IndexByteString"], recurses := true, apart := false, narrowed := true }
def FnExactViewPUptoSaid : Prop := fnExactViewPUptoRow.holds Try.pinned (OpenSpec.upto fnExactViewPSpec)

/-- 'laws.FnExactPlayLegal', WHERE WHAT IT READS IS OF BULK AT MOST 1048576: true; the input reads as it did. -/
def fnExactPlayLegalUptoRow : OpenClaim := { program := "ytefkfloggicmoaa", sum := "9c99ee5339bc062332a15b13d36dae331e70c81727a36b3b9d8dde645ea3efb9", func := "loop.example/innocentgames/laws.FnExactPlayLegal", spec := "fnExactPlayLegal", inPlace := ["internal/bytealg.IndexByteString"], recurses := true, apart := false, narrowed := true }
def FnExactPlayLegalUptoSaid : Prop := fnExactPlayLegalUptoRow.holds Try.pinned (OpenSpec.upto fnExactPlayLegalSpec)

/-- 'laws.FnExactPlayPart', WHERE WHAT IT READS IS OF BULK AT MOST 1048576: true; the input reads as it did. -/
def fnExactPlayPartUptoRow : OpenClaim := { program := "ytefkfloggicmoaa", sum := "9c99ee5339bc062332a15b13d36dae331e70c81727a36b3b9d8dde645ea3efb9", func := "loop.example/innocentgames/laws.FnExactPlayPart", spec := "fnExactPlayPart", inPlace := ["internal/bytealg.IndexByteString"], recurses := true, apart := false, narrowed := true }
def FnExactPlayPartUptoSaid : Prop := fnExactPlayPartUptoRow.holds Try.pinned (OpenSpec.upto fnExactPlayPartSpec)

/-- 'laws.FnPlay', WHERE WHAT IT READS IS OF BULK AT MOST 1048576: true; the input reads as it did. -/
def fnPlayUptoRow : OpenClaim := { program := "ytefkfloggicmoaa", sum := "9c99ee5339bc062332a15b13d36dae331e70c81727a36b3b9d8dde645ea3efb9", func := "loop.example/innocentgames/laws.FnPlay", spec := "fnPlay", inPlace := ["internal/bytealg.IndexByteString"], recurses := true, apart := false, narrowed := true }
def FnPlayUptoSaid : Prop := fnPlayUptoRow.holds Try.pinned (OpenSpec.upto fnPlaySpec)

/-- 'laws.FnPending', WHERE WHAT IT READS IS OF BULK AT MOST 1048576: true; the input reads as it did. -/
def fnPendingUptoRow : OpenClaim := { program := "ytefkfloggicmoaa", sum := "9c99ee5339bc062332a15b13d36dae331e70c81727a36b3b9d8dde645ea3efb9", func := "loop.example/innocentgames/laws.FnPending", spec := "fnPending", inPlace := ["internal/bytealg.IndexByteString"], recurses := true, apart := false, narrowed := true }
def FnPendingUptoSaid : Prop := fnPendingUptoRow.holds Try.pinned (OpenSpec.upto fnPendingSpec)

end Rows
end Go.Proofs.Ytefkfloggicmoaa
