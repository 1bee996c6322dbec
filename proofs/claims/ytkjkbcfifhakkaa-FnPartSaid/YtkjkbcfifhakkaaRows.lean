/-
  No cell of these rows narrows 'for every input' (looked for: loops, veiled, ifaces, maps, wideKeys, modest, calm, conditions, laid).
  DERIVED. THE GIVEN ROWS OF THIS SEAT. 5 by the template 'for every input the law returns true; each argument reads behind the call as it read before'; 0 by the template 'total and deterministic' (their statements: YtkjkbcfifhakkaaTotals.lean).
  GIVEN WITH THE SEED: the statements are not yours to turn. If you find one false, say at which input.
  Laid BY PROGRAM, IN A SANDBOX (cutbox-rows.mjs): the forced cells as the released guide's own fill.sh prints them over the translation 79aae8f5e13d978e… (all of the seat's roots in one cut). By AI agents, Wed Nov 11 2026. No macro, syntax, notation, axiom, sorry.
-/
import Derived.Test.YtkjkbcfifhakkaaChecked
import GoSem.Claim
import GoSem.ClaimJoined
import GoSem.ClaimMapViews
import Derived.JoinedTies
import Derived.KernelRfl
namespace Go.Proofs.Ytkjkbcfifhakkaa
/- THE CELL 'sum', in the pinned program and in every row, IS THE sha256 OF THE DUMP (.gsa) THAT YtkjkbcfifhakkaaProg.lean LOADS. Nothing in Lean hashes anything: it is a label: what it is worth is what the hold of that sum in a sandbox is worth. -/
noncomputable def Try.pinned : Pinned := { name := "ytkjkbcfifhakkaa", sum := "79aae8f5e13d978ecf83fe84db40ce7c471ef9e3e93ec596beda8f3c19f0303a", checked := Try.checked }
namespace Rows
def none {H : Type} : Left H := { results := [], args := [] }

/-- 'laws.FnBracketed': WHATEVER THE INPUT: true; the input reads as it did. -/
def fnBracketedSpec : ChangeSpec := { name := "fnBracketed", fn := fun _ => fun
  | [d] => { results := [.lit (.bool true)], args := [d] }
  | _ => none }
def fnBracketedRow : OpenClaim := { program := "ytkjkbcfifhakkaa", sum := "79aae8f5e13d978ecf83fe84db40ce7c471ef9e3e93ec596beda8f3c19f0303a", func := "loop.example/innocentgames/laws.FnBracketed", spec := "fnBracketed", inPlace := ["internal/bytealg.IndexByteString"], recurses := true, apart := false }
def FnBracketedSaid : Prop := fnBracketedRow.holds Try.pinned (OpenSpec.ofChange fnBracketedSpec)

/-- ITS FALSE NEIGHBOUR: 'it returns false'. Refute it at one input. -/
def fnBracketedWrong : ChangeSpec := { name := "fnBracketed", fn := fun _ => fun
  | [d] => { results := [.lit (.bool false)], args := [d] }
  | _ => none }
def FnBracketedWrongFalsely : Prop := fnBracketedRow.holds Try.pinned (OpenSpec.ofChange fnBracketedWrong)

/-- 'laws.FnViewO': WHATEVER THE INPUT: true; the input reads as it did. -/
def fnViewOSpec : ChangeSpec := { name := "fnViewO", fn := fun _ => fun
  | [d] => { results := [.lit (.bool true)], args := [d] }
  | _ => none }
def fnViewORow : OpenClaim := { program := "ytkjkbcfifhakkaa", sum := "79aae8f5e13d978ecf83fe84db40ce7c471ef9e3e93ec596beda8f3c19f0303a", func := "loop.example/innocentgames/laws.FnViewO", spec := "fnViewO", inPlace := ["internal/bytealg.IndexByteString"], recurses := true, apart := false }
def FnViewOSaid : Prop := fnViewORow.holds Try.pinned (OpenSpec.ofChange fnViewOSpec)

/-- ITS FALSE NEIGHBOUR: 'it returns false'. Refute it at one input. -/
def fnViewOWrong : ChangeSpec := { name := "fnViewO", fn := fun _ => fun
  | [d] => { results := [.lit (.bool false)], args := [d] }
  | _ => none }
def FnViewOWrongFalsely : Prop := fnViewORow.holds Try.pinned (OpenSpec.ofChange fnViewOWrong)

/-- 'laws.FnViewP': WHATEVER THE INPUT: true; the input reads as it did. -/
def fnViewPSpec : ChangeSpec := { name := "fnViewP", fn := fun _ => fun
  | [d] => { results := [.lit (.bool true)], args := [d] }
  | _ => none }
def fnViewPRow : OpenClaim := { program := "ytkjkbcfifhakkaa", sum := "79aae8f5e13d978ecf83fe84db40ce7c471ef9e3e93ec596beda8f3c19f0303a", func := "loop.example/innocentgames/laws.FnViewP", spec := "fnViewP", inPlace := ["internal/bytealg.IndexByteString"], recurses := true, apart := false }
def FnViewPSaid : Prop := fnViewPRow.holds Try.pinned (OpenSpec.ofChange fnViewPSpec)

/-- ITS FALSE NEIGHBOUR: 'it returns false'. Refute it at one input. -/
def fnViewPWrong : ChangeSpec := { name := "fnViewP", fn := fun _ => fun
  | [d] => { results := [.lit (.bool false)], args := [d] }
  | _ => none }
def FnViewPWrongFalsely : Prop := fnViewPRow.holds Try.pinned (OpenSpec.ofChange fnViewPWrong)

/-- 'laws.FnVisible': WHATEVER THE INPUT: true; the input reads as it did. -/
def fnVisibleSpec : ChangeSpec := { name := "fnVisible", fn := fun _ => fun
  | [d] => { results := [.lit (.bool true)], args := [d] }
  | _ => none }
def fnVisibleRow : OpenClaim := { program := "ytkjkbcfifhakkaa", sum := "79aae8f5e13d978ecf83fe84db40ce7c471ef9e3e93ec596beda8f3c19f0303a", func := "loop.example/innocentgames/laws.FnVisible", spec := "fnVisible", inPlace := ["internal/bytealg.IndexByteString"], recurses := true, apart := false }
def FnVisibleSaid : Prop := fnVisibleRow.holds Try.pinned (OpenSpec.ofChange fnVisibleSpec)

/-- ITS FALSE NEIGHBOUR: 'it returns false'. Refute it at one input. -/
def fnVisibleWrong : ChangeSpec := { name := "fnVisible", fn := fun _ => fun
  | [d] => { results := [.lit (.bool false)], args := [d] }
  | _ => none }
def FnVisibleWrongFalsely : Prop := fnVisibleRow.holds Try.pinned (OpenSpec.ofChange fnVisibleWrong)

/-- 'laws.FnPart': WHATEVER THE INPUT: true; the input reads as it did. -/
def fnPartSpec : ChangeSpec := { name := "fnPart", fn := fun _ => fun
  | [d] => { results := [.lit (.bool true)], args := [d] }
  | _ => none }
def fnPartRow : OpenClaim := { program := "ytkjkbcfifhakkaa", sum := "79aae8f5e13d978ecf83fe84db40ce7c471ef9e3e93ec596beda8f3c19f0303a", func := "loop.example/innocentgames/laws.FnPart", spec := "fnPart", inPlace := ["internal/bytealg.IndexByteString"], recurses := true, apart := false }
def FnPartSaid : Prop := fnPartRow.holds Try.pinned (OpenSpec.ofChange fnPartSpec)

/-- ITS FALSE NEIGHBOUR: 'it returns false'. Refute it at one input. -/
def fnPartWrong : ChangeSpec := { name := "fnPart", fn := fun _ => fun
  | [d] => { results := [.lit (.bool false)], args := [d] }
  | _ => none }
def FnPartWrongFalsely : Prop := fnPartRow.holds Try.pinned (OpenSpec.ofChange fnPartWrong)

/- THE SECOND FORM. 'bulk': how many values and letters a reading holds, each counted each time it is reached (what is shared counts as often as it is met; a slice's spare places count too). A statement '..UptoSaid' is the law's where the arguments, and the package variables that the reading takes, are together of bulk at most 1048576: NARROWER than '..Said'. Prove '..Said' where nothing that the law and all that it calls make is longer than what came in: it says more and counts as full. Else prove '..UptoSaid'. A law counts once. -/
mutual
def uptoBulk {H : Type} : DataW H → Nat
  | .lit (.string bytes) => bytes.length + 1
  | .lit _ => 1
  | .nil => 1
  | .ptr d => uptoBulk d + 1
  | .slice elems spare => uptoBulkAll elems + uptoBulkAll spare + 1
  | .agg parts => uptoBulkAll parts + 1
  | .iface _ d => uptoBulk d + 1
  | .map entries => uptoBulkEntries entries + 1
  | .held _ => 1
def uptoBulkAll {H : Type} : List (DataW H) → Nat
  | [] => 0
  | d :: r => uptoBulk d + uptoBulkAll r
def uptoBulkEntries {H : Type} : List (Lit × DataW H) → Nat
  | [] => 0
  | x :: r => uptoBulkEntry x + uptoBulkEntries r
def uptoBulkEntry {H : Type} : Lit × DataW H → Nat
  | (.string bytes, d) => bytes.length + uptoBulk d + 1
  | (_, d) => uptoBulk d + 1
 end
def uptoSmall : (H : Type) → List (DataW H) → Bool := fun _ ds => decide (uptoBulkAll ds ≤ 1048576)
def OpenSpec.upto (s : _root_.Go.ChangeSpec) : _root_.Go.OpenSpec := { _root_.Go.OpenSpec.ofChange s with cond := some uptoSmall }

/-- 'laws.FnBracketed', WHERE WHAT IT READS IS OF BULK AT MOST 1048576: true; the input reads as it did. -/
def fnBracketedUptoRow : OpenClaim := { program := "ytkjkbcfifhakkaa", sum := "79aae8f5e13d978ecf83fe84db40ce7c471ef9e3e93ec596beda8f3c19f0303a", func := "loop.example/innocentgames/laws.FnBracketed", spec := "fnBracketed", inPlace := ["internal/bytealg.IndexByteString"], recurses := true, apart := false, narrowed := true }
def FnBracketedUptoSaid : Prop := fnBracketedUptoRow.holds Try.pinned (OpenSpec.upto fnBracketedSpec)

/-- 'laws.FnViewO', WHERE WHAT IT READS IS OF BULK AT MOST 1048576: true; the input reads as it did. -/
def fnViewOUptoRow : OpenClaim := { program := "ytkjkbcfifhakkaa", sum := "79aae8f5e13d978ecf83fe84db40ce7c471ef9e3e93ec596beda8f3c19f0303a", func := "loop.example/innocentgames/laws.FnViewO", spec := "fnViewO", inPlace := ["internal/bytealg.IndexByteString"], recurses := true, apart := false, narrowed := true }
def FnViewOUptoSaid : Prop := fnViewOUptoRow.holds Try.pinned (OpenSpec.upto fnViewOSpec)

/-- 'laws.FnViewP', WHERE WHAT IT READS IS OF BULK AT MOST 1048576: true; the input reads as it did. -/
def fnViewPUptoRow : OpenClaim := { program := "ytkjkbcfifhakkaa", sum := "79aae8f5e13d978ecf83fe84db40ce7c471ef9e3e93ec596beda8f3c19f0303a", func := "loop.example/innocentgames/laws.FnViewP", spec := "fnViewP", inPlace := ["internal/bytealg.IndexByteString"], recurses := true, apart := false, narrowed := true }
def FnViewPUptoSaid : Prop := fnViewPUptoRow.holds Try.pinned (OpenSpec.upto fnViewPSpec)

/-- 'laws.FnVisible', WHERE WHAT IT READS IS OF BULK AT MOST 1048576: true; the input reads as it did. -/
def fnVisibleUptoRow : OpenClaim := { program := "ytkjkbcfifhakkaa", sum := "79aae8f5e13d978ecf83fe84db40ce7c471ef9e3e93ec596beda8f3c19f0303a", func := "loop.example/innocentgames/laws.FnVisible", spec := "fnVisible", inPlace := ["internal/bytealg.IndexByteString"], recurses := true, apart := false, narrowed := true }
def FnVisibleUptoSaid : Prop := fnVisibleUptoRow.holds Try.pinned (OpenSpec.upto fnVisibleSpec)

/-- 'laws.FnPart', WHERE WHAT IT READS IS OF BULK AT MOST 1048576: true; the input reads as it did. -/
def fnPartUptoRow : OpenClaim := { program := "ytkjkbcfifhakkaa", sum := "79aae8f5e13d978ecf83fe84db40ce7c471ef9e3e93ec596beda8f3c19f0303a", func := "loop.example/innocentgames/laws.FnPart", spec := "fnPart", inPlace := ["internal/bytealg.IndexByteString"], recurses := true, apart := false, narrowed := true }
def FnPartUptoSaid : Prop := fnPartUptoRow.holds Try.pinned (OpenSpec.upto fnPartSpec)

end Rows
end Go.Proofs.Ytkjkbcfifhakkaa
