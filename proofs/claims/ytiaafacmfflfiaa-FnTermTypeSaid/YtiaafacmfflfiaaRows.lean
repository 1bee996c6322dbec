/-
  No cell of these rows narrows 'for every input' (looked for: loops, veiled, ifaces, maps, wideKeys, modest, calm, conditions, laid).
  DERIVED. THE GIVEN ROWS OF THIS SEAT. 3 by the template 'for every input the law returns true; each argument reads behind the call as it read before'; 0 by the template 'total and deterministic' (their statements: YtiaafacmfflfiaaTotals.lean).
  GIVEN WITH THE SEED: the statements are not yours to turn. If you find one false, say at which input.
  Laid BY PROGRAM, IN A SANDBOX (cutbox-rows.mjs): the forced cells as the released guide's own fill.sh prints them over the translation 861985c4465102d9… (all of the seat's roots in one cut). By AI agents, Wed Nov 11 2026. No macro, syntax, notation, axiom, sorry.
-/
import Derived.Test.YtiaafacmfflfiaaChecked
import GoSem.Claim
import GoSem.ClaimJoined
import GoSem.ClaimMapViews
import Derived.JoinedTies
import Derived.KernelRfl
namespace Go.Proofs.Ytiaafacmfflfiaa
/- THE CELL 'sum', in the pinned program and in every row, IS THE sha256 OF THE DUMP (.gsa) THAT YtiaafacmfflfiaaProg.lean LOADS. Nothing in Lean hashes anything: it is a label: what it is worth is what the hold of that sum in a sandbox is worth. -/
noncomputable def Try.pinned : Pinned := { name := "ytiaafacmfflfiaa", sum := "861985c4465102d9bfc553553f6f6ba47353962f85a582dfb1495c5900e2a9c3", checked := Try.checked }
namespace Rows
def none {H : Type} : Left H := { results := [], args := [] }

/-- 'laws.FnTermSize': WHATEVER THE INPUT: true; the input reads as it did. -/
def fnTermSizeSpec : ChangeSpec := { name := "fnTermSize", fn := fun _ => fun
  | [d] => { results := [.lit (.bool true)], args := [d] }
  | _ => none }
def fnTermSizeRow : OpenClaim := { program := "ytiaafacmfflfiaa", sum := "861985c4465102d9bfc553553f6f6ba47353962f85a582dfb1495c5900e2a9c3", func := "loop.example/innocentgames/laws.FnTermSize", spec := "fnTermSize", inPlace := ["internal/bytealg.IndexByteString", "internal/bytealg.IndexString"], recurses := true, named := ["internal/bytealg.MaxLen"], apart := false }
def FnTermSizeSaid : Prop := fnTermSizeRow.holds Try.pinned (OpenSpec.ofChange fnTermSizeSpec)

/-- ITS FALSE NEIGHBOUR: 'it returns false'. Refute it at one input. -/
def fnTermSizeWrong : ChangeSpec := { name := "fnTermSize", fn := fun _ => fun
  | [d] => { results := [.lit (.bool false)], args := [d] }
  | _ => none }
def FnTermSizeWrongFalsely : Prop := fnTermSizeRow.holds Try.pinned (OpenSpec.ofChange fnTermSizeWrong)

/-- 'laws.FnExactTermType': WHATEVER THE INPUT: true; the input reads as it did. -/
def fnExactTermTypeSpec : ChangeSpec := { name := "fnExactTermType", fn := fun _ => fun
  | [d] => { results := [.lit (.bool true)], args := [d] }
  | _ => none }
def fnExactTermTypeRow : OpenClaim := { program := "ytiaafacmfflfiaa", sum := "861985c4465102d9bfc553553f6f6ba47353962f85a582dfb1495c5900e2a9c3", func := "loop.example/innocentgames/laws.FnExactTermType", spec := "fnExactTermType", inPlace := ["internal/bytealg.IndexByteString", "internal/bytealg.IndexString"], unfollowed := true, recurses := true, named := ["internal/bytealg.MaxLen"], apart := false }
def FnExactTermTypeSaid : Prop := fnExactTermTypeRow.holds Try.pinned (OpenSpec.ofChange fnExactTermTypeSpec)

/-- ITS FALSE NEIGHBOUR: 'it returns false'. Refute it at one input. -/
def fnExactTermTypeWrong : ChangeSpec := { name := "fnExactTermType", fn := fun _ => fun
  | [d] => { results := [.lit (.bool false)], args := [d] }
  | _ => none }
def FnExactTermTypeWrongFalsely : Prop := fnExactTermTypeRow.holds Try.pinned (OpenSpec.ofChange fnExactTermTypeWrong)

/-- 'laws.FnTermType': WHATEVER THE INPUT: true; the input reads as it did. -/
def fnTermTypeSpec : ChangeSpec := { name := "fnTermType", fn := fun _ => fun
  | [d] => { results := [.lit (.bool true)], args := [d] }
  | _ => none }
def fnTermTypeRow : OpenClaim := { program := "ytiaafacmfflfiaa", sum := "861985c4465102d9bfc553553f6f6ba47353962f85a582dfb1495c5900e2a9c3", func := "loop.example/innocentgames/laws.FnTermType", spec := "fnTermType", inPlace := ["internal/bytealg.IndexByteString", "internal/bytealg.IndexString"], unfollowed := true, recurses := true, named := ["internal/bytealg.MaxLen"], apart := false }
def FnTermTypeSaid : Prop := fnTermTypeRow.holds Try.pinned (OpenSpec.ofChange fnTermTypeSpec)

/-- ITS FALSE NEIGHBOUR: 'it returns false'. Refute it at one input. -/
def fnTermTypeWrong : ChangeSpec := { name := "fnTermType", fn := fun _ => fun
  | [d] => { results := [.lit (.bool false)], args := [d] }
  | _ => none }
def FnTermTypeWrongFalsely : Prop := fnTermTypeRow.holds Try.pinned (OpenSpec.ofChange fnTermTypeWrong)

/- THE SECOND FORM. 'bulk': how many values and letters a reading holds, each counted each time it is reached (what is shared counts as often as it is met; a slice's spare places count too). A statement '..UptoSaid' is the law's where the arguments, and the package variables that the reading takes, are together of bulk at most 1048576: NARROWER than '..Said'. Prove '..Said' where nothing that the law and all that it calls make is longer than what came in: it says more and counts as full. Else prove '..UptoSaid'. A law counts once. -/
mutual
def uptoBulk {H : Type} : DataW H → Nat
  | .lit (.string bytes) => bytes.length + 1
  | .lit _ => 1
  | .nil => 1
  | .ptr d => uptoBulk d + 1
  | .slice elems spare => uptoBulkAll elems + uptoBulkAll spare + 1
  | .agg parts => uptoBulkAll parts + 1
  | .iface _ d => uptoBulk d + 1
  | .map entries => uptoBulkEntries entries + 1
  | .held _ => 1
def uptoBulkAll {H : Type} : List (DataW H) → Nat
  | [] => 0
  | d :: r => uptoBulk d + uptoBulkAll r
def uptoBulkEntries {H : Type} : List (Lit × DataW H) → Nat
  | [] => 0
  | x :: r => uptoBulkEntry x + uptoBulkEntries r
def uptoBulkEntry {H : Type} : Lit × DataW H → Nat
  | (.string bytes, d) => bytes.length + uptoBulk d + 1
  | (_, d) => uptoBulk d + 1
 end
def uptoSmall : (H : Type) → List (DataW H) → Bool := fun _ ds => decide (uptoBulkAll ds ≤ 1048576)
def OpenSpec.upto (s : _root_.Go.ChangeSpec) : _root_.Go.OpenSpec := { _root_.Go.OpenSpec.ofChange s with cond := some uptoSmall }

/-- 'laws.FnTermSize', WHERE WHAT IT READS IS OF BULK AT MOST 1048576: true; the input reads as it did. -/
def fnTermSizeUptoRow : OpenClaim := { program := "ytiaafacmfflfiaa", sum := "861985c4465102d9bfc553553f6f6ba47353962f85a582dfb1495c5900e2a9c3", func := "loop.example/innocentgames/laws.FnTermSize", spec := "fnTermSize", inPlace := ["internal/bytealg.IndexByteString", "internal/bytealg.IndexString"], recurses := true, named := ["internal/bytealg.MaxLen"], apart := false, narrowed := true }
def FnTermSizeUptoSaid : Prop := fnTermSizeUptoRow.holds Try.pinned (OpenSpec.upto fnTermSizeSpec)

/-- 'laws.FnExactTermType', WHERE WHAT IT READS IS OF BULK AT MOST 1048576: true; the input reads as it did. -/
def fnExactTermTypeUptoRow : OpenClaim := { program := "ytiaafacmfflfiaa", sum := "861985c4465102d9bfc553553f6f6ba47353962f85a582dfb1495c5900e2a9c3", func := "loop.example/innocentgames/laws.FnExactTermType", spec := "fnExactTermType", inPlace := ["internal/bytealg.IndexByteString", "internal/bytealg.IndexString"], unfollowed := true, recurses := true, named := ["internal/bytealg.MaxLen"], apart := false, narrowed := true }
def FnExactTermTypeUptoSaid : Prop := fnExactTermTypeUptoRow.holds Try.pinned (OpenSpec.upto fnExactTermTypeSpec)

/-- 'laws.FnTermType', WHERE WHAT IT READS IS OF BULK AT MOST 1048576: true; the input reads as it did. -/
def fnTermTypeUptoRow : OpenClaim := { program := "ytiaafacmfflfiaa", sum := "861985c4465102d9bfc553553f6f6ba47353962f85a582dfb1495c5900e2a9c3", func := "loop.example/innocentgames/laws.FnTermType", spec := "fnTermType", inPlace := ["internal/bytealg.IndexByteString", "internal/bytealg.IndexString"], unfollowed := true, recurses := true, named := ["internal/bytealg.MaxLen"], apart := false, narrowed := true }
def FnTermTypeUptoSaid : Prop := fnTermTypeUptoRow.holds Try.pinned (OpenSpec.upto fnTermTypeSpec)

end Rows
end Go.Proofs.Ytiaafacmfflfiaa
