/- A play that came in. -/
import Derived.Test.YtkjkbcfifhakkaaDoorInts
import Derived.ProofKit
import Derived.Lib.SmallJoins
namespace Go.Proofs.YtkjkbcfifhakkaaDoor
open Go.ChangeShapes Go.WideShapes Go.ChangeAt Go.RowKit Go.Joins

/-- What is known of a slice of numbers that came in. -/
def IsInts (w : World) (A : Option Addr) (xs : List Int) : Prop := Sl w Al A xs.length (iv xs) ∧ xs.length ≤ maxLen
theorem isInts_nil (w : World) : IsInts w none [] := ⟨Sl.nil_, by unfold maxLen; simp⟩
theorem isInts_row {w : World} {a : Addr} {l c : Nat} {zs : List Int} (hl : l ≤ zs.length) (hc : ∀ i, i < zs.length → w.cell? (a.add i) = some (.int .i64 (zs.getD i 0))) (hm : c ≤ maxLen) (_hlc : l ≤ c) :
    (zs.take l).length = l ∧ IsInts w (some a) (zs.take l) := by
  have hlen : (zs.take l).length = l := by simp; omega
  refine ⟨hlen, ?_, by omega⟩
  rw [hlen]
  intro hn
  have h0 := hc 0 (by omega)
  obtain ⟨g, o, s⟩ := a
  have hs : s = none := by
    cases s with
    | none => rfl
    | some s =>
      simp only [World.cell?, Addr.add, if_true] at h0
      split at h0
      · simp at h0
      · cases h0
  subst hs
  refine ⟨g, o, rfl, trivial, fun i hi => ?_⟩
  have h1 := hc i (by omega)
  rw [Addr.add_lit] at h1
  rw [h1, iv_lt _ (by omega)]
  have h2 : i < zs.length := by omega
  simp [List.getD, h2]

end Go.Proofs.YtkjkbcfifhakkaaDoor
