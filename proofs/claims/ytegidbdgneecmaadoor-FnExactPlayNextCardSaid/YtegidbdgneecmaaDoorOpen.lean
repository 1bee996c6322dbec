/- A play that came in. -/
import Derived.Test.YtegidbdgneecmaaDoorInts
import Derived.ProofKit
import Derived.Lib.SmallJoins
namespace Go.Proofs.YtegidbdgneecmaaDoor
open Go.ChangeShapes Go.WideShapes Go.ChangeAt Go.RowKit Go.Joins

/-- What is known of a slice of numbers that came in. -/
def IsInts (w : World) (A : Option Addr) (xs : List Int) : Prop := Sl w Al A xs.length (iv xs) ∧ xs.length ≤ maxLen
theorem isInts_nil (w : World) : IsInts w none [] := ⟨Sl.nil_, by unfold maxLen; simp⟩
theorem isInts_row {w : World} {a : Addr} {l c : Nat} {zs : List Int} (hl : l ≤ zs.length) (hc : ∀ i, i < zs.length → w.cell? (a.add i) = some (.int .i64 (zs.getD i 0))) (hm : c ≤ maxLen) (_hlc : l ≤ c) :
    (zs.take l).length = l ∧ IsInts w (some a) (zs.take l) := by
  have hlen : (zs.take l).length = l := by simp; omega
  refine ⟨hlen, ?_, by omega⟩
  rw [hlen]
  intro hn
  have h0 := hc 0 (by omega)
  obtain ⟨g, o, s⟩ := a
  have hs : s = none := by
    cases s with
    | none => rfl
    | some s =>
      simp only [World.cell?, Addr.add, if_true] at h0
      split at h0
      · simp at h0
      · cases h0
  subst hs
  refine ⟨g, o, rfl, trivial, fun i hi => ?_⟩
  have h1 := hc i (by omega)
  rw [Addr.add_lit] at h1
  rw [h1, iv_lt _ (by omega)]
  have h2 : i < zs.length := by omega
  simp [List.getD, h2]

set_option maxRecDepth 100000 in
theorem open_play {H : Type} {enc : TypeId × Value → H} {W : World} {base : Nat} {spare : Nat → Bool} {held : Bool} {r : Reach} {b0 : Nat} {v : Value} {d : DataW H} {ps : List MemPlace}
    (hv : Value.okWide Tryd.prog W r b0 25 v) (h : DataW.Trod enc Tryd.prog W base spare held 25 v d ps) :
    ∃ (p : Pl) (A : Option Addr) (cA : Nat) (B : Option Addr) (cB : Nat), v = .agg #[.slice A p.ms.length cA, .slice B p.ps.length cB] ∧ IsStrs W A p.ms ∧ IsInts W B p.ps := by
  obtain ⟨v0, v1, y0, y1, n, rfl, _, _, h0, h1⟩ := open_agg2 Tryd.underlying25 (by kernel_rfl) (by kernel_rfl) hv h
  obtain ⟨ms, A, cA, e0, k0⟩ : ∃ (ms : List (List UInt8)) (A : Option Addr) (cA : Nat), v0 = .slice A ms.length cA ∧ IsStrs W A ms := by
    rcases open_strings Tryd.underlying22 Tryd.underlying9 (by kernel_rfl) h0 with ⟨hcs, _⟩ | ⟨a, l, c, ss, hcs, _, hl, hm, hss, _, hcell, hsz⟩
    · exact ⟨[], none, 0, by simpa using hcs, isStrs_nil W⟩
    · obtain ⟨k1, k2⟩ := isStrs_row (a := a) (l := l) (c := c) (ss := ss) (by rw [hss]; split <;> omega) hcell hm hsz hl
      exact ⟨_, some a, c, by rw [k1]; simpa using hcs, k2⟩
  obtain ⟨zs, B, cB, e1, k1⟩ : ∃ (zs : List Int) (B : Option Addr) (cB : Nat), v1 = .slice B zs.length cB ∧ IsInts W B zs := by
    rcases open_ints Tryd.underlying23 Tryd.underlying3 (by kernel_rfl) h1 with ⟨hcs, _⟩ | ⟨a, l, c, zs, hcs, _, hl, hm, hzs, _, hcell, _⟩
    · exact ⟨[], none, 0, by simpa using hcs, isInts_nil W⟩
    · obtain ⟨k1, k2⟩ := isInts_row (a := a) (l := l) (c := c) (zs := zs) (by rw [hzs]; split <;> omega) hcell hm hl
      exact ⟨_, some a, c, by rw [k1]; simpa using hcs, k2⟩
  subst e0 e1
  exact ⟨⟨ms, zs⟩, A, cA, B, cB, rfl, k0, k1⟩
end Go.Proofs.YtegidbdgneecmaaDoor
