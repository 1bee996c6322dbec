/- The play of a view: the reference's. -/
import Derived.Test.YtegidbdgneecmaaDoorPlayPart
namespace Go.Proofs.YtegidbdgneecmaaDoor
open Go.RowKit

/-- The last place below k of a number in a list, -1 for none. -/
def lst (V : List Nat) (x : Int) : Nat → Int
  | 0 => -1
  | j + 1 => if (V.getD j 0 : Int) = x then (j : Int) else lst V x j
theorem lst_none {V : List Nat} {x : Int} : ∀ k, (∀ i, i < k → (V.getD i 0 : Int) ≠ x) → lst V x k = -1
  | 0, _ => rfl
  | k + 1, h => by
    show (if (V.getD k 0 : Int) = x then (k : Int) else lst V x k) = -1
    rw [if_neg (h k (by omega)), lst_none k fun i hi => h i (by omega)]
theorem lst_some {V : List Nat} {x : Int} {i : Nat} (hi : (V.getD i 0 : Int) = x) : ∀ k, i < k → (∀ j, j < k → (V.getD j 0 : Int) = x → j = i) → lst V x k = (i : Int)
  | 0, h, _ => absurd h (by omega)
  | k + 1, h, hu => by
    show (if (V.getD k 0 : Int) = x then (k : Int) else lst V x k) = (i : Int)
    by_cases h1 : (V.getD k 0 : Int) = x
    · rw [if_pos h1, hu k (by omega) h1]
    · rw [if_neg h1]
      refine lst_some hi k ?_ fun j hj => hu j (by omega)
      rcases Nat.lt_or_ge i k with h2 | h2
      · exact h2
      · obtain rfl : i = k := by omega
        exact absurd hi h1
theorem lst_idx {V : List Nat} (hs : V.Pairwise (· < ·)) {k : Nat} (hk : k < V.length) {x : Int} (hx : x < (V[k] : Int)) : lst V x k = Pl.idx V x := by
  have hg : ∀ i, i < V.length → V.getD i 0 = V[i]! := fun i hi => by simp [List.getD, hi]
  have hge : ∀ i (h : i < V.length), V.getD i 0 = V[i] := fun i hi => by simp [List.getD, hi]
  by_cases h : ∃ i, ∃ _ : i < V.length, (V[i] : Int) = x
  · obtain ⟨i, hi, he⟩ := h
    have hik : i < k := by
      rcases Nat.lt_or_ge i k with h2 | h2
      · exact h2
      · rcases Nat.eq_or_lt_of_le h2 with h3 | h3
        · subst h3; omega
        · have := List.pairwise_iff_getElem.1 hs k i hk hi h3
          omega
    rw [lst_some (i := i) (by rw [hge i hi]; exact he) k hik, ← he]
    · exact (Pl.idx_some hs hi).symm
    · intro j hj h1
      rw [hge j (by omega)] at h1
      rcases Nat.lt_trichotomy i j with h2 | h2 | h2
      · have := List.pairwise_iff_getElem.1 hs i j hi (by omega) h2
        omega
      · exact h2.symm
      · have := List.pairwise_iff_getElem.1 hs j i (by omega) hi h2
        omega
  · rw [lst_none k, Pl.idx_none]
    · intro v hv he
      obtain ⟨i, hi, rfl⟩ := List.mem_iff_getElem.1 hv
      exact h ⟨i, hi, he⟩
    · intro i hi he
      rw [hge i (by omega)] at he
      exact h ⟨i, by omega, he⟩

end Go.Proofs.YtegidbdgneecmaaDoor
