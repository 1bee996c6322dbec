/- PLAIN: what enables a move. -/
import Derived.Test.YtegidbdgneecmaaDoorMoves
namespace Go.Proofs.YtegidbdgneecmaaDoor
open Go.RowKit

theorem at_prefix {t : Ty} {p r : List UInt8} (h : (t.at_ (p ++ r)).isSome = true) : (t.at_ p).isSome = true := by
  induction p generalizing t with
  | nil => rfl
  | cons c p ih =>
    rw [List.cons_append, at_cons] at h
    rw [at_cons]
    split at h
    · rename_i h48
      rw [if_pos h48]
      cases hk : t.args[c.toNat - 48]? with
      | none => rw [hk] at h; cases h
      | some v => rw [hk] at h; exact ih h
    · cases h

/-- What enables a move is nothing, or a question by the other one. -/
theorem enab_cases {s : List UInt8} {c : UInt8} {p : List UInt8} (h : moveOf s (c :: p) = true) :
    (c = 113 ∧ p = [] ∧ enab c p = [] ∧ byOpp c p = true) ∨ ∃ r, enab c p = 113 :: r ∧ moveOf s (113 :: r) = true ∧ byOpp 113 r = !byOpp c p ∧ r.length ≤ p.length ∧ (c = 113 → r.length + 1 = p.length) := by
  unfold moveOf at h
  cases hr : Ty.read s with
  | none => rw [hr] at h; cases h
  | some t =>
    rw [hr] at h
    simp only [isMove, Bool.and_eq_true] at h
    obtain ⟨_, h2⟩ := h
    have mv : ∀ r, (t.at_ r).isSome = true → moveOf s (113 :: r) = true := fun r h => by
      unfold moveOf
      rw [hr]
      simp only [isMove]
      rw [h]; rfl
    by_cases hc : c = 113
    · subst hc
      cases p with
      | nil => exact .inl ⟨rfl, rfl, rfl, rfl⟩
      | cons a p =>
        refine .inr ⟨(a :: p).dropLast, ?_, mv _ ?_, ?_, by simp, fun _ => by simp⟩
        · unfold enab
          simp [List.dropLast_eq_take]
        · refine at_prefix (r := [(a :: p).getLast (by simp)]) ?_
          rw [List.dropLast_concat_getLast]
          exact h2
        · unfold byOpp
          simp only [List.length_dropLast, List.length_cons, Nat.add_sub_cancel]
          rcases Nat.mod_two_eq_zero_or_one p.length with h | h
          · have h3 : (p.length + 1) % 2 = 1 := by omega
            have h4 : (p.length + 1 + 1) % 2 = 0 := by omega
            rw [h3, h4]; rfl
          · have h3 : (p.length + 1) % 2 = 0 := by omega
            have h4 : (p.length + 1 + 1) % 2 = 1 := by omega
            rw [h3, h4]; rfl
    · have hb : (c == 113) = false := by rw [beq_eq_false_iff_ne]; exact hc
      refine .inr ⟨p, ?_, mv _ h2, ?_, Nat.le_refl _, fun h => absurd h hc⟩
      · unfold enab; rw [hb]; rfl
      · unfold byOpp
        rw [hb]
        cases ((p.length + 1) % 2 == 1) <;> rfl

/-- A type at a path: its moves. -/
theorem at_facts {s p : List UInt8} {u : Ty} (h : (match Ty.read s with | none => none | some t => t.at_ p) = some u) (hle : ∀ t, Ty.read s = some t → u.atoms ≤ t.atoms) :
    moveOf s (113 :: p) = true ∧ moveOf s (116 :: p) = true ∧ moveOf s (102 :: p) = true ∧ playerOf s (113 :: p) = (if p.length % 2 = 1 then [80] else [79]) ∧ (Ty.read u.text).isSome = true := by
  cases hr : Ty.read s with
  | none => rw [hr] at h; cases h
  | some t =>
    rw [hr] at h
    simp only at h
    have mv : ∀ c : UInt8, (c == 113 || c == 116 || c == 102) = true → moveOf s (c :: p) = true := fun c hc => by
      unfold moveOf
      rw [hr]
      simp only [isMove]
      rw [hc, h]; rfl
    refine ⟨mv 113 rfl, mv 116 rfl, mv 102 rfl, ?_, ?_⟩
    · unfold playerOf
      rw [mv 113 rfl]
      simp only [if_true]
      unfold byOpp
      rcases Nat.mod_two_eq_zero_or_one p.length with h | h
      · have h3 : (p.length + 1) % 2 = 1 := by omega
        rw [h3, h]; rfl
      · have h3 : (p.length + 1) % 2 = 0 := by omega
        rw [h3, h]; rfl
    · have h1 := hle t hr
      have h2 := (Ty.read_some hr).2
      rw [Ty.read_text (by omega)]; rfl
end Go.Proofs.YtegidbdgneecmaaDoor
