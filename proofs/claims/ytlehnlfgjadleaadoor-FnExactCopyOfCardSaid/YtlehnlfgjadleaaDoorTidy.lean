/- PLAIN: bodies whose levels are below 100; their texts as joined words. -/
import Derived.Test.YtlehnlfgjadleaaDoorEta
import Derived.Test.YtlehnlfgjadleaaDoorKind2
import Derived.Lib.Join
namespace Go.Proofs.YtlehnlfgjadleaaDoor
open Go.RowKit

namespace Bo
def tidy : Bo → Prop
  | .w c => c.length = 1
  | .hd v => v < 100
  | .sn l x => l.isLi = true ∧ l.tidy ∧ x.tidy
theorem tidy_level {b : Bo} (h : b.tidy) (hl : b.isLi = true) : b.level < 100 := by
  induction b with
  | w c => cases hl
  | hd v => exact h
  | sn l x ih _ => exact ih h.2.1 h.1
theorem tidy_parts {b : Bo} (h : b.tidy) : ∀ x ∈ b.parts, x.tidy := by
  induction b with
  | w c => intro x hx; simp [parts] at hx
  | hd v => intro x hx; simp [parts] at hx
  | sn l x ih _ =>
    intro y hy
    simp only [parts, List.mem_append, List.mem_singleton] at hy
    rcases hy with hy | rfl
    · exact ih h.2.1 y hy
    · exact h.2.2
end Bo
theorem joinT_snoc (xs : List (List UInt8)) (x sep : List UInt8) (h : xs ≠ []) : Lib.join (xs ++ [x]) sep = Lib.join xs sep ++ (sep ++ x) := by
  cases xs with
  | nil => exact absurd rfl h
  | cons y r =>
    rw [List.cons_append, Lib.join_cons, Lib.join_cons, Lib.joinTail, Lib.joinTail, List.map_append, List.flatten_append]
    simp
/-- A list's words, joined. -/
theorem body_join {b : Bo} (h : b.tidy) (hl : b.isLi = true) : Lib.join (Lib.decDigits b.level :: b.parts.map Bo.text) [32] = b.body := by
  induction b with
  | w c => cases hl
  | hd v => exact Lib.join_one _ _
  | sn l x ih _ =>
    simp only [Bo.parts, Bo.level, List.map_append, List.map_cons, List.map_nil]
    rw [← List.cons_append, joinT_snoc _ _ _ (by simp), ih h.2.1 h.1]
    rfl
theorem tidy_len {b : Bo} (h : b.tidy) : (b.isLi = true → b.body.length + 5 ≤ 9 * b.size) ∧ b.text.length + 3 ≤ 9 * b.size := by
  induction b with
  | w c =>
    have hc : c.length = 1 := h
    refine ⟨fun h => (by cases h), ?_⟩
    show c.length + 3 ≤ 9 * 1
    omega
  | hd v =>
    have hv : v < 100 := h
    have := decDigits_len4 (u := v) (by omega)
    refine ⟨fun _ => ?_, ?_⟩
    · show (Lib.decDigits v).length + 5 ≤ 9 * 1
      omega
    · show (40 :: (Lib.decDigits v ++ [41])).length + 3 ≤ 9 * 1
      simp
      omega
  | sn l x ihl ihx =>
    obtain ⟨h1, h2, h3⟩ := h
    have k1 := (ihl h2).1 h1
    have k2 := (ihx h3).2
    have e1 : (Bo.sn l x).body.length = l.body.length + (1 + x.text.length) := by simp [Bo.body, Bo.text]; omega
    have e2 : (Bo.sn l x).text.length = (Bo.sn l x).body.length + 2 := by
      rw [Bo.text_li rfl]
      simp
    simp only [Bo.size]
    exact ⟨fun _ => by omega, by omega⟩
theorem etas_tidy (t : Ty) : ∀ (acc : Bo) (i N : Nat), acc.isLi = true → acc.tidy → i + t.args.length ≤ N → N + t.atoms ≤ 101 + t.args.length → (etas t acc i N).isLi = true ∧ (etas t acc i N).tidy := by
  induction t with
  | b => intro acc i N h1 h2 _ _; exact ⟨h1, h2⟩
  | arr a c iha ihc =>
    intro acc i N h1 h2 h3 h4
    simp only [Ty.args, List.length_cons, Ty.atoms] at h3 h4
    have hlc := c.length_args
    have hla := a.length_args
    obtain ⟨k1, k2⟩ := iha (.hd i) N (N + a.args.length) rfl (show i < 100 by omega) (by omega) (by omega)
    rw [etas_arr]
    exact ihc (.sn acc (eta a i N)) (i + 1) N rfl ⟨h1, h2, rfl, ⟨k1, k2, rfl⟩, rfl⟩ (by omega) (by omega)
theorem eta_tidy (t : Ty) (h : t.atoms ≤ 100) : (eta t 0 1).tidy := by
  obtain ⟨k1, k2⟩ := etas_tidy t (.hd 0) 1 (1 + t.args.length) rfl (show 0 < 100 by omega) (by omega) (by omega)
  exact ⟨rfl, ⟨k1, k2, rfl⟩, rfl⟩
theorem args_room {t a : Ty} (h : a ∈ t.args) : t.args.length + a.atoms ≤ t.atoms := by
  have key : ∀ l : List Ty, a ∈ l → l.length + a.atoms ≤ Ty.sumA l := by
    intro l
    induction l with
    | nil => intro h; cases h
    | cons x r ih =>
      intro h
      have hr : ∀ r : List Ty, r.length ≤ Ty.sumA r := by
        intro r
        induction r with
        | nil => exact Nat.le_refl _
        | cons y s ih => simp only [List.length_cons, Ty.sumA]; omega
      simp only [List.length_cons, Ty.sumA]
      rcases List.mem_cons.1 h with rfl | h
      · have := hr r; omega
      · have := ih h; omega
  have := key _ h
  have := t.atoms_args
  omega
end Go.Proofs.YtlehnlfgjadleaaDoor
