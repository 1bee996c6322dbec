/- PLAIN: types of terms, among names with types (the newest ahead). -/
import Derived.Test.YtiaafacmfflfiaaSx
namespace Go.Proofs.Ytiaafacmfflfiaa
open Go.RowKit

/-- Names with their types, the newest ahead. -/
abbrev Env := List (List UInt8 × Ty)
def look (E : Env) (x : List UInt8) : Option Ty := (E.find? fun p => p.1 == x).map Prod.snd
def Env.ok (E : Env) : Prop := ∀ p ∈ E, p.2.atoms ≤ 15
theorem look_le {E : Env} (h : E.ok) {x : List UInt8} {k : Ty} (hk : look E x = some k) : k.atoms ≤ 15 := by
  unfold look at hk
  cases hf : E.find? (fun p => p.1 == x) with
  | none => rw [hf] at hk; cases hk
  | some p =>
    rw [hf] at hk
    cases hk
    exact h p (List.mem_of_find?_eq_some hf)
theorem look_more {E : Env} (D : Env) {x : List UInt8} {k : Ty} (hk : look E x = some k) : look (E ++ D) x = some k := by
  unfold look at *
  rw [List.find?_append]
  cases hf : E.find? (fun p => p.1 == x) with
  | none => rw [hf] at hk; cases hk
  | some p => rw [hf] at hk; exact hk
instance : DecidableEq Ty := fun t u => if h : t.text = u.text then isTrue (Ty.text_inj h) else isFalse (fun e => h (congrArg Ty.text e))
/-- An application's type. -/
def tyApp : Option Ty → Option Ty → Option Ty
  | some (.arr a c), some n => if a = n then some c else none
  | _, _ => none
def tyIte : Option Ty → Option Ty → Option Ty → Option Ty
  | some .b, some m, some n => if m = n then some m else none
  | _, _, _ => none
def tyLam (k : Ty) : Option Ty → Option Ty
  | some t => if (Ty.arr k t).atoms ≤ 15 then some (.arr k t) else none
  | none => none
/-- A term's type. -/
def Tm.ty : Tm → Env → Option Ty
  | .w _, _ => some .b
  | .nm x, E => look E x
  | .lam x k b, E => if k.atoms ≤ 15 then tyLam k (b.ty ((x, k) :: E)) else none
  | .app m n, E => tyApp (m.ty E) (n.ty E)
  | .ite l m n, E => tyIte (l.ty E) (m.ty E) (n.ty E)
theorem tyApp_some {a b : Option Ty} {t : Ty} (h : tyApp a b = some t) : ∃ n, a = some (.arr n t) ∧ b = some n := by
  unfold tyApp at h
  split at h
  · rename_i p c n
    split at h
    · rename_i e
      cases h
      subst e
      exact ⟨_, rfl, rfl⟩
    · cases h
  · cases h
theorem tyIte_some {a b c : Option Ty} {t : Ty} (h : tyIte a b c = some t) : a = some .b ∧ b = some t ∧ c = some t := by
  unfold tyIte at h
  split at h
  · rename_i m n
    split at h
    · rename_i e
      cases h
      subst e
      exact ⟨rfl, rfl, rfl⟩
    · cases h
  · cases h
theorem tyLam_some {k t : Ty} {a : Option Ty} (h : tyLam k a = some t) : ∃ u, a = some u ∧ t = .arr k u ∧ t.atoms ≤ 15 := by
  unfold tyLam at h
  split at h
  · rename_i u
    split at h
    · rename_i e
      cases h
      exact ⟨u, rfl, rfl, e⟩
    · cases h
  · cases h
theorem Tm.ty_le (t : Tm) : ∀ (E : Env) (k : Ty), E.ok → t.ty E = some k → k.atoms ≤ 15 := by
  induction t with
  | w c => intro E k _ h; cases h; decide
  | nm x => intro E k hE h; exact look_le hE h
  | lam x k b ih =>
    intro E t hE h
    simp only [Tm.ty] at h
    split at h
    · obtain ⟨u, _, _, h3⟩ := tyLam_some h; exact h3
    · cases h
  | app m n ihm ihn =>
    intro E t hE h
    obtain ⟨u, h1, _⟩ := tyApp_some h
    have := ihm E _ hE h1
    simp only [Ty.atoms] at this
    omega
  | ite l m n ihl ihm ihn =>
    intro E t hE h
    obtain ⟨_, h1, _⟩ := tyIte_some h
    exact ihm E _ hE h1
/-- A term with a type has small types alone. -/
theorem Tm.ty_small (t : Tm) : ∀ (E : Env) (k : Ty), t.ty E = some k → t.small = true := by
  induction t with
  | w c => intro E k _; rfl
  | nm x => intro E k _; rfl
  | lam x k b ih =>
    intro E t h
    simp only [Tm.ty] at h
    split at h
    · rename_i h15
      obtain ⟨u, h1, _⟩ := tyLam_some h
      simp only [Tm.small, ih _ _ h1, h15, decide_true, Bool.and_self]
    · cases h
  | app m n ihm ihn =>
    intro E t h
    obtain ⟨u, h1, h2⟩ := tyApp_some h
    simp only [Tm.small, ihm _ _ h1, ihn _ _ h2, Bool.and_self]
  | ite l m n ihl ihm ihn =>
    intro E t h
    obtain ⟨h0, h1, h2⟩ := tyIte_some h
    simp only [Tm.small, ihl _ _ h0, ihm _ _ h1, ihn _ _ h2, Bool.and_self]
/-- Elder names take nothing away. -/
theorem Tm.ty_more (t : Tm) (D : Env) : ∀ (E : Env) (k : Ty), t.ty E = some k → t.ty (E ++ D) = some k := by
  induction t with
  | w c => intro E k h; exact h
  | nm x => intro E k h; exact look_more D h
  | lam x k b ih =>
    intro E t h
    simp only [Tm.ty] at h ⊢
    split at h
    · rename_i h15
      obtain ⟨u, h1, rfl, h3⟩ := tyLam_some h
      rw [if_pos h15]
      have h4 := ih ((x, k) :: E) u h1
      rw [List.cons_append] at h4
      rw [h4]
      exact if_pos h3
    · cases h
  | app m n ihm ihn =>
    intro E t h
    obtain ⟨u, h1, h2⟩ := tyApp_some h
    simp only [Tm.ty, ihm _ _ h1, ihn _ _ h2]
    exact if_pos rfl
  | ite l m n ihl ihm ihn =>
    intro E t h
    obtain ⟨h0, h1, h2⟩ := tyIte_some h
    simp only [Tm.ty, ihl _ _ h0, ihm _ _ h1, ihn _ _ h2]
    exact if_pos rfl
/-- What both sides' TermType says: the type of a closed term. -/
def tyOf (l : List UInt8) : Option Ty := match readT l with
  | some t => t.ty []
  | none => none
/-- The reference reads terms with small types alone: the same types. -/
theorem tyOf_small (l : List UInt8) : tyOf l = match readT l with
    | some t => if t.small then t.ty [] else none
    | none => none := by
  unfold tyOf
  cases readT l with
  | none => rfl
  | some t =>
    show t.ty [] = if t.small then t.ty [] else none
    split
    · rfl
    · rename_i h
      cases hk : t.ty [] with
      | none => rfl
      | some k => exact absurd (t.ty_small _ _ hk) h
theorem tyOf_le {l : List UInt8} {k : Ty} (h : tyOf l = some k) : k.atoms ≤ 15 := by
  unfold tyOf at h
  split at h
  · exact Tm.ty_le _ [] k (by intro p hp; cases hp) h
  · cases h
/-- A closed term under one more name. -/
theorem tyOf_lam {l : List UInt8} {k : Ty} (h : tyOf l = some k) : tyOf ([40, 108, 97, 109, 32, 122, 57, 32, 98, 32] ++ l ++ [41]) = none ∨ tyOf ([40, 108, 97, 109, 32, 122, 57, 32, 98, 32] ++ l ++ [41]) = some (.arr .b k) := by
  unfold tyOf at h
  split at h
  · rename_i t ht
    obtain ⟨rfl, hw, ha⟩ := readT_some.1 ht
    have e : ([40, 108, 97, 109, 32, 122, 57, 32, 98, 32] ++ t.text ++ [41]) = (Tm.lam [122, 57] .b t).text := by simp [Tm.text, lamW, Ty.text]
    rw [e]
    unfold tyOf
    cases hr : readT (Tm.lam [122, 57] .b t).text with
    | none => exact .inl rfl
    | some u =>
      have hw2 : (Tm.lam [122, 57] .b t).wf = true := by simp only [Tm.wf, hw, Bool.and_true]; decide
      obtain ⟨e2, hu, hua⟩ := readT_some.1 hr
      have h2 : (Tm.lam [122, 57] .b t).atoms = u.atoms := by rw [Tm.count_text _ hw2, u.count_text hu, e2]
      have h3 : readT (Tm.lam [122, 57] .b t).text = some (Tm.lam [122, 57] .b t) := readT_some.2 ⟨rfl, hw2, by omega⟩
      rw [hr] at h3
      cases h3
      have h4 := t.ty_more [([122, 57], .b)] [] k h
      rw [List.nil_append] at h4
      show (if Ty.b.atoms ≤ 15 then tyLam .b (t.ty [([122, 57], .b)]) else none) = none ∨ (if Ty.b.atoms ≤ 15 then tyLam .b (t.ty [([122, 57], .b)]) else none) = some (.arr .b k)
      rw [h4, if_pos (by decide)]
      unfold tyLam
      by_cases hk : (Ty.arr .b k).atoms ≤ 15
      · exact .inr (if_pos hk)
      · exact .inl (if_neg hk)
  · cases h
end Go.Proofs.Ytiaafacmfflfiaa
