/- The counter's keys: they tell the types at hand and the number apart. -/
import Derived.Test.YtlehnlfgjadleaaCnt
import Derived.Lib.Join
namespace Go.Proofs.Ytlehnlfgjadleaa

theorem no44_text (t : Ty) : ∀ c ∈ t.text, c ≠ 44 := by
  induction t with
  | b => intro c hc; simp only [Ty.text, List.mem_singleton] at hc; subst hc; decide
  | arr a c iha ihc =>
    intro x hx
    simp only [Ty.text, List.mem_cons, List.mem_append, List.not_mem_nil, or_false] at hx
    rcases hx with rfl | rfl | rfl | hx | rfl | hx | rfl
    · decide
    · decide
    · decide
    · exact iha x hx
    · decide
    · exact ihc x hx
    · decide
theorem text_ne (t : Ty) : t.text ≠ [] := by cases t <;> simp [Ty.text]
def Sep44 (r : List UInt8) : Prop := r = [] ∨ ∃ s, r = 44 :: s
theorem cut44 : ∀ (a b r s : List UInt8), (∀ c ∈ a, c ≠ 44) → (∀ c ∈ b, c ≠ 44) → Sep44 r → Sep44 s → a ++ r = b ++ s → a = b ∧ r = s
  | [], [], r, s, _, _, _, _, h => ⟨rfl, h⟩
  | [], y :: b, r, s, _, hb, hr, _, h => by
    rcases hr with rfl | ⟨u, rfl⟩
    · simp at h
    · simp at h
      exact absurd h.1.symm (hb y (by simp))
  | x :: a, [], r, s, ha, _, _, hs, h => by
    rcases hs with rfl | ⟨u, rfl⟩
    · simp at h
    · simp at h
      exact absurd h.1 (ha x (by simp))
  | x :: a, y :: b, r, s, ha, hb, hr, hs, h => by
    simp only [List.cons_append, List.cons.injEq] at h
    obtain ⟨rfl, h⟩ := h
    obtain ⟨rfl, h2⟩ := cut44 a b r s (fun c hc => ha c (by simp [hc])) (fun c hc => hb c (by simp [hc])) hr hs h
    exact ⟨rfl, h2⟩
theorem joinTail_cons44 (y : List UInt8) (r : List (List UInt8)) : Go.Lib.joinTail [44] (y :: r) = 44 :: (y ++ Go.Lib.joinTail [44] r) := by simp [Go.Lib.joinTail]
theorem sep44_tail (r : List (List UInt8)) : Sep44 (Go.Lib.joinTail [44] r) := by
  cases r with
  | nil => exact .inl rfl
  | cons y r => exact .inr ⟨_, joinTail_cons44 y r⟩
theorem tail_inj : ∀ (a b : List Ty), Go.Lib.joinTail [44] (a.map Ty.text) = Go.Lib.joinTail [44] (b.map Ty.text) → a = b
  | [], [], _ => rfl
  | [], y :: b, h => by rw [List.map_cons, joinTail_cons44] at h; cases h
  | x :: a, [], h => by rw [List.map_cons, joinTail_cons44] at h; cases h
  | x :: a, y :: b, h => by
    rw [List.map_cons, List.map_cons, joinTail_cons44, joinTail_cons44] at h
    obtain ⟨h1, h2⟩ := cut44 _ _ _ _ (no44_text x) (no44_text y) (sep44_tail _) (sep44_tail _) (List.cons.inj h).2
    rw [Ty.text_inj h1, tail_inj a b h2]
theorem joinT_inj (a b : List Ty) (h : Go.Lib.join (a.map Ty.text) [44] = Go.Lib.join (b.map Ty.text) [44]) : a = b := by
  cases a with
  | nil =>
    cases b with
    | nil => rfl
    | cons y b =>
      rw [List.map_cons, Go.Lib.join_cons, List.map_nil, Go.Lib.join_nil] at h
      have := congrArg List.length h
      have h2 := text_ne y
      cases hy : y.text with
      | nil => exact absurd hy h2
      | cons => rw [hy] at this; simp at this
  | cons x a =>
    cases b with
    | nil =>
      rw [List.map_cons, Go.Lib.join_cons, List.map_nil, Go.Lib.join_nil] at h
      have := congrArg List.length h
      have h2 := text_ne x
      cases hy : x.text with
      | nil => exact absurd hy h2
      | cons => rw [hy] at this; simp at this
    | cons y b =>
      rw [List.map_cons, Go.Lib.join_cons, List.map_cons, Go.Lib.join_cons] at h
      obtain ⟨h1, h2⟩ := cut44 _ _ _ _ (no44_text x) (no44_text y) (sep44_tail _) (sep44_tail _) h
      rw [Ty.text_inj h1, tail_inj a b h2]
/-- The key of types at hand and a number. -/
def keyT (hand : List Ty) (n : Nat) : List UInt8 := Go.Lib.join (hand.map Ty.text) [44] ++ [47] ++ [UInt8.ofNat (48 + n)]
theorem keyT_inj {hand hand' : List Ty} {n n' : Nat} (hn : n ≤ 9) (hn' : n' ≤ 9) (h : keyT hand n = keyT hand' n') : hand = hand' ∧ n = n' := by
  unfold keyT at h
  obtain ⟨h1, h2⟩ := List.append_inj' h rfl
  obtain ⟨h3, _⟩ := List.append_inj' h1 rfl
  refine ⟨joinT_inj _ _ h3, ?_⟩
  have h4 := congrArg UInt8.toNat (List.cons.inj h2).1
  rw [UInt8.toNat_ofNat', UInt8.toNat_ofNat'] at h4
  omega
theorem lens_hand {hand : List Ty} (h : HandS hand) : Go.Lib.lens (hand.map Ty.text) ≤ hand.length * 43 := by
  unfold Go.Lib.lens
  induction hand with
  | nil => simp
  | cons t r ih =>
    have h1 := ih fun u hu => h u (by simp [hu])
    have h2 := t.length_text
    have h3 := h t (by simp)
    simp only [List.map_cons, List.sum_cons, List.length_cons] at h1 ⊢
    omega
theorem join_hand {hand : List Ty} (h : HandS hand) : (Go.Lib.join (hand.map Ty.text) [44]).length ≤ hand.length * 44 := by
  cases hand with
  | nil => simp [Go.Lib.join_nil]
  | cons t r =>
    have h1 := lens_hand h
    rw [List.map_cons, Go.Lib.join_length, ← List.map_cons]
    simp only [List.length_map, List.length_cons, List.length_nil] at h1 ⊢
    omega
end Go.Proofs.Ytlehnlfgjadleaa
