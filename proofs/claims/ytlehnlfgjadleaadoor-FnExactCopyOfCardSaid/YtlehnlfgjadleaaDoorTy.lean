/- PLAIN: types as trees, their texts, and what a reader of them returns. No program in sight. -/
namespace Go.Proofs.YtlehnlfgjadleaaDoor

/-- A type: b, or a function type. -/
inductive Ty where
  | b
  | arr (a c : Ty)

namespace Ty
def args : Ty → List Ty
  | .b => []
  | .arr a c => a :: c.args
def atoms : Ty → Nat
  | .b => 1
  | .arr a c => 1 + a.atoms + c.atoms
def order : Ty → Nat
  | .b => 0
  | .arr a c => max (1 + a.order) c.order
def depth : Ty → Nat
  | .b => 0
  | .arr a c => 1 + max a.depth c.depth
def text : Ty → List UInt8
  | .b => [98]
  | .arr a c => 40 :: 62 :: 32 :: (a.text ++ 32 :: (c.text ++ [41]))

/-- Reads a type with at most n signs within each other. -/
def parse : Nat → List UInt8 → Option (Ty × List UInt8)
  | n, l =>
    match l with
    | 98 :: r => some (.b, r)
    | 40 :: 62 :: 32 :: r =>
      match n with
      | 0 => none
      | n + 1 =>
        match parse n r with
        | some (a, 32 :: r1) =>
          match parse n r1 with
          | some (c, 41 :: r2) => some (.arr a c, r2)
          | _ => none
        | _ => none
    | _ => none

theorem atoms_pos (t : Ty) : 1 ≤ t.atoms := by cases t <;> simp [atoms] <;> omega

theorem depth_atoms (t : Ty) : 2 * t.depth + 1 ≤ t.atoms := by
  induction t with
  | b => simp [depth, atoms]
  | arr a c iha ihc => simp only [depth, atoms]; omega

theorem length_text (t : Ty) : 2 * t.text.length + 4 = 6 * t.atoms := by
  induction t with
  | b => simp [text, atoms]
  | arr a c iha ihc => simp only [text, atoms, List.length_cons, List.length_append, List.length_nil]; omega

theorem length_args (t : Ty) : 2 * t.args.length + 1 ≤ t.atoms := by
  induction t with
  | b => simp [args, atoms]
  | arr a c iha ihc => have := atoms_pos a; simp only [args, atoms, List.length_cons]; omega

/-- What is read is the text of the type that is read. -/
theorem parse_sound : ∀ (n : Nat) (l : List UInt8) (t : Ty) (r : List UInt8), parse n l = some (t, r) → l = t.text ++ r := by
  intro n
  induction n with
  | zero =>
    intro l t r h
    unfold parse at h
    split at h
    · obtain ⟨rfl, rfl⟩ : Ty.b = t ∧ _ = r := by simpa using h
      rfl
    · cases h
    · cases h
  | succ n ih =>
    intro l t r h
    unfold parse at h
    split at h
    · obtain ⟨rfl, rfl⟩ : Ty.b = t ∧ _ = r := by simpa using h
      rfl
    · simp only at h
      split at h
      · rename_i a r1 h1
        split at h
        · rename_i c r2 h2
          obtain ⟨rfl, rfl⟩ : Ty.arr a c = t ∧ r2 = r := by simpa using h
          rw [ih _ _ _ h1, ih _ _ _ h2]
          simp [text]
        · cases h
      · cases h
    · cases h

/-- The text of a type that is not too deep is read. -/
theorem parse_text (t : Ty) : ∀ (n : Nat) (r : List UInt8), t.depth ≤ n → parse n (t.text ++ r) = some (t, r) := by
  induction t with
  | b => intro n r _; unfold parse; simp [text]
  | arr a c iha ihc =>
    intro n r h
    simp only [depth] at h
    obtain ⟨n, rfl⟩ : ∃ k, n = k + 1 := ⟨n - 1, by omega⟩
    unfold parse
    simp only [text, List.cons_append, List.append_assoc, List.nil_append]
    rw [iha n _ (by omega)]
    simp only
    rw [ihc n _ (by omega)]
    rfl

theorem text_inj {t u : Ty} (h : t.text = u.text) : t = u := by
  have h1 := parse_text t (max t.depth u.depth) [] (by omega)
  have h2 := parse_text u (max t.depth u.depth) [] (by omega)
  rw [h, h2] at h1
  simpa using h1.symm

/-- A type of at most 15 atoms, read whole. -/
def read (l : List UInt8) : Option Ty :=
  match parse 15 l with
  | some (t, []) => if t.atoms ≤ 15 then some t else none
  | _ => none

theorem read_some {l : List UInt8} {t : Ty} (h : read l = some t) : l = t.text ∧ t.atoms ≤ 15 := by
  unfold read at h
  split at h
  · rename_i u h1
    split at h
    · obtain rfl : u = t := by simpa using h
      exact ⟨by simpa using parse_sound _ _ _ _ h1, by assumption⟩
    · cases h
  · cases h

theorem read_text {t : Ty} (h : t.atoms ≤ 15) : read t.text = some t := by
  have hd := depth_atoms t
  have := parse_text t 15 [] (by omega)
  rw [List.append_nil] at this
  unfold read
  rw [this]
  simp [h]

/-- Whatever bound on the signs within each other (of 7 or more) a reader has: what it reads whole, with at most 15 atoms, is what 'read' reads. -/
theorem read_of_parse {n : Nat} {l : List UInt8} (hn : 7 ≤ n) :
    read l = match parse n l with | some (t, []) => if t.atoms ≤ 15 then some t else none | _ => none := by
  cases h : read l with
  | some t =>
    obtain ⟨rfl, ha⟩ := read_some h
    have hd := depth_atoms t
    have := parse_text t n [] (by omega)
    rw [List.append_nil] at this
    rw [this]
    simp [ha]
  | none =>
    split
    · rename_i t h1
      split
      · rename_i ha
        have := parse_sound _ _ _ _ h1
        rw [List.append_nil] at this
        rw [this, read_text ha] at h
        cases h
      · rfl
    · rfl

theorem length_of_read {l : List UInt8} {t : Ty} (h : read l = some t) : l.length ≤ 43 := by
  obtain ⟨rfl, ha⟩ := read_some h
  have := length_text t
  omega

/-- The type at a path. -/
def at_ : Ty → List UInt8 → Option Ty
  | t, [] => some t
  | t, c :: p => if 48 ≤ c.toNat then (match t.args[c.toNat - 48]? with | some u => at_ u p | none => none) else none

theorem atoms_of_args {t u : Ty} (h : u ∈ t.args) : u.atoms + 2 ≤ t.atoms := by
  induction t with
  | b => simp [args] at h
  | arr a c _ ihc =>
    simp only [args, List.mem_cons] at h
    rcases h with rfl | h
    · have := atoms_pos c; simp only [atoms]; omega
    · have := ihc h; simp only [atoms]; omega

theorem atoms_at {p : List UInt8} : ∀ {t u : Ty}, t.at_ p = some u → u.atoms ≤ t.atoms := by
  induction p with
  | nil => intro t u h; obtain rfl : t = u := by simpa [at_] using h
           exact Nat.le_refl _
  | cons c p ih =>
    intro t u h
    unfold at_ at h
    split at h
    · split at h
      · rename_i v hv
        have h1 := atoms_of_args (List.mem_of_getElem? hv)
        have h2 := ih h
        omega
      · cases h
    · cases h
end Ty

end Go.Proofs.YtlehnlfgjadleaaDoor
