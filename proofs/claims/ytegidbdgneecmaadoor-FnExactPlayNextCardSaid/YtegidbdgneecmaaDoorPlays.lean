/- PLAIN: plays, their views, and pending questions. -/
import Derived.Test.YtegidbdgneecmaaDoorEnab
namespace Go.Proofs.YtegidbdgneecmaaDoor

/-- Who, what enables it, is it a question: of a move's text. -/
def mOpp (m : List UInt8) : Bool := match m with | [] => false | c :: p => byOpp c p
def mEn (m : List UInt8) : List UInt8 := match m with | [] => [] | c :: p => enab c p
def mQ (m : List UInt8) : Bool := match m with | [] => false | c :: _ => c == 113

theorem isMove_cons' {t : Ty} {m : List UInt8} (h : isMove t m = true) : ∃ c p, m = c :: p := by
  cases m with
  | nil => simp [isMove] at h
  | cons c p => exact ⟨c, p, rfl⟩

/-- The initial move, or one that is enabled by a question of the other one. -/
theorem mEn_cases {t : Ty} {m : List UInt8} (h : isMove t m = true) : (m = [113] ∧ mEn m = [] ∧ mOpp m = true ∧ mQ m = true) ∨
    (m ≠ [113] ∧ ∃ r, mEn m = 113 :: r ∧ isMove t (113 :: r) = true ∧ mOpp (113 :: r) = !mOpp m) := by
  obtain ⟨c, p, rfl⟩ := isMove_cons' h
  have h' := h
  simp only [isMove, Bool.and_eq_true] at h'
  obtain ⟨_, h2⟩ := h'
  by_cases hc : c = 113
  · subst hc
    cases p with
    | nil => exact .inl ⟨rfl, rfl, rfl, rfl⟩
    | cons a p =>
      refine .inr ⟨by simp, (a :: p).dropLast, ?_, ?_, ?_⟩
      · show enab 113 (a :: p) = _
        unfold enab
        simp [List.dropLast_eq_take]
      · have h3 : (t.at_ ((a :: p).dropLast)).isSome = true := by
          refine at_prefix (r := [(a :: p).getLast (by simp)]) ?_
          rw [List.dropLast_concat_getLast]
          exact h2
        simp only [isMove]
        rw [h3]; rfl
      · show byOpp 113 _ = !byOpp 113 (a :: p)
        unfold byOpp
        simp only [List.length_dropLast, List.length_cons, Nat.add_sub_cancel]
        rcases Nat.mod_two_eq_zero_or_one p.length with h | h
        · have h3 : (p.length + 1) % 2 = 1 := by omega
          have h4 : (p.length + 1 + 1) % 2 = 0 := by omega
          rw [h3, h4]; rfl
        · have h3 : (p.length + 1) % 2 = 0 := by omega
          have h4 : (p.length + 1 + 1) % 2 = 1 := by omega
          rw [h3, h4]; rfl
  · have hb : (c == 113) = false := by rw [beq_eq_false_iff_ne]; exact hc
    refine .inr ⟨?_, p, ?_, ?_, ?_⟩
    · intro e
      cases e
      exact hc rfl
    · show enab c p = _
      unfold enab; rw [hb]; rfl
    · simp only [isMove]
      rw [h2]; rfl
    · show byOpp 113 p = !byOpp c p
      unfold byOpp
      rw [hb]
      cases ((p.length + 1) % 2 == 1) <;> rfl

/-- A list of moves with pointers. -/
structure Pl where
  ms : List (List UInt8)
  ps : List Int

namespace Pl
def mv (p : Pl) (i : Nat) : List UInt8 := p.ms.getD i []
def pt (p : Pl) (i : Nat) : Int := p.ps.getD i 0
/-- The move at i and its pointer are as they should be. -/
def okAt (t : Ty) (p : Pl) (i : Nat) : Bool :=
  isMove t (p.mv i) && (mOpp (p.mv i) == (i % 2 == 0)) && (if i = 0 then p.mv 0 == [113] && p.pt 0 == -1 else decide (0 ≤ p.pt i) && decide (p.pt i < i) && p.mv (p.pt i).toNat == mEn (p.mv i))
/-- A play of a type. -/
def ok (t : Ty) (p : Pl) : Bool := decide (p.ms.length ≤ 60) && decide (p.ps.length = p.ms.length) && (List.range p.ms.length).all (okAt t p)

theorem ok_iff {t : Ty} {p : Pl} : p.ok t = true ↔ p.ms.length ≤ 60 ∧ p.ps.length = p.ms.length ∧ ∀ i, i < p.ms.length → okAt t p i = true := by
  unfold ok
  simp only [Bool.and_eq_true, decide_eq_true_eq, List.all_eq_true, List.mem_range, and_assoc]

theorem okAt_iff {t : Ty} {p : Pl} {i : Nat} : okAt t p i = true ↔ isMove t (p.mv i) = true ∧ mOpp (p.mv i) = (i % 2 == 0) ∧ (i = 0 → p.mv 0 = [113] ∧ p.pt 0 = -1) ∧ (0 < i → 0 ≤ p.pt i ∧ p.pt i < i ∧ p.mv (p.pt i).toNat = mEn (p.mv i)) := by
  unfold okAt
  by_cases h : i = 0
  · subst h
    simp [and_assoc]
  · have h0 : 0 < i := by omega
    simp [h, h0, and_assoc]

/-- The first moves. -/
def cut (p : Pl) (n : Nat) : Pl := ⟨p.ms.take n, p.ps.take n⟩
/-- A play with a move more. -/
def snoc (p : Pl) (m : List UInt8) (x : Int) : Pl := ⟨p.ms ++ [m], p.ps ++ [x]⟩

theorem mv_cut {p : Pl} {n i : Nat} (h : i < n) : (p.cut n).mv i = p.mv i := by
  unfold mv cut
  simp [List.getD, h]
theorem pt_cut {p : Pl} {n i : Nat} (h : i < n) : (p.cut n).pt i = p.pt i := by
  unfold pt cut
  simp [List.getD, h]
theorem mv_snoc {p : Pl} {m : List UInt8} {x : Int} {i : Nat} (h : i < p.ms.length) : (p.snoc m x).mv i = p.mv i := by
  unfold mv snoc
  simp [List.getD, List.getElem?_append_left h]
theorem mv_snoc_last {p : Pl} {m : List UInt8} {x : Int} : (p.snoc m x).mv p.ms.length = m := by
  unfold mv snoc
  simp [List.getD]
theorem pt_snoc {p : Pl} {m : List UInt8} {x : Int} {i : Nat} (h : i < p.ps.length) : (p.snoc m x).pt i = p.pt i := by
  unfold pt snoc
  simp [List.getD, List.getElem?_append_left h]
theorem pt_snoc_last {p : Pl} {m : List UInt8} {x : Int} : (p.snoc m x).pt p.ps.length = x := by
  unfold pt snoc
  simp [List.getD]

/-- Two plays have the same first n moves. -/
def Same (n : Nat) (p q : Pl) : Prop := ∀ i, i < n → p.mv i = q.mv i ∧ p.pt i = q.pt i
theorem Same.le {n k : Nat} {p q : Pl} (h : Same n p q) (hk : k ≤ n) : Same k p q := fun i hi => h i (by omega)
theorem same_cut (p : Pl) (n : Nat) : Same n (p.cut n) p := fun _ h => ⟨mv_cut h, pt_cut h⟩
theorem same_snoc (p : Pl) (m : List UInt8) (x : Int) (hl : p.ps.length = p.ms.length) : Same p.ms.length (p.snoc m x) p := fun _ h => ⟨mv_snoc h, pt_snoc (by omega)⟩

theorem okAt_same {t : Ty} {p q : Pl} {n i : Nat} (h : Same n p q) (hi : i < n) : okAt t p i = okAt t q i := by
  have h0 := h 0 (by omega)
  have h1 := h i hi
  have h2 : 0 ≤ p.pt i → p.pt i < i → p.mv (p.pt i).toNat = q.mv (p.pt i).toNat := fun a b => (h _ (by omega)).1
  unfold okAt
  rw [h1.1, h0.1, h0.2, ← h1.2]
  by_cases h3 : 0 ≤ p.pt i
  · by_cases h4 : p.pt i < i
    · rw [h2 h3 h4]
    · simp [h4]
  · simp [h3]

theorem ok_cut {t : Ty} {p : Pl} (n : Nat) (h : p.ok t = true) : (p.cut n).ok t = true := by
  rw [ok_iff] at h ⊢
  obtain ⟨h1, h2, h3⟩ := h
  refine ⟨by simp [cut]; omega, by simp [cut]; omega, fun i hi => ?_⟩
  simp only [cut, List.length_take] at hi
  rw [okAt_same (same_cut p n) (by omega)]
  exact h3 i (by omega)

theorem ok_snoc {t : Ty} {p : Pl} {m : List UInt8} {x : Int} (h : p.ok t = true) : (p.snoc m x).ok t = true ↔ p.ms.length < 60 ∧ okAt t (p.snoc m x) p.ms.length = true := by
  rw [ok_iff] at h ⊢
  obtain ⟨h1, h2, h3⟩ := h
  have e1 : (p.snoc m x).ms.length = p.ms.length + 1 := by simp [snoc]
  have e2 : (p.snoc m x).ps.length = p.ps.length + 1 := by simp [snoc]
  rw [e1, e2]
  constructor
  · rintro ⟨a, b, c⟩
    exact ⟨by omega, c _ (by omega)⟩
  · rintro ⟨a, b⟩
    refine ⟨by omega, by omega, fun i hi => ?_⟩
    by_cases h : i = p.ms.length
    · subst h; exact b
    · rw [okAt_same (same_snoc p m x h2) (by omega)]
      exact h3 i (by omega)

/-- In a play a pointer goes to a question of the other one. -/
theorem ok_prev {t : Ty} {p : Pl} (h : p.ok t = true) {i : Nat} (h0 : 0 < i) (hi : i < p.ms.length) :
    ∃ k : Nat, p.pt i = (k : Int) ∧ k < i ∧ p.mv k = mEn (p.mv i) ∧ mQ (p.mv k) = true ∧ p.mv i ≠ [113] ∧ k % 2 ≠ i % 2 := by
  obtain ⟨h1, h2, h3⟩ := ok_iff.1 h
  obtain ⟨a, b, _, d⟩ := okAt_iff.1 (h3 i hi)
  obtain ⟨d1, d2, d3⟩ := d h0
  obtain ⟨k, hk⟩ := Int.eq_ofNat_of_zero_le d1
  rw [hk, Int.toNat_natCast] at d3
  have hki : k < i := by omega
  obtain ⟨a', b', _, _⟩ := okAt_iff.1 (h3 k (by omega))
  rcases mEn_cases a with ⟨e1, e2, _, _⟩ | ⟨e1, r, e2, e3, e4⟩
  · obtain ⟨c, q, hc⟩ := isMove_cons' a'
    rw [d3, e2] at hc
    cases hc
  · refine ⟨k, hk, hki, d3, by rw [d3, e2]; rfl, e1, ?_⟩
    rw [d3, e2, e4, b] at b'
    intro e
    rw [e] at b'
    cases hx : (i % 2 == 0) <;> rw [hx] at b' <;> cases b'

theorem ok_mv {t : Ty} {p : Pl} (h : p.ok t = true) {i : Nat} (hi : i < p.ms.length) : isMove t (p.mv i) = true ∧ mOpp (p.mv i) = (i % 2 == 0) := by
  obtain ⟨h1, h2, h3⟩ := ok_iff.1 h
  obtain ⟨a, b, _, _⟩ := okAt_iff.1 (h3 i hi)
  exact ⟨a, b⟩
theorem ok_zero {t : Ty} {p : Pl} (h : p.ok t = true) (hi : 0 < p.ms.length) : p.mv 0 = [113] ∧ p.pt 0 = -1 := by
  obtain ⟨h1, h2, h3⟩ := ok_iff.1 h
  obtain ⟨_, _, c, _⟩ := okAt_iff.1 (h3 0 hi)
  exact c rfl

/-! ### views -/
/-- Where the view goes on behind the move i. -/
def nx (p : Pl) (o : Bool) (i : Nat) : Nat := if mOpp (p.mv i) == o then i else min i (p.pt i + 1).toNat
theorem nx_le (p : Pl) (o : Bool) (i : Nat) : p.nx o i ≤ i := by
  unfold nx
  split <;> omega
/-- The view of the opponent (o) or of the player of the first n moves. -/
def view (p : Pl) (o : Bool) : Nat → List Nat
  | 0 => []
  | i + 1 => p.view o (p.nx o i) ++ [i]
termination_by n => n
decreasing_by have := p.nx_le o i; omega

theorem view_zero (p : Pl) (o : Bool) : p.view o 0 = [] := by rw [view]
theorem view_succ (p : Pl) (o : Bool) (i : Nat) : p.view o (i + 1) = p.view o (p.nx o i) ++ [i] := by rw [view]
theorem view_lt {p : Pl} {o : Bool} {n : Nat} : ∀ x ∈ p.view o n, x < n := by
  induction n using Nat.strongRecOn with
  | _ n ih =>
    cases n with
    | zero => simp [view_zero]
    | succ i =>
      rw [view_succ]
      intro x hx
      rcases List.mem_append.1 hx with h | h
      · have h1 := ih _ (by have := p.nx_le o i; omega) x h
        have h2 := p.nx_le o i
        omega
      · obtain rfl : x = i := by simpa using h
        omega
theorem view_sorted {p : Pl} {o : Bool} {n : Nat} : (p.view o n).Pairwise (· < ·) := by
  induction n using Nat.strongRecOn with
  | _ n ih =>
    cases n with
    | zero => simp [view_zero]
    | succ i =>
      rw [view_succ, List.pairwise_append]
      have h2 := p.nx_le o i
      refine ⟨ih _ (by omega), by simp, fun a ha b hb => ?_⟩
      obtain rfl : b = i := by simpa using hb
      have := view_lt a ha
      omega
theorem view_length {p : Pl} {o : Bool} {n : Nat} : (p.view o n).length ≤ n := by
  induction n using Nat.strongRecOn with
  | _ n ih =>
    cases n with
    | zero => simp [view_zero]
    | succ i =>
      have h2 := p.nx_le o i
      have := ih _ (by omega : p.nx o i < i + 1)
      rw [view_succ, List.length_append, List.length_singleton]
      omega
theorem nx_same {p q : Pl} {n i : Nat} (h : Same n p q) (hi : i < n) (o : Bool) : p.nx o i = q.nx o i := by
  unfold nx
  rw [(h i hi).1, (h i hi).2]
theorem view_same {p q : Pl} {n : Nat} (h : Same n p q) (o : Bool) : p.view o n = q.view o n := by
  induction n using Nat.strongRecOn with
  | _ n ih =>
    cases n with
    | zero => simp [view_zero]
    | succ i =>
      have h2 := p.nx_le o i
      rw [view_succ, view_succ, ← nx_same h (by omega), ih _ (by omega) (h.le (by omega))]

/-- Each move but the first one points into the view of the one who makes it. -/
def visAt (p : Pl) (i : Nat) : Bool := i == 0 || ((p.view (mOpp (p.mv i)) i).map fun (k : Nat) => (k : Int)).contains (p.pt i)
def vis (p : Pl) : Bool := (List.range p.ms.length).all (visAt p)
theorem vis_iff {p : Pl} : p.vis = true ↔ ∀ i, i < p.ms.length → p.visAt i = true := by
  unfold vis
  simp only [List.all_eq_true, List.mem_range]
theorem visAt_same {p q : Pl} {n i : Nat} (h : Same n p q) (hi : i < n) : p.visAt i = q.visAt i := by
  unfold visAt
  rw [(h i hi).1, (h i hi).2, view_same (h.le (by omega))]
theorem vis_cut {p : Pl} {n : Nat} (h : p.vis = true) : (p.cut n).vis = true := by
  rw [vis_iff] at h ⊢
  intro i hi
  simp only [cut, List.length_take] at hi
  rw [visAt_same (same_cut p n) (by omega)]
  exact h i (by omega)

/-! ### pending questions -/
/-- The last question below k that is not answered, behind answers that point to a. -/
def pend (p : Pl) : Nat → List Int → Int
  | 0, _ => -1
  | i + 1, a => if mQ (p.mv i) then (if a.contains (i : Int) then p.pend i a else i) else p.pend i (a ++ [p.pt i])

theorem pend_same {p q : Pl} {n : Nat} (h : Same n p q) : ∀ a, p.pend n a = q.pend n a := by
  induction n with
  | zero => intro a; rfl
  | succ i ih =>
    intro a
    have ih := ih (h.le (by omega))
    simp only [pend, (h i (by omega)).1, (h i (by omega)).2, ih]
theorem pend_congr {p : Pl} {n : Nat} : ∀ {a b : List Int}, (∀ x, x ∈ a ↔ x ∈ b) → p.pend n a = p.pend n b := by
  induction n with
  | zero => intro a b _; rfl
  | succ i ih =>
    intro a b h
    have e : a.contains (i : Int) = b.contains (i : Int) := by
      rw [Bool.eq_iff_iff]; simp [h]
    simp only [pend, e]
    rw [ih h, ih (a := a ++ [p.pt i]) (b := b ++ [p.pt i]) (by intro x; simp [h])]

theorem pend_spec {p : Pl} : ∀ (k : Nat) (a : List Int),
    (p.pend k a = -1 ∧ ∀ i, i < k → mQ (p.mv i) = true → (i : Int) ∈ a ∨ ∃ j, i < j ∧ j < k ∧ mQ (p.mv j) = false ∧ p.pt j = i) ∨
    (∃ r : Nat, p.pend k a = (r : Int) ∧ r < k ∧ mQ (p.mv r) = true ∧ (r : Int) ∉ a ∧ (∀ j, r < j → j < k → mQ (p.mv j) = false → p.pt j ≠ r) ∧
      ∀ i, r < i → i < k → mQ (p.mv i) = true → (i : Int) ∈ a ∨ ∃ j, i < j ∧ j < k ∧ mQ (p.mv j) = false ∧ p.pt j = i)
  | 0, a => .inl ⟨rfl, fun i hi => absurd hi (by omega)⟩
  | k + 1, a => by
    cases hq : mQ (p.mv k) with
    | false =>
      have e : p.pend (k + 1) a = p.pend k (a ++ [p.pt k]) := by simp [pend, hq]
      rw [e]
      rcases pend_spec (p := p) k (a ++ [p.pt k]) with ⟨h1, h2⟩ | ⟨r, h1, h2, h3, h4, h5, h6⟩
      · refine .inl ⟨h1, fun i hi hm => ?_⟩
        by_cases hik : i = k
        · subst hik; rw [hq] at hm; cases hm
        · rcases h2 i (by omega) hm with h | ⟨j, a1, a2, a3, a4⟩
          · rcases List.mem_append.1 h with h | h
            · exact .inl h
            · exact .inr ⟨k, by omega, by omega, hq, (List.mem_singleton.1 h).symm⟩
          · exact .inr ⟨j, a1, by omega, a3, a4⟩
      · simp only [List.mem_append, List.mem_singleton, not_or] at h4
        refine .inr ⟨r, h1, by omega, h3, h4.1, fun j hj hjk hm => ?_, fun i hi hik hm => ?_⟩
        · by_cases e : j = k
          · subst e; exact fun e => h4.2 e.symm
          · exact h5 j hj (by omega) hm
        · by_cases hik : i = k
          · subst hik; rw [hq] at hm; cases hm
          · rcases h6 i hi (by omega) hm with h | ⟨j, a1, a2, a3, a4⟩
            · rcases List.mem_append.1 h with h | h
              · exact .inl h
              · exact .inr ⟨k, by omega, by omega, hq, (List.mem_singleton.1 h).symm⟩
            · exact .inr ⟨j, a1, by omega, a3, a4⟩
    | true =>
      by_cases hm : (k : Int) ∈ a
      · have e : p.pend (k + 1) a = p.pend k a := by simp [pend, hq, hm]
        rw [e]
        rcases pend_spec (p := p) k a with ⟨h1, h2⟩ | ⟨r, h1, h2, h3, h4, h5, h6⟩
        · refine .inl ⟨h1, fun i hi hm' => ?_⟩
          by_cases hik : i = k
          · subst hik; exact .inl hm
          · rcases h2 i (by omega) hm' with h | ⟨j, a1, a2, a3, a4⟩
            · exact .inl h
            · exact .inr ⟨j, a1, by omega, a3, a4⟩
        · refine .inr ⟨r, h1, by omega, h3, h4, fun j hj hjk hm' => ?_, fun i hi hik hm' => ?_⟩
          · by_cases e : j = k
            · subst e; rw [hq] at hm'; cases hm'
            · exact h5 j hj (by omega) hm'
          · by_cases e : i = k
            · subst e; exact .inl hm
            · rcases h6 i hi (by omega) hm' with h | ⟨j, a1, a2, a3, a4⟩
              · exact .inl h
              · exact .inr ⟨j, a1, by omega, a3, a4⟩
      · have e : p.pend (k + 1) a = (k : Int) := by simp [pend, hq, hm]
        refine .inr ⟨k, e, by omega, hq, hm, fun j hj hjk _ => by omega, fun i hi hik _ => by omega⟩

/-- Each answer points to the last question that is not yet answered. -/
def brAt (p : Pl) (i : Nat) : Bool := mQ (p.mv i) || p.pt i == p.pend i []
def br (p : Pl) : Bool := (List.range p.ms.length).all (brAt p)
theorem br_iff {p : Pl} : p.br = true ↔ ∀ i, i < p.ms.length → p.brAt i = true := by
  unfold br
  simp only [List.all_eq_true, List.mem_range]
theorem brAt_same {p q : Pl} {n i : Nat} (h : Same n p q) (hi : i < n) : p.brAt i = q.brAt i := by
  unfold brAt
  rw [(h i hi).1, (h i hi).2, pend_same (h.le (by omega))]
theorem br_cut {p : Pl} {n : Nat} (h : p.br = true) : (p.cut n).br = true := by
  rw [br_iff] at h ⊢
  intro i hi
  simp only [cut, List.length_take] at hi
  rw [brAt_same (same_cut p n) (by omega)]
  exact h i (by omega)

/-- In a bracketed play two answers answer two questions. -/
theorem br_once {t : Ty} {p : Pl} (h : p.ok t = true) (hb : p.br = true) {i k : Nat} (hk : k < i) (hi : i < p.ms.length) (h1 : mQ (p.mv i) = false) (h2 : mQ (p.mv k) = false) : p.pt i ≠ p.pt k := by
  intro e
  have b1 := br_iff.1 hb i hi
  unfold brAt at b1
  rw [h1, Bool.false_or, beq_iff_eq] at b1
  have hk0 : 0 < k := by
    rcases Nat.eq_zero_or_pos k with rfl | h'
    · rw [(ok_zero h (by omega)).1] at h2; cases h2
    · exact h'
  obtain ⟨z, hz, hzk, _⟩ := ok_prev h hk0 (by omega)
  rcases pend_spec (p := p) i [] with ⟨q1, _⟩ | ⟨r, q1, q2, q3, q4, q5, _⟩
  · omega
  · exact q5 k (by omega) hk h2 (by omega)

theorem vis_snoc {p : Pl} {m : List UInt8} {x : Int} (hl : p.ps.length = p.ms.length) : (p.snoc m x).vis = (p.vis && (p.snoc m x).visAt p.ms.length) := by
  rw [Bool.eq_iff_iff, Bool.and_eq_true, vis_iff, vis_iff]
  have e1 : (p.snoc m x).ms.length = p.ms.length + 1 := by simp [snoc]
  rw [e1]
  constructor
  · intro h
    exact ⟨fun i hi => by rw [← visAt_same (same_snoc p m x hl) hi]; exact h i (by omega), h _ (by omega)⟩
  · rintro ⟨a, b⟩ i hi
    by_cases h : i = p.ms.length
    · subst h; exact b
    · rw [visAt_same (same_snoc p m x hl) (by omega)]
      exact a i (by omega)
theorem br_snoc {p : Pl} {m : List UInt8} {x : Int} (hl : p.ps.length = p.ms.length) : (p.snoc m x).br = (p.br && (p.snoc m x).brAt p.ms.length) := by
  rw [Bool.eq_iff_iff, Bool.and_eq_true, br_iff, br_iff]
  have e1 : (p.snoc m x).ms.length = p.ms.length + 1 := by simp [snoc]
  rw [e1]
  constructor
  · intro h
    exact ⟨fun i hi => by rw [← brAt_same (same_snoc p m x hl) hi]; exact h i (by omega), h _ (by omega)⟩
  · rintro ⟨a, b⟩ i hi
    by_cases h : i = p.ms.length
    · subst h; exact b
    · rw [brAt_same (same_snoc p m x hl) (by omega)]
      exact a i (by omega)
end Pl
end Go.Proofs.YtegidbdgneecmaaDoor
