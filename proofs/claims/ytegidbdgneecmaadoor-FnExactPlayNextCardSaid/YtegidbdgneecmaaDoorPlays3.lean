/- PLAIN: all moves of a type; the next plays. -/
import Derived.Test.YtegidbdgneecmaaDoorPlays2
namespace Go.Proofs.YtegidbdgneecmaaDoor

/-- The sign of a digit. -/
def dgt (i : Nat) : UInt8 := UInt8.ofNat (48 + i)
theorem dgt_val {i : Nat} (h : i < 10) : (dgt i).toNat = 48 + i := by
  unfold dgt
  simp only [UInt8.toNat_ofNat']
  omega
/-- The moves at a path. -/
def hds (p : List UInt8) : List (List UInt8) := [113 :: p, 116 :: p, 102 :: p]
/-- The moves of the arguments of a type from the argument i on. -/
def movesA : Ty → List UInt8 → Nat → List (List UInt8)
  | .b, _, _ => []
  | .arr a c, p, i => hds (p ++ [dgt i]) ++ movesA a (p ++ [dgt i]) 0 ++ movesA c p (i + 1)
/-- All moves of a type at a path. -/
def movesT (t : Ty) (p : List UInt8) : List (List UInt8) := hds p ++ movesA t p 0
/-- The moves of a list of types. -/
def movesR : List Ty → List UInt8 → Nat → List (List UInt8)
  | [], _, _ => []
  | a :: l, p, i => movesT a (p ++ [dgt i]) ++ movesR l p (i + 1)
theorem movesA_args (t : Ty) : ∀ (p : List UInt8) (i : Nat), movesA t p i = movesR t.args p i := by
  induction t with
  | b => intro p i; rfl
  | arr a c _ ihc =>
    intro p i
    simp only [movesA, Ty.args, movesR, movesT, ihc]
theorem movesT_args (t : Ty) (p : List UInt8) : movesT t p = hds p ++ movesR t.args p 0 := by
  unfold movesT
  rw [movesA_args]
theorem movesR_snoc (l : List Ty) (a : Ty) : ∀ (p : List UInt8) (i : Nat), movesR (l ++ [a]) p i = movesR l p i ++ movesT a (p ++ [dgt (i + l.length)]) := by
  induction l with
  | nil => intro p i; simp [movesR]
  | cons y l ih =>
    intro p i
    simp only [List.cons_append, movesR, ih, List.length_cons, List.append_assoc]
    rw [show i + 1 + l.length = i + (l.length + 1) by omega]

/-- Three moves for each b in the text. -/
theorem movesA_length (t : Ty) : ∀ (p : List UInt8) (i : Nat), (movesA t p i).length + 3 = 3 * t.text.count 98 := by
  induction t with
  | b => intro p i; rfl
  | arr a c iha ihc =>
    intro p i
    have h1 := iha (p ++ [dgt i]) 0
    have h2 := ihc p (i + 1)
    have h3 : (Ty.arr a c).text.count 98 = a.text.count 98 + c.text.count 98 := by
      simp [Ty.text, List.count_append]
    rw [h3]
    simp only [movesA, List.length_append]
    have : (hds (p ++ [dgt i])).length = 3 := rfl
    omega
theorem movesT_length (t : Ty) (p : List UInt8) : (movesT t p).length = 3 * t.text.count 98 := by
  have h := movesA_length t p 0
  unfold movesT
  rw [List.length_append]
  have : (hds p).length = 3 := rfl
  omega
theorem count_atoms (t : Ty) : 2 * t.text.count 98 = t.atoms + 1 := by
  induction t with
  | b => rfl
  | arr a c iha ihc =>
    have h3 : (Ty.arr a c).text.count 98 = a.text.count 98 + c.text.count 98 := by
      simp [Ty.text, List.count_append]
    simp only [Ty.atoms]
    omega

def isHd (c : UInt8) : Prop := c = 113 ∨ c = 116 ∨ c = 102
theorem isHd_iff {c : UInt8} : isHd c ↔ (c == 113 || c == 116 || c == 102) = true := by
  unfold isHd
  simp [or_assoc]
theorem mem_hds {m p : List UInt8} : m ∈ hds p ↔ ∃ c, isHd c ∧ m = c :: p := by
  unfold hds isHd
  simp only [List.mem_cons, List.not_mem_nil, or_false]
  constructor
  · rintro (h | h | h)
    · exact ⟨_, .inl rfl, h⟩
    · exact ⟨_, .inr (.inl rfl), h⟩
    · exact ⟨_, .inr (.inr rfl), h⟩
  · rintro ⟨c, h | h | h, rfl⟩
    · subst h; exact .inl rfl
    · subst h; exact .inr (.inl rfl)
    · subst h; exact .inr (.inr rfl)

theorem at_dgt {t u : Ty} {k : Nat} (hk : t.args[k]? = some u) (h10 : k < 10) (q : List UInt8) : t.at_ (dgt k :: q) = u.at_ q := by
  rw [at_cons, dgt_val h10, if_pos (by omega), show 48 + k - 48 = k by omega, hk]

theorem mem_movesA (t : Ty) : ∀ (p : List UInt8) (i : Nat), i + t.args.length ≤ 10 → t.atoms ≤ 15 → ∀ m, m ∈ movesA t p i ↔
    ∃ c k u q, isHd c ∧ t.args[k]? = some u ∧ (u.at_ q).isSome = true ∧ m = c :: (p ++ dgt (i + k) :: q) := by
  induction t with
  | b =>
    intro p i _ _ m
    simp [movesA, Ty.args]
  | arr a c iha ihc =>
    intro p i hi ha m
    have hcl : i + 1 + c.args.length ≤ 10 := by simp only [Ty.args, List.length_cons] at hi; omega
    have haa := a.length_args
    simp only [Ty.atoms] at ha
    have hal : 0 + a.args.length ≤ 10 := by omega
    simp only [movesA, List.mem_append, mem_hds, iha _ _ hal (by omega), ihc _ _ hcl (by omega)]
    constructor
    · rintro ((⟨x, hx, rfl⟩ | ⟨x, k, u, q, hx, hk, hq, rfl⟩) | ⟨x, k, u, q, hx, hk, hq, rfl⟩)
      · exact ⟨x, 0, a, [], hx, rfl, rfl, by simp⟩
      · refine ⟨x, 0, a, dgt (0 + k) :: q, hx, rfl, ?_, by simp⟩
        have hk10 : k < 10 := by have := (List.getElem?_eq_some_iff.1 hk).1; omega
        rw [Nat.zero_add, at_dgt hk hk10]
        exact hq
      · refine ⟨x, k + 1, u, q, hx, hk, hq, ?_⟩
        rw [show i + (k + 1) = i + 1 + k by omega]
    · rintro ⟨x, k, u, q, hx, hk, hq, rfl⟩
      cases k with
      | zero =>
        obtain rfl : a = u := by simpa [Ty.args] using hk
        cases q with
        | nil => exact .inl (.inl ⟨x, hx, by simp⟩)
        | cons d q =>
          refine .inl (.inr ?_)
          rw [at_cons] at hq
          split at hq
          · rename_i h48
            cases h : a.args[d.toNat - 48]? with
            | none => rw [h] at hq; cases hq
            | some v =>
              rw [h] at hq
              refine ⟨x, d.toNat - 48, v, q, hx, h, hq, ?_⟩
              have e : dgt (0 + (d.toNat - 48)) = d := by
                unfold dgt
                rw [Nat.zero_add, show 48 + (d.toNat - 48) = d.toNat by omega, UInt8.ofNat_toNat]
              rw [e]
              simp
          · cases hq
      | succ k =>
        refine .inr ⟨x, k, u, q, hx, by simpa [Ty.args] using hk, hq, ?_⟩
        rw [show i + (k + 1) = i + 1 + k by omega]

/-- The list holds the moves. -/
theorem mem_movesT {t : Ty} (ht : t.atoms ≤ 15) (m : List UInt8) : m ∈ movesT t [] ↔ isMove t m = true := by
  have hl := t.length_args
  unfold movesT
  rw [List.mem_append, mem_hds, mem_movesA t [] 0 (by omega) ht]
  constructor
  · rintro (⟨c, hc, rfl⟩ | ⟨c, k, u, q, hc, hk, hq, rfl⟩)
    · simp only [isMove]
      rw [isHd_iff.1 hc]; rfl
    · simp only [isMove]
      have hk10 : k < 10 := by have := (List.getElem?_eq_some_iff.1 hk).1; omega
      rw [isHd_iff.1 hc, List.nil_append, Nat.zero_add, at_dgt hk hk10, hq]; rfl
  · intro h
    obtain ⟨c, p, rfl⟩ := isMove_cons' h
    simp only [isMove, Bool.and_eq_true] at h
    obtain ⟨h1, h2⟩ := h
    cases p with
    | nil => exact .inl ⟨c, isHd_iff.2 h1, rfl⟩
    | cons d q =>
      refine .inr ?_
      rw [at_cons] at h2
      split at h2
      · rename_i h48
        cases h : t.args[d.toNat - 48]? with
        | none => rw [h] at h2; cases h2
        | some v =>
          rw [h] at h2
          refine ⟨c, d.toNat - 48, v, q, isHd_iff.2 h1, h, h2, ?_⟩
          have e : dgt (0 + (d.toNat - 48)) = d := by
            unfold dgt
            rw [Nat.zero_add, show 48 + (d.toNat - 48) = d.toNat by omega, UInt8.ofNat_toNat]
          rw [e]
          simp
      · cases h2

theorem hds_nodup (p : List UInt8) : (hds p).Nodup := by
  unfold hds
  simp
theorem dgt_inj {i k : Nat} (hi : i < 10) (hk : k < 10) (h : dgt i = dgt k) : i = k := by
  have h1 := dgt_val hi
  have h2 := dgt_val hk
  rw [h] at h1
  omega

theorem movesA_nodup (t : Ty) : ∀ (p : List UInt8) (i : Nat), i + t.args.length ≤ 10 → t.atoms ≤ 15 → (movesA t p i).Nodup := by
  induction t with
  | b => intro p i _ _; simp [movesA]
  | arr a c iha ihc =>
    intro p i hi ha
    have hi10 : i < 10 := by simp only [Ty.args, List.length_cons] at hi; omega
    have hcl : i + 1 + c.args.length ≤ 10 := by simp only [Ty.args, List.length_cons] at hi; omega
    have haa := a.length_args
    simp only [Ty.atoms] at ha
    have hal : 0 + a.args.length ≤ 10 := by omega
    simp only [movesA]
    rw [List.nodup_append, List.nodup_append]
    refine ⟨⟨hds_nodup _, iha _ _ hal (by omega), ?_⟩, ihc _ _ hcl (by omega), ?_⟩
    · intro x hx y hy e
      subst e
      obtain ⟨c1, _, rfl⟩ := mem_hds.1 hx
      obtain ⟨c2, k, u, q, _, _, _, e⟩ := (mem_movesA a _ _ hal (by omega) _).1 hy
      have := congrArg List.length e
      simp at this
    · intro x hx y hy e
      subst e
      obtain ⟨c2, k, u, q, _, hk, _, e⟩ := (mem_movesA c _ _ hcl (by omega) _).1 hy
      have hk10 : i + 1 + k < 10 := by have := (List.getElem?_eq_some_iff.1 hk).1; omega
      have : ∃ r, x.tail = p ++ dgt i :: r := by
        rcases List.mem_append.1 hx with h | h
        · obtain ⟨c1, _, rfl⟩ := mem_hds.1 h
          exact ⟨[], by simp⟩
        · obtain ⟨c1, k1, u1, q1, _, _, _, rfl⟩ := (mem_movesA a _ _ hal (by omega) _).1 h
          exact ⟨dgt (0 + k1) :: q1, by simp⟩
      obtain ⟨r, hr⟩ := this
      rw [e, List.tail_cons, List.append_cancel_left_eq] at hr
      have := dgt_inj hk10 hi10 (List.cons.inj hr).1
      omega
theorem movesT_nodup {t : Ty} (ht : t.atoms ≤ 15) : (movesT t []).Nodup := by
  have hl := t.length_args
  unfold movesT
  rw [List.nodup_append]
  refine ⟨hds_nodup _, movesA_nodup t _ _ (by omega) ht, ?_⟩
  intro x hx y hy e
  subst e
  obtain ⟨c1, _, rfl⟩ := mem_hds.1 hx
  obtain ⟨c2, k, u, q, _, _, _, e⟩ := (mem_movesA t _ _ (by omega) ht _).1 hy
  have := congrArg List.length e
  simp at this
theorem at_len {q : List UInt8} : ∀ {t u : Ty}, t.at_ q = some u → 2 * q.length + u.atoms ≤ t.atoms := by
  induction q with
  | nil => intro t u h; obtain rfl : t = u := by simpa [Ty.at_] using h
           simp
  | cons c p ih =>
    intro t u h
    rw [at_cons] at h
    split at h
    · split at h
      · rename_i v hv
        have h1 := Ty.atoms_of_args (List.mem_of_getElem? hv)
        have h2 := ih h
        simp only [List.length_cons]
        omega
      · cases h
    · cases h
/-- A move is short. -/
theorem isMove_len {t : Ty} (ht : t.atoms ≤ 15) {m : List UInt8} (h : isMove t m = true) : m.length ≤ 8 := by
  obtain ⟨c, p, rfl⟩ := isMove_cons' h
  simp only [isMove, Bool.and_eq_true] at h
  obtain ⟨u, hu⟩ := Option.isSome_iff_exists.1 h.2
  have := at_len hu
  have := u.atoms_pos
  simp only [List.length_cons]
  omega

namespace Pl
/-- Does the move m with a pointer to i go on, as the reference asks it? -/
def fitS (p : Pl) (i : Nat) (m : List UInt8) : Bool :=
  (p.view (p.ms.length % 2 == 0) p.ms.length).contains i && ((m != [113] && mOpp m == (p.ms.length % 2 == 0) && mEn m == p.mv i) && (mQ m || p.pend p.ms.length [] == (i : Int)))
/-- As the program asks it. -/
def fitI (t : Ty) (p : Pl) (i : Nat) (m : List UInt8) : Bool := (p.snoc m i).ok t && ((p.snoc m i).vis && (p.snoc m i).br)

def legal (t : Ty) (p : Pl) : Bool := p.ok t && (p.vis && p.br)

theorem fit_eq {t : Ty} {p : Pl} (hp : p.legal t = true) (h60 : p.ms.length < 60) {i : Nat} (hi : i < p.ms.length) {m : List UInt8} (hm : isMove t m = true) : fitI t p i m = fitS p i m := by
  unfold legal at hp
  simp only [Bool.and_eq_true] at hp
  obtain ⟨h1, h2, h3⟩ := hp
  have hl := (ok_iff.1 h1).2.1
  have hn0 : p.ms.length ≠ 0 := by omega
  have hsame := same_snoc p m i hl
  have hlast : (p.snoc m i).mv p.ms.length = m := mv_snoc_last
  have hlastp : (p.snoc m i).pt p.ms.length = (i : Int) := by rw [← hl]; exact pt_snoc_last
  have hokAt : okAt t (p.snoc m i) p.ms.length = (mOpp m == (p.ms.length % 2 == 0) && p.mv i == mEn m) := by
    unfold okAt
    rw [hlast, hlastp, hm, if_neg hn0, Int.toNat_natCast, mv_snoc hi]
    have : ((i : Int) < (p.ms.length : Int)) := by omega
    simp [this]
  have hok : (p.snoc m i).ok t = (mOpp m == (p.ms.length % 2 == 0) && p.mv i == mEn m) := by
    rw [← hokAt, Bool.eq_iff_iff, ok_snoc h1]
    exact ⟨fun h => h.2, fun h => ⟨h60, h⟩⟩
  have hvis : (p.snoc m i).vis = (p.view (mOpp m) p.ms.length).contains i := by
    rw [vis_snoc hl, h2, Bool.true_and]
    unfold visAt
    rw [hlast, hlastp, view_same hsame]
    have hb : (p.ms.length == 0) = false := by rw [beq_eq_false_iff_ne]; exact hn0
    rw [hb, Bool.false_or, Bool.eq_iff_iff, List.contains_iff_mem, List.contains_iff_mem]
    constructor
    · intro h
      obtain ⟨v, hv, e⟩ := List.mem_map.1 h
      obtain rfl : v = i := by omega
      exact hv
    · intro h
      exact List.mem_map.2 ⟨i, h, rfl⟩
  have hbr : (p.snoc m i).br = (mQ m || p.pend p.ms.length [] == (i : Int)) := by
    rw [br_snoc hl, h3, Bool.true_and]
    unfold brAt
    rw [hlast, hlastp, pend_same hsame]
    rw [Bool.beq_comm (a := (i : Int))]
  unfold fitI fitS
  rw [hok, hvis, hbr]
  have hne : p.mv i == mEn m → (m != [113]) = true := by
    intro h
    have h := beq_iff_eq.1 h
    rcases mEn_cases hm with ⟨e1, e2, _⟩ | ⟨e1, _⟩
    · rw [e2] at h
      obtain ⟨c, q, hc⟩ := isMove_cons' (ok_mv h1 hi).1
      rw [hc] at h
      cases h
    · simpa using e1
  rw [Bool.beq_comm (a := p.mv i)] at hne ⊢
  cases ha : (mEn m == p.mv i)
  · simp
  · rw [ha] at hne
    rw [hne rfl]
    cases hb : (mOpp m == (p.ms.length % 2 == 0))
    · simp
    · rw [beq_iff_eq.1 hb]
      simp

/-- All legal plays with one move more. -/
def nextL (t : Ty) (p : Pl) : List Pl :=
  if p.ms.length = 0 then [p.snoc [113] (-1)] else (List.range p.ms.length).flatMap fun i => ((movesT t []).filter (fitS p i)).map fun m => p.snoc m i

theorem legal_empty {t : Ty} {p : Pl} (h : p.ms.length = 0) (hl : p.ps.length = p.ms.length) : p.legal t = true := by
  unfold legal
  have h1 : p.ok t = true := ok_iff.2 ⟨by omega, hl, fun i hi => by omega⟩
  have h2 : p.vis = true := vis_iff.2 fun i hi => by omega
  have h3 : p.br = true := br_iff.2 fun i hi => by omega
  rw [h1, h2, h3]; rfl

/-- The next plays are legal, and begin as the play. -/
theorem mem_next {t : Ty} (ht : t.atoms ≤ 15) {p q : Pl} (hp : p.legal t = true) (h60 : p.ms.length < 60) (h : q ∈ nextL t p) : q.legal t = true ∧ ∃ m x, q = p.snoc m x := by
  unfold nextL at h
  have hp1 := hp
  unfold legal at hp1
  simp only [Bool.and_eq_true] at hp1
  obtain ⟨h1, h2, h3⟩ := hp1
  have hl := (ok_iff.1 h1).2.1
  split at h
  · rename_i h0
    obtain rfl := List.mem_singleton.1 h
    refine ⟨?_, _, _, rfl⟩
    have e0 : p.ms = [] := List.eq_nil_of_length_eq_zero h0
    have e1 : p.ps = [] := List.eq_nil_of_length_eq_zero (by omega)
    have hd : p.snoc [113] (-1) = ⟨[[113]], [-1]⟩ := by unfold snoc; rw [e0, e1]; rfl
    have k0 : ∀ i, i < ([[113]] : List (List UInt8)).length → i = 0 := fun i hi => by simpa using hi
    unfold legal
    rw [hd]
    have a1 : (Pl.mk [[113]] [-1]).ok t = true := ok_iff.2 ⟨by simp, rfl, fun i hi => by
      obtain rfl := k0 i hi
      rfl⟩
    have a2 : (Pl.mk [[113]] [-1]).vis = true := vis_iff.2 fun i hi => by obtain rfl := k0 i hi; rfl
    have a3 : (Pl.mk [[113]] [-1]).br = true := br_iff.2 fun i hi => by obtain rfl := k0 i hi; rfl
    rw [a1, a2, a3]; rfl
  · obtain ⟨i, hi, h⟩ := List.mem_flatMap.1 h
    obtain ⟨m, hm, rfl⟩ := List.mem_map.1 h
    obtain ⟨hm1, hm2⟩ := List.mem_filter.1 hm
    rw [← fit_eq hp h60 (List.mem_range.1 hi) ((mem_movesT ht m).1 hm1)] at hm2
    exact ⟨hm2, m, _, rfl⟩

/-- A legal play is among the next ones of what it is without its last move. -/
theorem in_next {t : Ty} (ht : t.atoms ≤ 15) {p : Pl} {m : List UInt8} {x : Int} (hl : p.ps.length = p.ms.length) (h : (p.snoc m x).legal t = true) : p.snoc m x ∈ nextL t p := by
  have hh := h
  unfold legal at hh
  simp only [Bool.and_eq_true] at hh
  obtain ⟨h1, h2, h3⟩ := hh
  have e1 : (p.snoc m x).ms.length = p.ms.length + 1 := by simp [snoc]
  have hcut : (p.snoc m x).cut p.ms.length = p := by
    obtain ⟨ms, ps⟩ := p
    simp only at hl
    unfold cut snoc
    simp [← hl]
  have g1 := ok_cut p.ms.length h1
  have g2 := vis_cut (n := p.ms.length) h2
  have g3 := br_cut (n := p.ms.length) h3
  rw [hcut] at g1 g2 g3
  have hp : p.legal t = true := by unfold legal; rw [g1, g2, g3]; rfl
  have h60 : p.ms.length < 60 := by have := (ok_iff.1 h1).1; omega
  have hlast : (p.snoc m x).mv p.ms.length = m := mv_snoc_last
  have hlastp : (p.snoc m x).pt p.ms.length = x := by rw [← hl]; exact pt_snoc_last
  have hmv := (ok_mv h1 (show p.ms.length < _ by omega)).1
  rw [hlast] at hmv
  unfold nextL
  split
  · rename_i h0
    have := ok_zero h1 (by omega)
    rw [h0] at hlast hlastp
    rw [this.1] at hlast
    rw [this.2] at hlastp
    rw [← hlast, ← hlastp]
    simp
  · rename_i h0
    obtain ⟨k, hk, hkl, _⟩ := ok_prev h1 (show 0 < p.ms.length by omega) (by omega)
    rw [hlastp] at hk
    subst hk
    refine List.mem_flatMap.2 ⟨k, List.mem_range.2 hkl, List.mem_map.2 ⟨m, List.mem_filter.2 ⟨(mem_movesT ht m).2 hmv, ?_⟩, rfl⟩⟩
    rw [← fit_eq hp h60 hkl hmv]
    exact h

theorem snoc_inj {p : Pl} {m m' : List UInt8} {x x' : Int} (h : p.snoc m x = p.snoc m' x') : m = m' ∧ x = x' := by
  unfold snoc at h
  injection h with h1 h2
  exact ⟨by simpa using h1, by simpa using h2⟩

theorem nodup_map {α β : Type} {f : α → β} : ∀ {l : List α}, l.Nodup → (∀ a ∈ l, ∀ b ∈ l, f a = f b → a = b) → (l.map f).Nodup
  | [], _, _ => by simp
  | a :: l, h, hf => by
    rw [List.nodup_cons] at h
    rw [List.map_cons, List.nodup_cons]
    refine ⟨?_, nodup_map h.2 fun x hx y hy => hf x (by simp [hx]) y (by simp [hy])⟩
    intro hm
    obtain ⟨b, hb, e⟩ := List.mem_map.1 hm
    have := hf b (by simp [hb]) a (by simp) e
    subst this
    exact h.1 hb
theorem nodup_flatMap {α β : Type} {f : α → List β} : ∀ {l : List α}, l.Nodup → (∀ a ∈ l, (f a).Nodup) → (∀ a ∈ l, ∀ b ∈ l, ∀ x, x ∈ f a → x ∈ f b → a = b) → (l.flatMap f).Nodup
  | [], _, _, _ => by simp
  | a :: l, h, h1, h2 => by
    rw [List.nodup_cons] at h
    rw [List.flatMap_cons, List.nodup_append]
    refine ⟨h1 a (by simp), nodup_flatMap h.2 (fun x hx => h1 x (by simp [hx])) (fun x hx y hy => h2 x (by simp [hx]) y (by simp [hy])), ?_⟩
    intro x hx y hy e
    subst e
    obtain ⟨b, hb, hxb⟩ := List.mem_flatMap.1 hy
    have := h2 a (by simp) b (by simp [hb]) x hx hxb
    subst this
    exact h.1 hb

/-- No play is told twice. -/
theorem next_nodup {t : Ty} (ht : t.atoms ≤ 15) (p : Pl) : (nextL t p).Nodup := by
  unfold nextL
  split
  · simp
  · refine nodup_flatMap List.nodup_range ?_ ?_
    · intro i _
      refine nodup_map ((movesT_nodup ht).filter _) fun a _ b _ e => (snoc_inj e).1
    · intro i _ k _ q h1 h2
      obtain ⟨m, _, rfl⟩ := List.mem_map.1 h1
      obtain ⟨m', _, e⟩ := List.mem_map.1 h2
      have := (snoc_inj e).2
      omega
end Pl
end Go.Proofs.YtegidbdgneecmaaDoor
