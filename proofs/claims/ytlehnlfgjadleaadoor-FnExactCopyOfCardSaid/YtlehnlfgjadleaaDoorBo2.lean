/- PLAIN: the reference's reading of a body. -/
import Derived.Test.YtlehnlfgjadleaaDoorBo
namespace Go.Proofs.YtlehnlfgjadleaaDoor
open Go.RowKit

/-- Up to four digits, no zero ahead of others. -/
def digs (l : List UInt8) : List UInt8 := (l.take 4).takeWhile isDg
def num4 (l : List UInt8) : Option (Nat × List UInt8) :=
  if digs l = [] then none
  else if (digs l).length > 1 ∧ (digs l).head? = some 48 then none
  else some (numV (digs l), l.drop (digs l).length)
theorem digs_app (l : List UInt8) : l = digs l ++ l.drop (digs l).length := by
  have h : digs l <+: l := (List.takeWhile_prefix _).trans (List.take_prefix _ _)
  obtain ⟨t, ht⟩ := h
  generalize digs l = d at *
  subst ht
  rw [List.drop_left]
theorem digs_isDg (l : List UInt8) : ∀ c ∈ digs l, isDg c = true := by
  intro c hc
  exact List.all_eq_true.1 (List.all_takeWhile (p := isDg) (l := l.take 4)) c hc
theorem num4_sound {l r : List UInt8} {v : Nat} (h : num4 l = some (v, r)) : l = Lib.decDigits v ++ r := by
  unfold num4 at h
  split at h
  · cases h
  · rename_i h1
    split at h
    · cases h
    · rename_i h2
      cases h
      have hd := (dec_numV _ (digs l) rfl (digs_isDg l) h1 (fun h0 => by
        have hp : 0 < (digs l).length := List.length_pos_iff.2 h1
        by_cases h3 : (digs l).length > 1
        · exact absurd ⟨h3, h0⟩ h2
        · omega)).1
      rw [hd]
      exact digs_app l
theorem digs_dec {v : Nat} (hv : v < 10000) {r : List UInt8} (hr : ∀ c ∈ r.head?, isDg c = false) : digs (Lib.decDigits v ++ r) = Lib.decDigits v := by
  have hl := decDigits_len4 hv
  have hd := decDigits_isDg v
  unfold digs
  rw [List.take_append]
  rw [List.take_of_length_le hl]
  rw [List.takeWhile_append_of_pos hd]
  have : (r.take (4 - (Lib.decDigits v).length)).takeWhile isDg = [] := by
    cases r with
    | nil => simp
    | cons c r =>
      have hc := hr c (by simp)
      cases 4 - (Lib.decDigits v).length with
      | zero => rfl
      | succ n => simp [hc]
  rw [this, List.append_nil]
theorem num4_dec {v : Nat} (hv : v < 10000) {r : List UInt8} (hr : ∀ c ∈ r.head?, isDg c = false) : num4 (Lib.decDigits v ++ r) = some (v, r) := by
  unfold num4
  rw [digs_dec hv hr]
  rw [if_neg (decDigits_ne v), numV_dec, List.drop_left]
  rw [if_neg]
  rintro ⟨h1, h2⟩
  have h0 := decDigits_zero_head h2
  subst h0
  rw [decDigits_lt (by omega)] at h1
  simp at h1

/-- The parts behind a level, so many to come. -/
def bloop (p : List Ty → List UInt8 → Option (Bo × List UInt8)) (hand args : List Ty) : Nat → Bo → List UInt8 → Option (Bo × List UInt8)
  | 0, acc, l => if pre [41] l then some (acc, cut [41] l) else none
  | m + 1, acc, l => if pre [32] l then (match p (Bo.handAt hand args acc.np) (cut [32] l) with
    | some (x, r) => bloop p hand args m (.sn acc x) r
    | none => none) else none
/-- The reference's reading: so deep. -/
def sbody : Nat → List Ty → List UInt8 → Option (Bo × List UInt8)
  | 0, _, _ => none
  | f + 1, hand, l => if pre [116] l ∨ pre [102] l ∨ pre [117] l then some (.w (l.take 1), l.drop 1)
    else if pre [40] l then (match num4 (cut [40] l) with
      | some (v, r) => (match hand[v]? with
        | some k => bloop (sbody f) hand k.args (k.args.length + 2) (.hd v) r
        | none => none)
      | none => none)
    else none
def lead (acc : Bo) : List UInt8 := 40 :: acc.body
theorem pre_spl {t l : List UInt8} (h : pre t l = true) : l = t ++ cut t l := by
  unfold pre at h
  obtain ⟨r, rfl⟩ := List.isPrefixOf_iff_prefix.1 h
  unfold cut
  rw [if_pos h, List.drop_left]
namespace Bo
/-- The parts' texts. -/
def tail : Bo → List UInt8
  | .sn l x => l.tail ++ 32 :: x.text
  | _ => []
theorem text_li {b : Bo} (h : b.isLi = true) : b.text = 40 :: (b.body ++ [41]) := by cases b with | w c => cases h | hd v => rfl | sn l x => rfl
theorem body_eq {b : Bo} {hand : List Ty} (h : b.isLi = true) (hw : b.wf hand) : b.body = Lib.decDigits b.level ++ b.tail := by
  induction b with
  | w c => cases h
  | hd v => simp [body, level, tail]
  | sn l x ih _ =>
    obtain ⟨h1, h2, _⟩ := hw
    simp only [body, level, tail]
    rw [ih h1 h2, List.append_assoc]
    rfl
theorem tail_head (b : Bo) (r : List UInt8) : ∀ c ∈ (b.tail ++ 41 :: r).head?, isDg c = false := by
  have key : ∀ b : Bo, b.tail = [] ∨ ∃ t, b.tail = 32 :: t := by
    intro b
    induction b with
    | w c => exact .inl rfl
    | hd v => exact .inl rfl
    | sn l x ih _ =>
      rcases ih with h | ⟨t, h⟩
      · exact .inr ⟨x.text, by simp [tail, h]⟩
      · exact .inr ⟨t ++ 32 :: x.text, by simp [tail, h]⟩
  intro c hc
  rcases key b with h | ⟨t, h⟩
  · rw [h] at hc
    simp at hc
    subst hc
    decide
  · rw [h] at hc
    simp at hc
    subst hc
    decide
end Bo
theorem bloop_sound {p : List Ty → List UInt8 → Option (Bo × List UInt8)} {d : Nat} {hand args : List Ty} (hp : ∀ hd l x r, p hd l = some (x, r) → l = x.text ++ r ∧ x.wf hd ∧ x.full hd ∧ x.dep + 1 ≤ d) :
    ∀ (m : Nat) (acc : Bo) (l : List UInt8) (b : Bo) (r : List UInt8), acc.isLi = true → acc.wf hand → Bo.argsOf hand acc.level = args → acc.np + m = args.length + 2 → acc.dep ≤ d → bloop p hand args m acc l = some (b, r) →
      b.isLi = true ∧ 40 :: (acc.body ++ l) = b.text ++ r ∧ b.wf hand ∧ b.full hand ∧ b.dep ≤ d := by
  intro m
  induction m with
  | zero =>
    intro acc l b r hli hwf hag hnp hd h
    unfold bloop at h
    split at h
    · rename_i hpre
      cases h
      refine ⟨hli, ?_, hwf, fun _ => by rw [hag]; omega, hd⟩
      have := pre_spl hpre
      rw [Bo.text_li hli]
      conv => lhs; rw [this]
      simp
    · cases h
  | succ m ih =>
    intro acc l b r hli hwf hag hnp hd h
    unfold bloop at h
    split at h
    · rename_i hpre
      split at h
      · rename_i x r1 hx
        obtain ⟨h1, h2, h3, h4⟩ := hp _ _ _ _ hx
        obtain ⟨k1, k2, k3, k4, k5⟩ := ih (.sn acc x) r1 b r rfl ⟨hli, hwf, by rw [hag]; omega, by rw [hag]; exact h2, by rw [hag]; exact h3⟩ hag (by simp only [Bo.np]; omega) (by simp only [Bo.dep]; omega) h
        refine ⟨k1, ?_, k3, k4, k5⟩
        rw [← k2]
        have := pre_spl hpre
        conv => lhs; rw [this, h1]
        simp [Bo.body, Bo.text]
      · cases h
    · cases h
theorem sbody_sound : ∀ (f : Nat) (hand : List Ty) (l : List UInt8) (b : Bo) (r : List UInt8), sbody f hand l = some (b, r) → l = b.text ++ r ∧ b.wf hand ∧ b.full hand ∧ b.dep + 1 ≤ f := by
  intro f
  induction f with
  | zero => intro hand l b r h; cases h
  | succ f ih =>
    intro hand l b r h
    unfold sbody at h
    split at h
    · rename_i hw
      cases h
      have key : ∃ c r, l = c :: r ∧ isWd [c] = true := by
        rcases hw with h | h | h
        · exact ⟨116, _, pre_spl h, rfl⟩
        · exact ⟨102, _, pre_spl h, rfl⟩
        · exact ⟨117, _, pre_spl h, rfl⟩
      obtain ⟨c, r, rfl, hc⟩ := key
      exact ⟨rfl, hc, (fun h => by cases h), Nat.succ_le_succ (Nat.zero_le f)⟩
    · split at h
      · rename_i hpre
        split at h
        · rename_i v r1 hn
          split at h
          · rename_i k hk
            have hag : Bo.argsOf hand v = k.args := by unfold Bo.argsOf; rw [hk]
            obtain ⟨k1, k2, k3, k4, k5⟩ := bloop_sound (d := f) ih (k.args.length + 2) (.hd v) r1 b r rfl (List.getElem?_eq_some_iff.1 hk).1 hag (by simp [Bo.np]) (Nat.zero_le _) h
            refine ⟨?_, k3, k4, by omega⟩
            rw [← k2]
            have h1 := pre_spl hpre
            have h2 := num4_sound hn
            conv => lhs; rw [h1, h2]
            simp [Bo.body]
          · cases h
        · cases h
      · cases h

/-! ### what is written is read -/
/-- Not many types at hand, all small. -/
def HandOk (hand : List Ty) (N : Nat) : Prop := hand.length ≤ N ∧ ∀ k ∈ hand, k.atoms ≤ 15
theorem args_atoms {k a : Ty} (h : a ∈ k.args) : a.atoms ≤ k.atoms := by
  induction k with
  | b => cases h
  | arr x y _ ihy =>
    simp only [Ty.args, List.mem_cons] at h
    simp only [Ty.atoms]
    rcases h with rfl | h
    · omega
    · have := ihy h; omega
theorem HandOk.at_ {hand : List Ty} {N : Nat} (h : HandOk hand N) (v i : Nat) : HandOk (Bo.handAt hand (Bo.argsOf hand v) i) (N + 15) := by
  unfold Bo.handAt
  split
  · rename_i a ha
    have ha2 : a ∈ Bo.argsOf hand v := List.mem_of_getElem? ha
    have ha15 : a.atoms ≤ 15 := by
      unfold Bo.argsOf at ha2
      split at ha2
      · rename_i k hk
        have := h.2 k (List.mem_of_getElem? hk)
        have := args_atoms ha2
        omega
      · cases ha2
    have hl := a.length_args
    refine ⟨by rw [List.length_append]; have := h.1; omega, fun k hk => ?_⟩
    rcases List.mem_append.1 hk with hk | hk
    · exact h.2 k hk
    · have := args_atoms hk; omega
  · exact ⟨Nat.le_trans h.1 (Nat.le_add_right _ _), h.2⟩
theorem bloop_parts {p : List Ty → List UInt8 → Option (Bo × List UInt8)} {hand : List Ty} {d : Nat} (hp : ∀ (x : Bo) hd r, x.wf hd → x.full hd → x.dep + 1 ≤ d → (∃ v i, hd = Bo.handAt hand (Bo.argsOf hand v) i) → p hd (x.text ++ r) = some (x, r)) (b : Bo) :
    ∀ (m : Nat) (r : List UInt8), b.isLi = true → b.wf hand → b.dep ≤ d → bloop p hand (Bo.argsOf hand b.level) (b.np + m) (.hd b.level) (b.tail ++ r) = bloop p hand (Bo.argsOf hand b.level) m b r := by
  induction b with
  | w c => intro m r h; cases h
  | hd v =>
    intro m r _ _ _
    simp [Bo.np, Bo.tail, Bo.level]
  | sn l x ihl _ =>
    intro m r _ hwf hd
    obtain ⟨h1, h2, h3, h4, h5⟩ := hwf
    simp only [Bo.dep] at hd
    simp only [Bo.np, Bo.tail, Bo.level]
    rw [show l.np + 1 + m = l.np + (m + 1) by omega, List.append_assoc, ihl (m + 1) _ h1 h2 (by omega)]
    conv => lhs; unfold bloop
    rw [List.cons_append, if_pos (pre_one 32 (x.text ++ r)).1, (pre_one 32 (x.text ++ r)).2, hp x _ r h4 h5 (by omega) ⟨_, _, rfl⟩]
theorem sbody_text : ∀ (f : Nat) (b : Bo) (N : Nat) (hand : List Ty) (r : List UInt8), b.wf hand → b.full hand → b.dep + 1 ≤ f → HandOk hand N → N + 15 * f ≤ 9999 → sbody f hand (b.text ++ r) = some (b, r) := by
  intro f
  induction f with
  | zero => intro b N hand r _ _ h; omega
  | succ f ih =>
    intro b N hand r hwf hfl hd hh hN
    cases hli : b.isLi with
    | false =>
      cases b with
      | w c =>
        have hc : isWd c = true := hwf
        rcases isWd_iff.1 hc with rfl | rfl | rfl <;> rfl
      | hd v => cases hli
      | sn l x => cases hli
    | true =>
      have hp := bloop_parts (p := sbody f) (hand := hand) (d := f) (fun x hd r h1 h2 h3 ⟨v, i, e⟩ => ih x (N + 15) hd r h1 h2 h3 (by rw [e]; exact hh.at_ v i) (by omega)) b 0 (41 :: r) hli hwf (by omega)
      have hlv : b.level < hand.length := by
        have key : ∀ b : Bo, b.isLi = true → b.wf hand → b.level < hand.length := by
          intro b
          induction b with
          | w c => intro h; cases h
          | hd v => intro _ h; exact h
          | sn l x ih _ => intro _ h; exact ih h.1 h.2.1
        exact key b hli hwf
      have hk : hand[b.level]? = some hand[b.level] := List.getElem?_eq_getElem hlv
      have hag : Bo.argsOf hand b.level = hand[b.level].args := by unfold Bo.argsOf; rw [hk]
      have hnp := hfl hli
      have hlen : b.level < 10000 := by have := hh.1; omega
      have htx : b.text ++ r = 40 :: (Lib.decDigits b.level ++ (b.tail ++ 41 :: r)) := by
        rw [Bo.text_li hli, Bo.body_eq hli hwf]
        simp
      rw [htx]
      unfold sbody
      rw [if_neg (by
        rintro (h | h | h)
        · rw [pre_ne _ (by decide)] at h; cases h
        · rw [pre_ne _ (by decide)] at h; cases h
        · rw [pre_ne _ (by decide)] at h; cases h), if_pos (pre_one 40 _).1, (pre_one 40 _).2, num4_dec hlen (Bo.tail_head b r)]
      simp only [hk]
      rw [← hag, ← hnp]
      have e0 : b.np + 0 = b.np := rfl
      rw [e0] at hp
      rw [hp]
      unfold bloop
      rw [if_pos (pre_one 41 r).1, (pre_one 41 r).2]
end Go.Proofs.YtlehnlfgjadleaaDoor
