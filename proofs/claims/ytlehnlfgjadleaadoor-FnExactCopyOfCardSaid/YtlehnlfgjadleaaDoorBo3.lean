/- PLAIN: the program's reading of a body; both read the same. -/
import Derived.Test.YtlehnlfgjadleaaDoorBo2
namespace Go.Proofs.YtlehnlfgjadleaaDoor
open Go.RowKit

/-- The parts behind a level, so many to come, so many nodes left. -/
def iloop (p : Nat → List Ty → List UInt8 → Option (Bo × List UInt8 × Nat)) (hand args : List Ty) : Nat → Nat → Bo → List UInt8 → Option (Bo × List UInt8 × Nat)
  | 0, n, acc, l => if pre [41] l then some (acc, cut [41] l, n) else none
  | m + 1, n, acc, l => if pre [32] l then (match p n (Bo.handAt hand args acc.np) (cut [32] l) with
    | some (x, r, n') => iloop p hand args m n' (.sn acc x) r
    | none => none) else none
def ileaf (n : Nat) (l : List UInt8) : Option (Bo × List UInt8 × Nat) := if isWd (l.take (wlen l)) then some (.w (l.take (wlen l)), l.drop (wlen l), n) else none
/-- The program's reading: so deep, so many nodes left. -/
def ibody : Nat → Nat → List Ty → List UInt8 → Option (Bo × List UInt8 × Nat)
  | 0, n, _, l => match n with
    | 0 => none
    | n + 1 => if pre [40] l then none else ileaf n l
  | d + 1, n, hand, l => match n with
    | 0 => none
    | n + 1 => if pre [40] l then (match numOf ((cut [40] l).take (wlen (cut [40] l))) with
      | some v => (match hand[v]? with
        | some k => iloop (ibody d) hand k.args (k.args.length + 2) n (.hd v) ((cut [40] l).drop (wlen (cut [40] l)))
        | none => none)
      | none => none)
    else ileaf n l
theorem iloop_sound {p : Nat → List Ty → List UInt8 → Option (Bo × List UInt8 × Nat)} {d : Nat} {hand args : List Ty} (hp : ∀ n hd l x r n', p n hd l = some (x, r, n') → l = x.text ++ r ∧ x.wf hd ∧ x.full hd ∧ x.dep ≤ d ∧ n' + x.size = n) :
    ∀ (m n : Nat) (acc : Bo) (l : List UInt8) (b : Bo) (r : List UInt8) (n' : Nat), acc.isLi = true → acc.wf hand → Bo.argsOf hand acc.level = args → acc.np + m = args.length + 2 → acc.dep ≤ d + 1 → iloop p hand args m n acc l = some (b, r, n') →
      b.isLi = true ∧ 40 :: (acc.body ++ l) = b.text ++ r ∧ b.wf hand ∧ b.full hand ∧ b.dep ≤ d + 1 ∧ n' + b.size = n + acc.size := by
  intro m
  induction m with
  | zero =>
    intro n acc l b r n' hli hwf hag hnp hd h
    unfold iloop at h
    split at h
    · rename_i hpre
      cases h
      refine ⟨hli, ?_, hwf, fun _ => by rw [hag]; omega, hd, rfl⟩
      have := pre_spl hpre
      rw [Bo.text_li hli]
      conv => lhs; rw [this]
      simp
    · cases h
  | succ m ih =>
    intro n acc l b r n' hli hwf hag hnp hd h
    unfold iloop at h
    split at h
    · rename_i hpre
      split at h
      · rename_i x r1 n1 hx
        obtain ⟨h1, h2, h3, h4, h5⟩ := hp _ _ _ _ _ _ hx
        obtain ⟨k1, k2, k3, k4, k5, k6⟩ := ih n1 (.sn acc x) r1 b r n' rfl ⟨hli, hwf, by rw [hag]; omega, by rw [hag]; exact h2, by rw [hag]; exact h3⟩ hag (by simp only [Bo.np]; omega) (by simp only [Bo.dep]; omega) h
        refine ⟨k1, ?_, k3, k4, k5, by simp only [Bo.size] at k6; omega⟩
        rw [← k2]
        have := pre_spl hpre
        conv => lhs; rw [this, h1]
        simp [Bo.body, Bo.text]
      · cases h
    · cases h
theorem ileaf_sound {n n' : Nat} {hand : List Ty} {l r : List UInt8} {b : Bo} (h : ileaf n l = some (b, r, n')) : l = b.text ++ r ∧ b.wf hand ∧ b.full hand ∧ b.dep = 0 ∧ n' = n ∧ b.size = 1 := by
  unfold ileaf at h
  split at h
  · rename_i hw
    cases h
    exact ⟨(List.take_append_drop _ _).symm, hw, (fun h => by cases h), rfl, rfl, rfl⟩
  · cases h
theorem ibody_sound : ∀ (d n : Nat) (hand : List Ty) (l : List UInt8) (b : Bo) (r : List UInt8) (n' : Nat), ibody d n hand l = some (b, r, n') → l = b.text ++ r ∧ b.wf hand ∧ b.full hand ∧ b.dep ≤ d ∧ n' + b.size = n := by
  intro d
  induction d with
  | zero =>
    intro n hand l b r n' h
    unfold ibody at h
    cases n with
    | zero => cases h
    | succ n =>
      simp only at h
      split at h
      · cases h
      · obtain ⟨h1, h2, h3, h4, h5, h6⟩ := ileaf_sound (hand := hand) h
        exact ⟨h1, h2, h3, by omega, by omega⟩
  | succ d ih =>
    intro n hand l b r n' h
    unfold ibody at h
    cases n with
    | zero => cases h
    | succ n =>
      simp only at h
      split at h
      · rename_i hpre
        split at h
        · rename_i v hn
          split at h
          · rename_i k hk
            have hag : Bo.argsOf hand v = k.args := by unfold Bo.argsOf; rw [hk]
            obtain ⟨k1, k2, k3, k4, k5, k6⟩ := iloop_sound (d := d) ih (k.args.length + 2) n (.hd v) _ b r n' rfl (List.getElem?_eq_some_iff.1 hk).1 hag (by simp [Bo.np]) (Nat.zero_le _) h
            refine ⟨?_, k3, k4, k5, by simp only [Bo.size] at k6; omega⟩
            rw [← k2]
            have h1 := pre_spl hpre
            have h2 := numOf_sound hn
            show l = 40 :: (Lib.decDigits v ++ _)
            rw [← h2, List.take_append_drop]
            exact h1
          · cases h
        · cases h
      · obtain ⟨h1, h2, h3, h4, h5, h6⟩ := ileaf_sound (hand := hand) h
        exact ⟨h1, h2, h3, by omega, by omega⟩
theorem iloop_parts {p : Nat → List Ty → List UInt8 → Option (Bo × List UInt8 × Nat)} {hand : List Ty} {d : Nat} (hp : ∀ (x : Bo) n hd r, x.wf hd → x.full hd → x.dep ≤ d → x.size ≤ n → okEnd r → (∃ v i, hd = Bo.handAt hand (Bo.argsOf hand v) i) → p n hd (x.text ++ r) = some (x, r, n - x.size)) (b : Bo) :
    ∀ (m n : Nat) (r : List UInt8), b.isLi = true → b.wf hand → b.dep ≤ d + 1 → b.size ≤ n + 1 → okEnd r → iloop p hand (Bo.argsOf hand b.level) (b.np + m) n (.hd b.level) (b.tail ++ r) = iloop p hand (Bo.argsOf hand b.level) m (n + 1 - b.size) b r := by
  induction b with
  | w c => intro m n r h; cases h
  | hd v =>
    intro m n r _ _ _ _ _
    simp [Bo.np, Bo.tail, Bo.level, Bo.size]
  | sn l x ihl _ =>
    intro m n r _ hwf hd hs hr
    obtain ⟨h1, h2, h3, h4, h5⟩ := hwf
    simp only [Bo.dep] at hd
    simp only [Bo.size] at hs
    have hx := x.size_pos
    simp only [Bo.np, Bo.tail, Bo.level, Bo.size]
    rw [show l.np + 1 + m = l.np + (m + 1) by omega, List.append_assoc, List.cons_append, ihl (m + 1) n _ h1 h2 (by omega) (by omega) (okEnd_cons (by decide))]
    conv => lhs; unfold iloop
    rw [if_pos (pre_one 32 (x.text ++ r)).1, (pre_one 32 (x.text ++ r)).2, hp x _ _ r h4 h5 (by omega) (by omega) hr ⟨_, _, rfl⟩]
    show iloop p hand (Bo.argsOf hand l.level) m (n + 1 - l.size - x.size) (l.sn x) r = _
    rw [show n + 1 - l.size - x.size = n + 1 - (l.size + x.size) by omega]
theorem dec_noSep (v : Nat) : noSep (Lib.decDigits v) := by
  intro c hc
  have := decDigits_isDg v c hc
  unfold isDg at this
  simp only [Bool.and_eq_true, decide_eq_true_eq] at this
  cases h : seps.contains c with
  | false => rfl
  | true =>
    rcases sep_iff.1 h with rfl | rfl | rfl
    · exact absurd this.1 (by decide)
    · exact absurd this.1 (by decide)
    · exact absurd this.1 (by decide)
theorem tail_okEnd (b : Bo) (r : List UInt8) : okEnd (b.tail ++ 41 :: r) := by
  have key : ∀ b : Bo, b.tail = [] ∨ ∃ t, b.tail = 32 :: t := by
    intro b
    induction b with
    | w c => exact .inl rfl
    | hd v => exact .inl rfl
    | sn l x ih _ =>
      rcases ih with h | ⟨t, h⟩
      · exact .inr ⟨x.text, by simp [Bo.tail, h]⟩
      · exact .inr ⟨t ++ 32 :: x.text, by simp [Bo.tail, h]⟩
  rcases key b with h | ⟨t, h⟩
  · rw [h]; exact okEnd_cons (by decide)
  · rw [h]; exact okEnd_cons (by decide)
theorem level_lt : ∀ {b : Bo} {hand : List Ty}, b.isLi = true → b.wf hand → b.level < hand.length := by
  intro b
  induction b with
  | w c => intro hand h; cases h
  | hd v => intro hand _ h; exact h
  | sn l x ih _ => intro hand _ h; exact ih h.1 h.2.1
theorem ibody_leaf {d n : Nat} {hand : List Ty} {c r : List UInt8} (hc : isWd c = true) (hr : okEnd r) : ibody d (n + 1) hand (c ++ r) = some (.w c, r, n) := by
  obtain ⟨hns, _, _, h40⟩ := isWd_noSep hc
  obtain ⟨e1, e2⟩ := take_wlen_app hns hr
  have hp : pre [40] (c ++ r) = false := by
    rcases isWd_iff.1 hc with rfl | rfl | rfl <;> rfl
  have hl : ileaf n (c ++ r) = some (.w c, r, n) := by
    unfold ileaf
    rw [e1, e2, if_pos hc]
  cases d with
  | zero => unfold ibody; simp only [hp]; exact hl
  | succ d => unfold ibody; simp only [hp]; exact hl
theorem ibody_text : ∀ (d : Nat) (b : Bo) (N n : Nat) (hand : List Ty) (r : List UInt8), b.wf hand → b.full hand → b.dep ≤ d → b.size ≤ n → okEnd r → HandOk hand N → N + 15 * d ≤ 9999 → ibody d n hand (b.text ++ r) = some (b, r, n - b.size) := by
  intro d
  induction d with
  | zero =>
    intro b N n hand r hwf hfl hd hs hr hh hN
    cases b with
    | w c =>
      obtain ⟨n, rfl⟩ : ∃ k, n = k + 1 := ⟨n - 1, by simp only [Bo.size] at hs; omega⟩
      exact ibody_leaf hwf hr
    | hd v => have := hfl rfl; simp [Bo.np] at this
    | sn l x => simp [Bo.dep] at hd
  | succ d ih =>
    intro b N n hand r hwf hfl hd hs hr hh hN
    have hsp := b.size_pos
    obtain ⟨n, rfl⟩ : ∃ k, n = k + 1 := ⟨n - 1, by omega⟩
    cases hli : b.isLi with
    | false =>
      cases b with
      | w c => exact ibody_leaf hwf hr
      | hd v => cases hli
      | sn l x => cases hli
    | true =>
      have hp := iloop_parts (p := ibody d) (hand := hand) (d := d) (fun x n hd r h1 h2 h3 h4 h5 ⟨v, i, e⟩ => ih x (N + 15) n hd r h1 h2 h3 h4 h5 (by rw [e]; exact hh.at_ v i) (by omega)) b 0 n (41 :: r) hli hwf (by omega) (by omega) (okEnd_cons (by decide))
      have hlv := level_lt hli hwf
      have hk : hand[b.level]? = some hand[b.level] := List.getElem?_eq_getElem hlv
      have hag : Bo.argsOf hand b.level = hand[b.level].args := by unfold Bo.argsOf; rw [hk]
      have hnp := hfl hli
      have hlen : b.level < 10000 := by have := hh.1; omega
      have htx : b.text ++ r = 40 :: (Lib.decDigits b.level ++ (b.tail ++ 41 :: r)) := by
        rw [Bo.text_li hli, Bo.body_eq hli hwf]
        simp
      obtain ⟨e1, e2⟩ := take_wlen_app (dec_noSep b.level) (tail_okEnd b r)
      rw [htx]
      unfold ibody
      simp only [(pre_one 40 _).1, (pre_one 40 _).2, if_true, e1, e2, numOf_dec hlen, hk]
      rw [← hag, ← hnp]
      have e0 : b.np + 0 = b.np := rfl
      rw [e0] at hp
      rw [hp]
      unfold iloop
      rw [if_pos (pre_one 41 r).1, (pre_one 41 r).2]
/-! ### both, whole -/
/-- What the program reads. -/
def readB (hand : List Ty) (l : List UInt8) : Option Bo := match ibody 100 200 hand l with
  | some (b, [], _) => some b
  | _ => none
/-- What the reference reads. -/
def readR (hand : List Ty) (l : List UInt8) : Option Bo := if l.length ≤ 2000 then (match sbody 101 hand l with
  | some (b, []) => if b.size ≤ 200 then some b else none
  | _ => none) else none
def isB (hand : List Ty) (l : List UInt8) (b : Bo) : Prop := l = b.text ∧ b.wf hand ∧ b.full hand ∧ b.dep ≤ 100 ∧ b.size ≤ 200
theorem readB_some {hand : List Ty} (hh : HandOk hand 15) {l : List UInt8} {b : Bo} : readB hand l = some b ↔ isB hand l b := by
  constructor
  · intro h
    unfold readB at h
    split at h
    · rename_i b' n' hb
      cases h
      obtain ⟨h1, h2, h3, h4, h5⟩ := ibody_sound _ _ _ _ _ _ _ hb
      exact ⟨by simpa using h1, h2, h3, h4, by omega⟩
    · cases h
  · rintro ⟨rfl, h2, h3, h4, h5⟩
    have := ibody_text 100 b 15 200 hand [] h2 h3 h4 h5 okEnd_nil hh (by omega)
    rw [List.append_nil] at this
    unfold readB
    rw [this]
theorem body_len (b : Bo) : ∀ (N : Nat) (hand : List Ty), b.wf hand → HandOk hand N → N + 15 * b.dep ≤ 9999 → (b.isLi = true → b.body.length + 5 ≤ 9 * b.size) ∧ b.text.length + 3 ≤ 9 * b.size := by
  induction b with
  | w c =>
    intro N hand hwf _ _
    have hc := (isWd_noSep hwf).2.2.1
    refine ⟨fun h => (by cases h), ?_⟩
    show c.length + 3 ≤ 9 * 1
    omega
  | hd v =>
    intro N hand hwf hh hN
    have hv : v < hand.length := hwf
    have := decDigits_len4 (u := v) (by have := hh.1; omega)
    refine ⟨fun _ => ?_, ?_⟩
    · show (Lib.decDigits v).length + 5 ≤ 9 * 1
      omega
    · show (40 :: (Lib.decDigits v ++ [41])).length + 3 ≤ 9 * 1
      simp
      omega
  | sn l x ihl ihx =>
    intro N hand hwf hh hN
    obtain ⟨h1, h2, h3, h4, h5⟩ := hwf
    simp only [Bo.dep] at hN
    have k1 := (ihl N hand h2 hh (by omega)).1 h1
    have k2 := (ihx (N + 15) _ h4 (hh.at_ _ _) (by omega)).2
    have e1 : (Bo.sn l x).body.length = l.body.length + (1 + x.text.length) := by simp [Bo.body, Bo.text]; omega
    have e2 : (Bo.sn l x).text.length = (Bo.sn l x).body.length + 2 := by
      rw [Bo.text_li rfl]
      simp
    simp only [Bo.size]
    exact ⟨fun _ => by omega, by omega⟩
theorem readR_some {hand : List Ty} (hh : HandOk hand 15) {l : List UInt8} {b : Bo} : readR hand l = some b ↔ isB hand l b := by
  constructor
  · intro h
    unfold readR at h
    split at h
    · split at h
      · rename_i b' hb
        split at h
        · cases h
          obtain ⟨h1, h2, h3, h4⟩ := sbody_sound _ _ _ _ _ hb
          exact ⟨by simpa using h1, h2, h3, by omega, by assumption⟩
        · cases h
      · cases h
    · cases h
  · rintro ⟨rfl, h2, h3, h4, h5⟩
    have := sbody_text 101 b 15 hand [] h2 h3 (by omega) hh (by omega)
    rw [List.append_nil] at this
    have hlen : b.text.length ≤ 2000 := by
      have := (body_len b 15 hand h2 hh (by omega)).2
      omega
    unfold readR
    rw [if_pos hlen, this]
    simp only
    rw [if_pos h5]
theorem readR_eq {hand : List Ty} (hh : HandOk hand 15) (l : List UInt8) : readR hand l = readB hand l := by
  cases h : readR hand l with
  | some b => exact ((readB_some hh).2 ((readR_some hh).1 h)).symm
  | none =>
    cases h2 : readB hand l with
    | none => rfl
    | some b => rw [(readR_some hh).2 ((readB_some hh).1 h2)] at h; cases h
end Go.Proofs.YtlehnlfgjadleaaDoor
