/- PLAIN: terms, their texts, and what the program's reader of them returns. -/
import Derived.Test.YtlehnlfgjadleaaDoorWord
import Derived.Test.YtlehnlfgjadleaaDoorKind
namespace Go.Proofs.YtlehnlfgjadleaaDoor
open Go.RowKit

def lamW : List UInt8 := [108, 97, 109]
def appW : List UInt8 := [97, 112, 112]
def ifW : List UInt8 := [105, 102]
/-- A name: x, y or z, with at most two digits. -/
def isNm (s : List UInt8) : Bool := match s with
  | [] => false
  | c :: r => decide (r.length ≤ 2) && (decide (120 ≤ c.toNat) && decide (c.toNat ≤ 122)) && r.all fun d => decide (48 ≤ d.toNat) && decide (d.toNat ≤ 57)
def isWd (s : List UInt8) : Bool := s == [116] || s == [102] || s == [117]

inductive Tm where
  | w (c : List UInt8)
  | nm (x : List UInt8)
  | lam (x : List UInt8) (k : Ty) (b : Tm)
  | app (m n : Tm)
  | ite (l m n : Tm)

namespace Tm
def text : Tm → List UInt8
  | .w c => c
  | .nm x => x
  | .lam x k b => 40 :: (lamW ++ (32 :: (x ++ (32 :: (k.text ++ (32 :: (b.text ++ [41])))))))
  | .app m n => 40 :: (appW ++ (32 :: (m.text ++ (32 :: (n.text ++ [41])))))
  | .ite l m n => 40 :: (ifW ++ (32 :: (l.text ++ (32 :: (m.text ++ (32 :: (n.text ++ [41])))))))
def wf : Tm → Bool
  | .w c => isWd c
  | .nm x => isNm x
  | .lam x _ b => isNm x && b.wf
  | .app m n => m.wf && n.wf
  | .ite l m n => l.wf && m.wf && n.wf
def atoms : Tm → Nat
  | .w _ => 1
  | .nm _ => 1
  | .lam _ k b => 2 + k.atoms + b.atoms
  | .app m n => 1 + m.atoms + n.atoms
  | .ite l m n => 1 + l.atoms + m.atoms + n.atoms
def depth : Tm → Nat
  | .w _ => 0
  | .nm _ => 0
  | .lam _ _ b => 1 + b.depth
  | .app m n => 1 + max m.depth n.depth
  | .ite l m n => 1 + max l.depth (max m.depth n.depth)
/-- No type of more than 15 atoms. -/
def small : Tm → Bool
  | .w _ => true
  | .nm _ => true
  | .lam _ k b => decide (k.atoms ≤ 15) && b.small
  | .app m n => m.small && n.small
  | .ite l m n => l.small && m.small && n.small
theorem atoms_pos (t : Tm) : 1 ≤ t.atoms := by cases t <;> simp [atoms] <;> omega
theorem depth_atoms (t : Tm) : t.depth < t.atoms := by
  induction t with
  | w | nm => simp [depth, atoms]
  | lam x k b ih => have := Ty.atoms_pos k; simp only [depth, atoms]; omega
  | app m n ihm ihn => simp only [depth, atoms]; omega
  | ite l m n ihl ihm ihn => simp only [depth, atoms]; omega
end Tm

def noSep (l : List UInt8) : Prop := ∀ c ∈ l, seps.contains c = false
def okEnd (r : List UInt8) : Prop := ∀ c r', r = c :: r' → seps.contains c = true
theorem wlen_app {wd r : List UInt8} (h : noSep wd) (hr : okEnd r) : wlen (wd ++ r) = wd.length := by
  unfold wlen
  induction wd with
  | nil =>
    cases r with
    | nil => rfl
    | cons c r' =>
      rw [List.nil_append, List.takeWhile_cons_of_neg (by rw [hr c r' rfl]; decide)]
  | cons c wd ih =>
    have h1 := h c (by simp)
    rw [List.cons_append, List.takeWhile_cons_of_pos (by rw [h1]; rfl), List.length_cons, List.length_cons, ih fun d hd => h d (by simp [hd])]
theorem wlen_noSep (l : List UInt8) : noSep (l.take (wlen l)) := by
  unfold wlen
  induction l with
  | nil => intro c hc; cases hc
  | cons b l ih =>
    cases hb : seps.contains b with
    | true =>
      rw [List.takeWhile_cons_of_neg (by rw [hb]; decide)]
      intro c hc
      cases hc
    | false =>
      rw [List.takeWhile_cons_of_pos (by rw [hb]; rfl), List.length_cons, List.take_succ_cons]
      intro c hc
      rcases List.mem_cons.1 hc with rfl | hc
      · exact hb
      · exact ih c hc
theorem wlen_okEnd (l : List UInt8) : okEnd (l.drop (wlen l)) := by
  unfold wlen
  induction l with
  | nil => intro c r' h; simp at h
  | cons b l ih =>
    cases hb : seps.contains b with
    | true =>
      rw [List.takeWhile_cons_of_neg (by rw [hb]; decide)]
      intro c r' h
      simp at h
      rw [← h.1]
      exact hb
    | false =>
      rw [List.takeWhile_cons_of_pos (by rw [hb]; rfl)]
      exact ih
theorem take_wlen_app {wd r : List UInt8} (h : noSep wd) (hr : okEnd r) : (wd ++ r).take (wlen (wd ++ r)) = wd ∧ (wd ++ r).drop (wlen (wd ++ r)) = r := by
  rw [wlen_app h hr]
  simp
theorem okEnd_cons {c : UInt8} {r : List UInt8} (h : seps.contains c = true) : okEnd (c :: r) := fun d r' e => by cases e; exact h
theorem okEnd_nil : okEnd [] := fun d r' e => by cases e
theorem sep_iff {c : UInt8} : seps.contains c = true ↔ c = 32 ∨ c = 40 ∨ c = 41 := by simp [seps]
theorem isNm_noSep {x : List UInt8} (h : isNm x = true) : noSep x := by
  cases x with
  | nil => intro c hc; cases hc
  | cons c r =>
    simp only [isNm, Bool.and_eq_true, decide_eq_true_eq, List.all_eq_true] at h
    intro d hd
    cases hs : seps.contains d with
    | false => rfl
    | true =>
      exfalso
      rcases List.mem_cons.1 hd with rfl | hd
      · rcases sep_iff.1 hs with rfl | rfl | rfl <;> exact absurd h.1.2.1 (by decide)
      · have h1 := h.2 d hd
        rcases sep_iff.1 hs with rfl | rfl | rfl <;> exact absurd h1.1 (by decide)
theorem isNm_head {x : List UInt8} (h : isNm x = true) : ∃ c r, x = c :: r ∧ c ≠ 40 ∧ x.length ≤ 3 := by
  cases x with
  | nil => cases h
  | cons c r =>
    simp only [isNm, Bool.and_eq_true, decide_eq_true_eq] at h
    refine ⟨c, r, rfl, ?_, by simp; omega⟩
    rintro rfl
    exact absurd h.1.2.1 (by decide)
theorem isWd_iff {c : List UInt8} : isWd c = true ↔ c = [116] ∨ c = [102] ∨ c = [117] := by simp [isWd, or_assoc]
theorem isWd_noSep {c : List UInt8} (h : isWd c = true) : noSep c ∧ isNm c = false ∧ c.length = 1 ∧ pre [40] c = false := by
  rcases isWd_iff.1 h with rfl | rfl | rfl <;> refine ⟨?_, by decide, rfl, by decide⟩ <;> (intro d hd; obtain rfl := List.mem_singleton.1 hd; decide)

/-! ### the reader -/
def many (wd : List UInt8) : Nat := if wd = lamW then 1 else if wd = appW then 2 else if wd = ifW then 3 else 0
def tword (l : List UInt8) : Option (Tm × List UInt8) :=
  if isNm (l.take (wlen l)) then some (.nm (l.take (wlen l)), l.drop (wlen l)) else if isWd (l.take (wlen l)) then some (.w (l.take (wlen l)), l.drop (wlen l)) else none
/-- so many parts, each behind a space. -/
def tparts (p : List UInt8 → Option (Tm × List UInt8)) : Nat → List UInt8 → Option (List Tm × List UInt8)
  | 0, l => some ([], l)
  | j + 1, l => if pre [32] l then (match p (cut [32] l) with
    | some (t, r) => (match tparts p j r with | some (ts, r') => some (t :: ts, r') | none => none)
    | none => none) else none
/-- a name and a type. -/
def tbind (l : List UInt8) : Option (List UInt8 × Ty × List UInt8) :=
  if pre [32] l then
    let l2 := cut [32] l
    let x := l2.take (wlen l2)
    let l3 := l2.drop (wlen l2)
    if isNm x && pre [32] l3 then (match Ty.parse 60 (cut [32] l3) with | some (k, l4) => some (x, k, l4) | none => none) else none
  else none
def mkTm (x : List UInt8) (k : Ty) : List Tm → Tm
  | [b] => .lam x k b
  | [m, n] => .app m n
  | [l, m, n] => .ite l m n
  | _ => .w []
def tend (x : List UInt8) (k : Ty) (ps : Option (List Tm × List UInt8)) : Option (Tm × List UInt8) := match ps with
  | some (ts, r) => if pre [41] r then some (mkTm x k ts, cut [41] r) else none
  | none => none
def tlist (p : List UInt8 → Option (Tm × List UInt8)) (l : List UInt8) : Option (Tm × List UInt8) :=
  let wd := l.take (wlen l)
  let r := l.drop (wlen l)
  if many wd = 0 then none
  else if wd = lamW then (match tbind r with | some (x, k, r2) => tend x k (tparts p 1 r2) | none => none)
  else tend [] .b (tparts p (many wd) r)
def tparse : Nat → List UInt8 → Option (Tm × List UInt8)
  | 0, l => if pre [40] l then none else tword l
  | n + 1, l => if pre [40] l then tlist (tparse n) (cut [40] l) else tword l

theorem tword_sound {l r : List UInt8} {t : Tm} (h : tword l = some (t, r)) : l = t.text ++ r ∧ t.wf = true ∧ t.depth = 0 := by
  have e := List.take_append_drop (wlen l) l
  unfold tword at h
  split at h
  · rename_i h1
    simp at h
    obtain ⟨rfl, rfl⟩ := h
    exact ⟨e.symm, h1, rfl⟩
  · split at h
    · rename_i h1
      simp at h
      obtain ⟨rfl, rfl⟩ := h
      exact ⟨e.symm, h1, rfl⟩
    · cases h
/-- the texts of parts. -/
def ptexts : List Tm → List UInt8
  | [] => []
  | t :: ts => 32 :: (t.text ++ ptexts ts)
theorem tparts_sound {p : List UInt8 → Option (Tm × List UInt8)} {n : Nat} (hp : ∀ l t r, p l = some (t, r) → l = t.text ++ r ∧ t.wf = true ∧ t.depth ≤ n) :
    ∀ (j : Nat) (l : List UInt8) (ts : List Tm) (r : List UInt8), tparts p j l = some (ts, r) → l = ptexts ts ++ r ∧ ts.length = j ∧ ∀ t ∈ ts, t.wf = true ∧ t.depth ≤ n
  | 0, l, ts, r, h => by
    simp [tparts] at h
    obtain ⟨rfl, rfl⟩ := h
    exact ⟨rfl, rfl, by simp⟩
  | j + 1, l, ts, r, h => by
    unfold tparts at h
    split at h
    · rename_i h1
      split at h
      · rename_i t r1 h2
        split at h
        · rename_i ts' r2 h3
          simp at h
          obtain ⟨rfl, rfl⟩ := h
          have k1 := hp _ _ _ h2
          have k2 := tparts_sound hp j _ _ _ h3
          refine ⟨?_, by simp [k2.2.1], fun u hu => ?_⟩
          · have e := pre_split h1
            rw [e, k1.1, k2.1]
            simp [ptexts]
          · rcases List.mem_cons.1 hu with rfl | hu
            · exact k1.2
            · exact k2.2.2 u hu
        · cases h
      · cases h
    · cases h
theorem len2 {α : Type} {l : List α} (h : l.length = 2) : ∃ a b, l = [a, b] := by
  match l, h with
  | [a, b], _ => exact ⟨a, b, rfl⟩
theorem len3 {α : Type} {l : List α} (h : l.length = 3) : ∃ a b c, l = [a, b, c] := by
  match l, h with
  | [a, b, c], _ => exact ⟨a, b, c, rfl⟩
theorem lamW_noSep : noSep lamW := by intro c hc; simp [lamW] at hc; rcases hc with rfl | rfl | rfl <;> decide
theorem appW_noSep : noSep appW := by intro c hc; simp [appW] at hc; rcases hc with rfl | rfl <;> decide
theorem ifW_noSep : noSep ifW := by intro c hc; simp [ifW] at hc; rcases hc with rfl | rfl <;> decide
theorem many_cases {wd : List UInt8} (h : many wd ≠ 0) : (wd = lamW ∧ many wd = 1) ∨ (wd = appW ∧ many wd = 2) ∨ (wd = ifW ∧ many wd = 3) := by
  unfold many at h ⊢
  split
  · exact .inl ⟨by assumption, rfl⟩
  · split
    · exact .inr (.inl ⟨by assumption, rfl⟩)
    · split
      · exact .inr (.inr ⟨by assumption, rfl⟩)
      · rename_i h1 h2 h3
        rw [if_neg h1, if_neg h2, if_neg h3] at h
        exact absurd rfl h
theorem tparse_sound : ∀ (n : Nat) (l : List UInt8) (t : Tm) (r : List UInt8), tparse n l = some (t, r) → l = t.text ++ r ∧ t.wf = true ∧ t.depth ≤ n := by
  intro n
  induction n with
  | zero =>
    intro l t r h
    unfold tparse at h
    split at h
    · cases h
    · have := tword_sound h
      exact ⟨this.1, this.2.1, by omega⟩
  | succ n ih =>
    intro l t r h
    unfold tparse at h
    split at h
    · rename_i h1
      have e := pre_split h1
      rw [e]
      generalize cut [40] l = l1 at *
      have e1 := List.take_append_drop (wlen l1) l1
      unfold tlist at h
      simp only at h
      split at h
      · cases h
      · rename_i hm
        rcases many_cases hm with ⟨hw, hmm⟩ | ⟨hw, hmm⟩ | ⟨hw, hmm⟩
        · rw [if_pos hw] at h
          rw [← e1, hw]
          split at h
          · rename_i x k r2 hb
            unfold tbind at hb
            simp only at hb
            split at hb
            · rename_i h3
              have e3 := pre_split h3
              generalize cut [32] (l1.drop (wlen l1)) = l2 at *
              have e4 := List.take_append_drop (wlen l2) l2
              split at hb
              · rename_i h4
                rw [Bool.and_eq_true] at h4
                have e5 := pre_split h4.2
                split at hb
                · rename_i k' l4 h5
                  simp at hb
                  obtain ⟨rfl, rfl, rfl⟩ := hb
                  have e6 := Ty.parse_sound _ _ _ _ h5
                  unfold tend at h
                  split at h
                  · rename_i ts r3 h6
                    have k6 := tparts_sound ih _ _ _ _ h6
                    split at h
                    · rename_i h7
                      have e7 := pre_split h7
                      simp at h
                      obtain ⟨rfl, rfl⟩ := h
                      obtain ⟨b, rfl⟩ := List.length_eq_one_iff.1 k6.2.1
                      have k7 := k6.2.2 b (by simp)
                      refine ⟨?_, ?_, ?_⟩
                      · have k61 := k6.1
                        generalize List.take (wlen l2) l2 = x0 at *
                        generalize List.drop (wlen l2) l2 = d0 at *
                        generalize cut [32] d0 = d1 at *
                        generalize cut [41] r3 = r4 at *
                        rw [e3, ← e4, e5, e6, k61, e7]
                        simp [mkTm, Tm.text, ptexts]
                      · simp [mkTm, Tm.wf, h4.1, k7.1]
                      · simp only [mkTm, Tm.depth]; omega
                    · cases h
                  · cases h
                · cases hb
              · cases hb
            · cases hb
          · cases h
        · rw [if_neg (by rw [hw]; decide), hmm] at h
          rw [← e1, hw]
          unfold tend at h
          split at h
          · rename_i ts r3 h6
            have k6 := tparts_sound ih _ _ _ _ h6
            split at h
            · rename_i h7
              have e7 := pre_split h7
              simp at h
              obtain ⟨rfl, rfl⟩ := h
              obtain ⟨m, n', rfl⟩ := len2 k6.2.1
              have k7 := k6.2.2 m (by simp)
              have k8 := k6.2.2 n' (by simp)
              refine ⟨?_, ?_, ?_⟩
              · have k61 := k6.1
                generalize cut [41] r3 = r4 at *
                rw [k61, e7]
                simp [mkTm, Tm.text, ptexts]
              · simp [mkTm, Tm.wf, k7.1, k8.1]
              · simp only [mkTm, Tm.depth]; omega
            · cases h
          · cases h
        · rw [if_neg (by rw [hw]; decide), hmm] at h
          rw [← e1, hw]
          unfold tend at h
          split at h
          · rename_i ts r3 h6
            have k6 := tparts_sound ih _ _ _ _ h6
            split at h
            · rename_i h7
              have e7 := pre_split h7
              simp at h
              obtain ⟨rfl, rfl⟩ := h
              obtain ⟨l', m, n', rfl⟩ := len3 k6.2.1
              have k7 := k6.2.2 l' (by simp)
              have k8 := k6.2.2 m (by simp)
              have k9 := k6.2.2 n' (by simp)
              refine ⟨?_, ?_, ?_⟩
              · have k61 := k6.1
                generalize cut [41] r3 = r4 at *
                rw [k61, e7]
                simp [mkTm, Tm.text, ptexts]
              · simp [mkTm, Tm.wf, k7.1, k8.1, k9.1]
              · simp only [mkTm, Tm.depth]; omega
            · cases h
          · cases h
    · have := tword_sound h
      exact ⟨this.1, this.2.1, by omega⟩

theorem pre_one (c : UInt8) (r : List UInt8) : pre [c] (c :: r) = true ∧ cut [c] (c :: r) = r := by
  have : pre [c] (c :: r) = true := by simp [pre]
  exact ⟨this, by rw [cut_yes this]; rfl⟩
theorem pre_ne {c d : UInt8} (r : List UInt8) (h : d ≠ c) : pre [c] (d :: r) = false := by
  unfold pre
  rw [show [c].isPrefixOf (d :: r) = (c == d) by simp [List.isPrefixOf]]
  exact beq_eq_false_iff_ne.2 (Ne.symm h)
/-- A reader reads the parts. -/
theorem tparts_text {p : List UInt8 → Option (Tm × List UInt8)} : ∀ (ts : List Tm) (r : List UInt8), okEnd r → (∀ t ∈ ts, ∀ r, okEnd r → p (t.text ++ r) = some (t, r)) → tparts p ts.length (ptexts ts ++ r) = some (ts, r)
  | [], r, _, _ => rfl
  | t :: ts, r, hr, hp => by
    have ih := tparts_text ts r hr fun u hu => hp u (by simp [hu])
    have he : okEnd (ptexts ts ++ r) := by
      cases ts with
      | nil => exact hr
      | cons u us => exact okEnd_cons (by decide)
    have h1 := hp t (by simp) _ he
    obtain ⟨e1, e2⟩ := pre_one 32 (t.text ++ (ptexts ts ++ r))
    show tparts p (ts.length + 1) (32 :: (t.text ++ ptexts ts) ++ r) = _
    rw [show (32 : UInt8) :: (t.text ++ ptexts ts) ++ r = 32 :: (t.text ++ (ptexts ts ++ r)) by simp]
    unfold tparts
    rw [e1, e2, h1]
    simp only [if_true]
    rw [ih]
theorem tlist_word {p : List UInt8 → Option (Tm × List UInt8)} {wd r : List UInt8} (h : noSep wd) (hr : okEnd r) : tlist p (wd ++ r) = if many wd = 0 then none else if wd = lamW then (match tbind r with | some (x, k, r2) => tend x k (tparts p 1 r2) | none => none) else tend [] .b (tparts p (many wd) r) := by
  obtain ⟨h1, h2⟩ := take_wlen_app h hr
  unfold tlist
  simp only [h1, h2]
/-- All types in it are at most so deep. -/
def Tm.kdep : Tm → Nat
  | .w _ => 0
  | .nm _ => 0
  | .lam _ k b => max k.depth b.kdep
  | .app m n => max m.kdep n.kdep
  | .ite l m n => max l.kdep (max m.kdep n.kdep)
theorem Tm.kdep_atoms (t : Tm) : t.kdep < t.atoms := by
  induction t with
  | w | nm => simp [kdep, atoms]
  | lam x k b ih => have := Ty.depth_atoms k; simp only [kdep, atoms]; omega
  | app m n ihm ihn => simp only [kdep, atoms]; omega
  | ite l m n ihl ihm ihn => simp only [kdep, atoms]; omega
theorem tparse_text (t : Tm) : ∀ (n : Nat) (r : List UInt8), t.wf = true → t.depth ≤ n → t.kdep ≤ 60 → okEnd r → tparse n (t.text ++ r) = some (t, r) := by
  induction t with
  | w c =>
    intro n r hw _ _ hr
    have hw' : isWd c = true := hw
    obtain ⟨h1, h2, h3, h4⟩ := isWd_noSep hw'
    obtain ⟨k1, k2⟩ := take_wlen_app h1 hr
    have hp : pre [40] (c ++ r) = false := by
      rcases isWd_iff.1 hw' with rfl | rfl | rfl <;> exact pre_ne _ (by decide)
    have ht : tword (c ++ r) = some (.w c, r) := by
      unfold tword
      rw [k1, k2, h2, hw']
      rfl
    show tparse n (c ++ r) = _
    cases n <;> (unfold tparse; rw [hp]; exact ht)
  | nm x =>
    intro n r hw _ _ hr
    have hw' : isNm x = true := hw
    obtain ⟨c, x', rfl, hc, _⟩ := isNm_head hw'
    obtain ⟨k1, k2⟩ := take_wlen_app (isNm_noSep hw') hr
    have hp : pre [40] (c :: x' ++ r) = false := pre_ne _ hc
    have ht : tword (c :: x' ++ r) = some (.nm (c :: x'), r) := by
      unfold tword
      rw [k1, k2, hw']
      rfl
    show tparse n (c :: x' ++ r) = _
    cases n <;> (unfold tparse; rw [hp]; exact ht)
  | lam x k b ih =>
    intro n r hw hd hk hr
    simp only [Tm.wf, Bool.and_eq_true] at hw
    simp only [Tm.depth, Tm.kdep] at hd hk
    obtain ⟨n, rfl⟩ : ∃ m, n = m + 1 := ⟨n - 1, by omega⟩
    obtain ⟨e1, e2⟩ := pre_one 40 (lamW ++ (32 :: (x ++ (32 :: (k.text ++ (32 :: (b.text ++ 41 :: r)))))))
    rw [show (Tm.lam x k b).text ++ r = 40 :: (lamW ++ (32 :: (x ++ (32 :: (k.text ++ (32 :: (b.text ++ 41 :: r))))))) by simp [Tm.text]]
    unfold tparse
    rw [e1, e2]
    simp only [if_true]
    rw [tlist_word lamW_noSep (okEnd_cons (by decide)), if_neg (by decide), if_pos rfl]
    obtain ⟨e3, e4⟩ := pre_one 32 (x ++ (32 :: (k.text ++ (32 :: (b.text ++ 41 :: r)))))
    obtain ⟨k1, k2⟩ := take_wlen_app (r := 32 :: (k.text ++ (32 :: (b.text ++ 41 :: r)))) (isNm_noSep hw.1) (okEnd_cons (by decide))
    obtain ⟨e5, e6⟩ := pre_one 32 (k.text ++ (32 :: (b.text ++ 41 :: r)))
    have hb : tbind (32 :: (x ++ (32 :: (k.text ++ (32 :: (b.text ++ 41 :: r)))))) = some (x, k, 32 :: (b.text ++ 41 :: r)) := by
      unfold tbind
      rw [e3, e4]
      simp only [if_true, k1, k2, hw.1, e5, e6, Bool.and_self]
      rw [Ty.parse_text k 60 _ (by omega)]
    rw [hb]
    simp only
    have hp := tparts_text (p := tparse n) [b] (41 :: r) (okEnd_cons (by decide)) (fun t ht r' hr' => by
      obtain rfl := List.mem_singleton.1 ht
      exact ih n r' hw.2 (by omega) (by omega) hr')
    rw [show (32 : UInt8) :: (b.text ++ 41 :: r) = ptexts [b] ++ 41 :: r by simp [ptexts]]
    rw [show (1 : Nat) = [b].length from rfl, hp]
    obtain ⟨e7, e8⟩ := pre_one 41 r
    unfold tend
    simp only [e7, e8, if_true]
    rfl
  | app m n' ihm ihn =>
    intro n r hw hd hk hr
    simp only [Tm.wf, Bool.and_eq_true] at hw
    simp only [Tm.depth, Tm.kdep] at hd hk
    obtain ⟨n, rfl⟩ : ∃ m, n = m + 1 := ⟨n - 1, by omega⟩
    obtain ⟨e1, e2⟩ := pre_one 40 (appW ++ (ptexts [m, n'] ++ 41 :: r))
    rw [show (Tm.app m n').text ++ r = 40 :: (appW ++ (ptexts [m, n'] ++ 41 :: r)) by simp [Tm.text, ptexts]]
    unfold tparse
    rw [e1, e2]
    simp only [if_true]
    have hok : okEnd (ptexts [m, n'] ++ 41 :: r) := okEnd_cons (by decide)
    rw [tlist_word appW_noSep hok, if_neg (by decide), if_neg (by decide)]
    have hp := tparts_text (p := tparse n) [m, n'] (41 :: r) (okEnd_cons (by decide)) (fun t ht r' hr' => by
      rcases List.mem_cons.1 ht with rfl | ht
      · exact ihm n r' hw.1 (by omega) (by omega) hr'
      · obtain rfl := List.mem_singleton.1 ht
        exact ihn n r' hw.2 (by omega) (by omega) hr')
    rw [show many appW = [m, n'].length from rfl, hp]
    obtain ⟨e7, e8⟩ := pre_one 41 r
    unfold tend
    simp only [e7, e8, if_true]
    rfl
  | ite l m n' ihl ihm ihn =>
    intro n r hw hd hk hr
    simp only [Tm.wf, Bool.and_eq_true] at hw
    simp only [Tm.depth, Tm.kdep] at hd hk
    obtain ⟨n, rfl⟩ : ∃ m, n = m + 1 := ⟨n - 1, by omega⟩
    obtain ⟨e1, e2⟩ := pre_one 40 (ifW ++ (ptexts [l, m, n'] ++ 41 :: r))
    rw [show (Tm.ite l m n').text ++ r = 40 :: (ifW ++ (ptexts [l, m, n'] ++ 41 :: r)) by simp [Tm.text, ptexts]]
    unfold tparse
    rw [e1, e2]
    simp only [if_true]
    have hok : okEnd (ptexts [l, m, n'] ++ 41 :: r) := okEnd_cons (by decide)
    rw [tlist_word ifW_noSep hok, if_neg (by decide), if_neg (by decide)]
    have hp := tparts_text (p := tparse n) [l, m, n'] (41 :: r) (okEnd_cons (by decide)) (fun t ht r' hr' => by
      rcases List.mem_cons.1 ht with rfl | ht
      · exact ihl n r' hw.1.1 (by omega) (by omega) hr'
      · rcases List.mem_cons.1 ht with rfl | ht
        · exact ihm n r' hw.1.2 (by omega) (by omega) hr'
        · obtain rfl := List.mem_singleton.1 ht
          exact ihn n r' hw.2 (by omega) (by omega) hr')
    rw [show many ifW = [l, m, n'].length from rfl, hp]
    obtain ⟨e7, e8⟩ := pre_one 41 r
    unfold tend
    simp only [e7, e8, if_true]
    rfl

/-- A term of at most 60 atoms, read whole. -/
def readT (l : List UInt8) : Option Tm := match tparse 60 l with
  | some (t, []) => if t.atoms ≤ 60 then some t else none
  | _ => none
theorem readT_some {l : List UInt8} {t : Tm} : readT l = some t ↔ l = t.text ∧ t.wf = true ∧ t.atoms ≤ 60 := by
  constructor
  · intro h
    unfold readT at h
    split at h
    · rename_i u h1
      split at h
      · obtain rfl : u = t := by simpa using h
        have := tparse_sound _ _ _ _ h1
        exact ⟨by simpa using this.1, this.2.1, by assumption⟩
      · cases h
    · cases h
  · rintro ⟨rfl, h1, h2⟩
    have h3 := Tm.depth_atoms t
    have h4 := Tm.kdep_atoms t
    have := tparse_text t 60 [] h1 (by omega) (by omega) okEnd_nil
    rw [List.append_nil] at this
    unfold readT
    rw [this]
    simp [h2]
end Go.Proofs.YtlehnlfgjadleaaDoor
