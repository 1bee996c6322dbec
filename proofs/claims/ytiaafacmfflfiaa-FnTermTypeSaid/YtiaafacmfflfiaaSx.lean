/- PLAIN: texts as trees of atoms: what the reference's reader of terms reads. -/
import Derived.Test.YtiaafacmfflfiaaTm
namespace Go.Proofs.Ytiaafacmfflfiaa
open Go.RowKit

inductive Sx where
  | lf (a : List UInt8)
  | nl
  | sn (l x : Sx)
namespace Sx
def atom : Sx → List UInt8
  | .lf a => a
  | _ => []
def parts : Sx → List Sx
  | .sn l x => l.parts ++ [x]
  | _ => []
def isLi : Sx → Bool
  | .lf _ => false
  | _ => true
def wrap : Sx → List UInt8 → List UInt8
  | .lf _, b => b
  | _, b => 40 :: (b ++ [41])
def body : Sx → List UInt8
  | .lf a => a
  | .nl => []
  | .sn l x => (match l with | .nl => [] | _ => l.body ++ [32]) ++ x.wrap x.body
def text (x : Sx) : List UInt8 := x.wrap x.body
def size : Sx → Nat
  | .lf _ => 1
  | .nl => 0
  | .sn l x => l.size + x.size
def dep : Sx → Nat
  | .lf _ => 1
  | .nl => 1
  | .sn l x => max l.dep (x.dep + 1)
/-- What can be read. -/
def ok : Sx → Prop
  | .lf a => a ≠ [] ∧ noSep a
  | .nl => False
  | .sn l x => x.ok ∧ (match l with | .nl => True | .lf _ => False | .sn _ _ => l.ok)
theorem dep_pos (x : Sx) : 1 ≤ x.dep := by cases x <;> simp [dep] <;> omega
theorem dep_parts {x u : Sx} (h : u ∈ x.parts) : u.dep < x.dep := by
  induction x with
  | lf a => cases h
  | nl => cases h
  | sn l x ihl _ =>
    simp only [parts, List.mem_append, List.mem_singleton] at h
    simp only [dep]
    rcases h with h | rfl
    · have := ihl h; omega
    · omega
def sumS : List Sx → Nat
  | [] => 0
  | a :: l => a.size + sumS l
theorem sumS_snoc (l : List Sx) (a : Sx) : sumS (l ++ [a]) = sumS l + a.size := by
  induction l with
  | nil => simp [sumS]
  | cons y l ih => simp only [List.cons_append, sumS, ih]; omega
theorem size_parts (x : Sx) (h : x.ok) (hl : x.isLi = true) : x.size = sumS x.parts := by
  induction x with
  | lf a => cases hl
  | nl => rfl
  | sn l x ihl _ =>
    simp only [size, parts, sumS_snoc]
    cases l with
    | lf a => cases h.2
    | nl => rfl
    | sn a b => rw [ihl h.2 rfl]
end Sx
def sloop (p : List UInt8 → Option (Sx × List UInt8)) : Nat → Sx → List UInt8 → Option (Sx × List UInt8)
  | 0, _, _ => none
  | k + 1, acc, l => match p l with
    | none => none
    | some (x, r) => if pre [41] r then some (acc.sn x, cut [41] r) else if pre [32] r then sloop p k (acc.sn x) (cut [32] r) else none
def sread : Nat → List UInt8 → Option (Sx × List UInt8)
  | 0, _ => none
  | d + 1, l => if pre [40] l then sloop (sread d) (l.length + 1) .nl (cut [40] l) else if wlen l = 0 then none else some (.lf (l.take (wlen l)), l.drop (wlen l))
/-- What is ahead of the rest of a list. -/
def ahead (acc : Sx) : List UInt8 := match acc with | .nl => [] | _ => acc.body ++ [32]
theorem sloop_sound {p : List UInt8 → Option (Sx × List UInt8)} {d : Nat} (hp : ∀ l x r, p l = some (x, r) → l = x.text ++ r ∧ x.ok ∧ x.dep ≤ d) :
    ∀ (k : Nat) (acc : Sx) (l : List UInt8) (x : Sx) (r : List UInt8), sloop p k acc l = some (x, r) → (acc = .nl ∨ (acc.ok ∧ acc.isLi = true)) → acc.dep ≤ d + 1 → ahead acc ++ l = x.body ++ 41 :: r ∧ x.ok ∧ x.isLi = true ∧ x.dep ≤ d + 1
  | 0, acc, l, x, r, h, _, _ => by cases h
  | k + 1, acc, l, x, r, h, ha, hd => by
    unfold sloop at h
    split at h
    · cases h
    · rename_i y r1 h1
      obtain ⟨e1, o1, d1⟩ := hp _ _ _ h1
      have hsn : (acc.sn y).ok := by
        rcases ha with rfl | ⟨h2, h3⟩
        · exact ⟨o1, trivial⟩
        · cases acc with
          | lf a => cases h3
          | nl => exact ⟨o1, trivial⟩
          | sn a b => exact ⟨o1, h2⟩
      have hbd : (acc.sn y).body = ahead acc ++ y.text := by
        rcases ha with rfl | ⟨h2, h3⟩
        · rfl
        · cases acc with
          | lf a => cases h3
          | nl => rfl
          | sn a b => rfl
      have hdp : (acc.sn y).dep ≤ d + 1 := by simp only [Sx.dep]; omega
      split at h
      · rename_i h2
        have e2 := pre_split h2
        simp at h
        obtain ⟨rfl, rfl⟩ := h
        refine ⟨?_, hsn, rfl, hdp⟩
        generalize cut [41] r1 = r2 at *
        rw [e1, hbd, e2]
        simp
      · split at h
        · rename_i h2
          have e2 := pre_split h2
          have := sloop_sound hp k _ _ _ _ h (.inr ⟨hsn, rfl⟩) hdp
          refine ⟨?_, this.2⟩
          rw [← this.1, e1]
          generalize cut [32] r1 = r2 at *
          rw [e2]
          show _ = (acc.sn y).body ++ [32] ++ r2
          rw [hbd]
          simp
        · cases h
theorem sread_sound : ∀ (d : Nat) (l : List UInt8) (x : Sx) (r : List UInt8), sread d l = some (x, r) → l = x.text ++ r ∧ x.ok ∧ x.dep ≤ d := by
  intro d
  induction d with
  | zero => intro l x r h; cases h
  | succ d ih =>
    intro l x r h
    unfold sread at h
    split at h
    · rename_i h1
      have e := pre_split h1
      obtain ⟨k1, k2, k3, k4⟩ := sloop_sound ih _ _ _ _ _ h (.inl rfl) (by simp [Sx.dep])
      refine ⟨?_, k2, k4⟩
      rw [e]
      have k1' : cut [40] l = x.body ++ 41 :: r := k1
      rw [k1']
      cases x with
      | lf a => cases k3
      | nl => simp [Sx.text, Sx.wrap]
      | sn a b => simp [Sx.text, Sx.wrap]
    · split at h
      · cases h
      · rename_i h1 h2
        simp at h
        obtain ⟨rfl, rfl⟩ := h
        have hw := wlen_le l
        refine ⟨(List.take_append_drop _ l).symm, ⟨?_, wlen_noSep l⟩, by simp [Sx.dep]⟩
        intro e
        have := congrArg List.length e
        rw [List.length_take, List.length_nil] at this
        omega

/-! ### atoms are counted by the spaces -/
theorem count_noSep {a : List UInt8} (h : noSep a) : a.count 32 = 0 := by
  rw [List.count_eq_zero]
  intro hm
  exact absurd (h 32 hm) (by decide)
theorem wrap_count (x : Sx) (b : List UInt8) : (x.wrap b).count 32 = b.count 32 := by
  cases x <;> simp [Sx.wrap, List.count_append]
theorem size_count (x : Sx) (h : x.ok) : x.size = 1 + x.body.count 32 := by
  induction x with
  | lf a => simp [Sx.size, Sx.body, count_noSep h.2]
  | nl => cases h
  | sn l x ihl ihx =>
    obtain ⟨h1, h2⟩ := h
    have e1 := ihx h1
    cases l with
    | lf a => cases h2
    | nl => simp only [Sx.size, Sx.body, List.nil_append, wrap_count]; omega
    | sn a b =>
      have e2 := ihl h2
      show (Sx.sn a b).size + x.size = 1 + (((Sx.sn a b).body ++ [32]) ++ x.wrap x.body).count 32
      rw [List.count_append, List.count_append, wrap_count, e1, e2]
      simp
      omega
theorem Ty.count_text (k : Ty) : k.atoms = 1 + k.text.count 32 := by
  induction k with
  | b => rfl
  | arr a c iha ihc =>
    simp only [Ty.atoms, Ty.text, List.count_cons, List.count_append, iha, ihc]
    simp
    omega
theorem Tm.count_text (t : Tm) (h : t.wf = true) : t.atoms = 1 + t.text.count 32 := by
  induction t with
  | w c => simp [Tm.atoms, Tm.text, count_noSep (isWd_noSep (c := c) h).1]
  | nm x => simp [Tm.atoms, Tm.text, count_noSep (isNm_noSep (x := x) h)]
  | lam x k b ih =>
    simp only [Tm.wf, Bool.and_eq_true] at h
    have h1 := ih h.2
    have h2 := Ty.count_text k
    have h3 := count_noSep (isNm_noSep h.1)
    have h4 : lamW.count 32 = 0 := by decide
    simp only [Tm.atoms, Tm.text, List.count_cons, List.count_append, h3, h4]
    simp
    omega
  | app m n ihm ihn =>
    simp only [Tm.wf, Bool.and_eq_true] at h
    have h1 := ihm h.1
    have h2 := ihn h.2
    have h4 : appW.count 32 = 0 := by decide
    simp only [Tm.atoms, Tm.text, List.count_cons, List.count_append, h4]
    simp
    omega
  | ite l m n ihl ihm ihn =>
    simp only [Tm.wf, Bool.and_eq_true] at h
    have h0 := ihl h.1.1
    have h1 := ihm h.1.2
    have h2 := ihn h.2
    have h4 : ifW.count 32 = 0 := by decide
    simp only [Tm.atoms, Tm.text, List.count_cons, List.count_append, h4]
    simp
    omega

/-! ### which trees are terms -/
def isTf : Nat → Sx → Bool
  | 0, _ => false
  | f + 1, x => if x.atom = [] then (match x.parts with
      | [h, a, b, c] => if h.atom = lamW then isNm a.atom && ((Ty.read b.text).isSome && isTf f c) else if h.atom = ifW then isTf f a && (isTf f b && isTf f c) else false
      | [h, a, b] => if h.atom = appW then isTf f a && isTf f b else false
      | _ => false)
    else isWd x.atom || isNm x.atom
theorem body_parts : ∀ (x : Sx), x.ok → x.isLi = true → ∀ (ps : List Sx), x.parts = ps → x.body = match ps with
    | [] => []
    | [a] => a.text
    | [a, b] => a.text ++ 32 :: b.text
    | [a, b, c] => a.text ++ 32 :: (b.text ++ 32 :: c.text)
    | [a, b, c, e] => a.text ++ 32 :: (b.text ++ 32 :: (c.text ++ 32 :: e.text))
    | _ => x.body := by
  intro x ho hl ps hps
  subst hps
  cases x with
  | lf a => cases hl
  | nl => cases ho
  | sn l e =>
    cases l with
    | lf a => cases ho.2
    | nl => simp [Sx.parts, Sx.body, Sx.text]
    | sn l c =>
      cases l with
      | lf a => cases ho.2.2
      | nl => simp [Sx.parts, Sx.body, Sx.text]
      | sn l b =>
        cases l with
        | lf a => cases ho.2.2.2
        | nl => simp [Sx.parts, Sx.body, Sx.text]
        | sn l a =>
          cases l with
          | lf a => cases ho.2.2.2.2
          | nl => simp [Sx.parts, Sx.body, Sx.text]
          | sn l a => 
            simp only [Sx.parts, List.append_assoc, List.cons_append, List.nil_append]
            split <;> first | rfl | (rename_i h; have := congrArg List.length h; simp at this; try omega)
theorem text_li {x : Sx} (h : x.isLi = true) : x.text = 40 :: (x.body ++ [41]) := by
  cases x with
  | lf a => cases h
  | nl => rfl
  | sn a b => rfl
theorem li_of_atom {x : Sx} (ho : x.ok) (h : x.atom = []) : x.isLi = true := by
  cases x with
  | lf a => exact absurd h ho.1
  | nl => rfl
  | sn a b => rfl
theorem at_of_atom {x : Sx} {a : List UInt8} (h : x.atom = a) (ha : a ≠ []) : x.text = a := by
  cases x with
  | lf b => exact h
  | nl => exact absurd h.symm ha
  | sn b c => exact absurd h.symm ha
theorem ok_parts {x u : Sx} (ho : x.ok) (h : u ∈ x.parts) : u.ok := by
  induction x with
  | lf a => cases h
  | nl => cases h
  | sn l x ihl _ =>
    simp only [Sx.parts, List.mem_append, List.mem_singleton] at h
    rcases h with h | rfl
    · cases l with
      | lf a => cases h
      | nl => cases h
      | sn a b => exact ihl ho.2 h
    · exact ho.1
theorem isTf_sound : ∀ (f : Nat) (x : Sx), x.ok → isTf f x = true → ∃ t : Tm, t.wf = true ∧ t.small = true ∧ t.text = x.text := by
  intro f
  induction f with
  | zero => intro x _ h; cases h
  | succ f ih =>
    intro x ho h
    unfold isTf at h
    split at h
    · rename_i hat
      have hli := li_of_atom ho hat
      have hb := body_parts x ho hli
      have htx := text_li hli
      have hop := fun u => ok_parts (x := x) (u := u) ho
      split at h
      · rename_i hd a b c hps
        have hb := hb _ hps
        rw [hps] at hop
        simp only at hb
        rw [hb] at htx
        split at h
        · rename_i hw
          simp only [Bool.and_eq_true] at h
          obtain ⟨hn, hr, hc⟩ := h
          obtain ⟨k, hk⟩ := Option.isSome_iff_exists.1 hr
          obtain ⟨hk1, hk2⟩ := Ty.read_some hk
          obtain ⟨t, h1, h2, h3⟩ := ih c (hop c (by simp)) hc
          have hxn : a.text = a.atom := at_of_atom rfl (by intro e; rw [e] at hn; cases hn)
          refine ⟨.lam a.atom k t, by simp [Tm.wf, hn, h1], by simp [Tm.small, hk2, h2], ?_⟩
          rw [htx, at_of_atom hw (by decide), hxn, hk1, ← h3]
          simp [Tm.text]
        · split at h
          · rename_i hw
            simp only [Bool.and_eq_true] at h
            obtain ⟨t1, a1, a2, a3⟩ := ih a (hop a (by simp)) h.1
            obtain ⟨t2, b1, b2, b3⟩ := ih b (hop b (by simp)) h.2.1
            obtain ⟨t3, c1, c2, c3⟩ := ih c (hop c (by simp)) h.2.2
            refine ⟨.ite t1 t2 t3, by simp [Tm.wf, a1, b1, c1], by simp [Tm.small, a2, b2, c2], ?_⟩
            rw [htx, at_of_atom hw (by decide), ← a3, ← b3, ← c3]
            simp [Tm.text]
          · cases h
      · rename_i hd a b hps
        have hb := hb _ hps
        rw [hps] at hop
        simp only at hb
        rw [hb] at htx
        split at h
        · rename_i hw
          simp only [Bool.and_eq_true] at h
          obtain ⟨t1, a1, a2, a3⟩ := ih a (hop a (by simp)) h.1
          obtain ⟨t2, b1, b2, b3⟩ := ih b (hop b (by simp)) h.2
          refine ⟨.app t1 t2, by simp [Tm.wf, a1, b1], by simp [Tm.small, a2, b2], ?_⟩
          rw [htx, at_of_atom hw (by decide), ← a3, ← b3]
          simp [Tm.text]
        · cases h
      · cases h
    · rename_i hat
      have hx : x.text = x.atom := at_of_atom rfl hat
      rw [Bool.or_eq_true] at h
      rcases h with h | h
      · exact ⟨.w x.atom, h, rfl, hx.symm⟩
      · exact ⟨.nm x.atom, h, rfl, hx.symm⟩

/-! ### a term's text is read -/
def Ty.sx : Ty → Sx
  | .b => .lf [98]
  | .arr a c => .sn (.sn (.sn .nl (.lf [62])) a.sx) c.sx
def Tm.sx : Tm → Sx
  | .w c => .lf c
  | .nm x => .lf x
  | .lam x k b => .sn (.sn (.sn (.sn .nl (.lf lamW)) (.lf x)) k.sx) b.sx
  | .app m n => .sn (.sn (.sn .nl (.lf appW)) m.sx) n.sx
  | .ite l m n => .sn (.sn (.sn (.sn .nl (.lf ifW)) l.sx) m.sx) n.sx
theorem Ty.text_sx (k : Ty) : k.sx.text = k.text := by
  induction k with
  | b => rfl
  | arr a c iha ihc =>
    rw [text_li rfl]
    show 40 :: ((((([] ++ [62]) ++ [32]) ++ a.sx.text) ++ [32]) ++ c.sx.text ++ [41]) = _
    rw [iha, ihc]
    simp [Ty.text]
theorem Tm.text_sx (t : Tm) : t.sx.text = t.text := by
  induction t with
  | w c => rfl
  | nm x => rfl
  | lam x k b ih =>
    rw [text_li rfl]
    show 40 :: ((((((([] ++ lamW) ++ [32]) ++ x) ++ [32]) ++ k.sx.text) ++ [32]) ++ b.sx.text ++ [41]) = _
    rw [ih, Ty.text_sx]
    simp [Tm.text]
  | app m n ihm ihn =>
    rw [text_li rfl]
    show 40 :: ((((([] ++ appW) ++ [32]) ++ m.sx.text) ++ [32]) ++ n.sx.text ++ [41]) = _
    rw [ihm, ihn]
    simp [Tm.text]
  | ite l m n ihl ihm ihn =>
    rw [text_li rfl]
    show 40 :: ((((((([] ++ ifW) ++ [32]) ++ l.sx.text) ++ [32]) ++ m.sx.text) ++ [32]) ++ n.sx.text ++ [41]) = _
    rw [ihl, ihm, ihn]
    simp [Tm.text]
section
variable {p : List UInt8 → Option (Sx × List UInt8)}
theorem sloop_step {k : Nat} {acc x : Sx} {l r : List UInt8} (h : p l = some (x, 32 :: r)) : sloop p (k + 1) acc l = sloop p k (acc.sn x) r := by
  obtain ⟨e1, e2⟩ := pre_one 32 r
  conv => lhs; unfold sloop
  rw [h]
  simp only [pre_ne r (show (32 : UInt8) ≠ 41 by decide), Bool.false_eq_true, if_false, e1, e2, if_true]
theorem sloop_end {k : Nat} {acc x : Sx} {l r : List UInt8} (h : p l = some (x, 41 :: r)) : sloop p (k + 1) acc l = some (acc.sn x, r) := by
  obtain ⟨e1, e2⟩ := pre_one 41 r
  unfold sloop
  rw [h]
  simp only [e1, e2, if_true]
theorem sread_list {d : Nat} {l : List UInt8} {m : Nat} (hm : m + 4 ≤ l.length + 2) : ∃ k, sread (d + 1) (40 :: l) = sloop (sread d) (k + m + 4) .nl l := by
  obtain ⟨e1, e2⟩ := pre_one 40 l
  refine ⟨l.length + 2 - (m + 4), ?_⟩
  unfold sread
  rw [e1, e2]
  simp only [if_true, List.length_cons]
  congr 1
  omega
theorem sread_leaf {d : Nat} {a r : List UInt8} (h0 : a ≠ []) (h : noSep a) (hr : okEnd r) : sread (d + 1) (a ++ r) = some (.lf a, r) := by
  obtain ⟨k1, k2⟩ := take_wlen_app h hr
  have hw := wlen_app h hr
  cases a with
  | nil => exact absurd rfl h0
  | cons c a =>
    have hc : c ≠ 40 := by
      rintro rfl
      have := h 40 (by simp)
      exact absurd this (by decide)
    unfold sread
    rw [List.cons_append, pre_ne _ hc, ← List.cons_append, k1, k2, hw]
    simp
end
theorem sread_ty (k : Ty) : ∀ (d : Nat) (r : List UInt8), k.depth < d → okEnd r → sread d (k.text ++ r) = some (k.sx, r) := by
  induction k with
  | b =>
    intro d r hd hr
    obtain ⟨d, rfl⟩ : ∃ m, d = m + 1 := ⟨d - 1, by omega⟩
    exact sread_leaf (by decide) (by intro c hc; obtain rfl := List.mem_singleton.1 hc; decide) hr
  | arr a c iha ihc =>
    intro d r hd hr
    simp only [Ty.depth] at hd
    obtain ⟨d, rfl⟩ : ∃ m, d = m + 2 := ⟨d - 2, by omega⟩
    rw [show (Ty.arr a c).text ++ r = 40 :: ([62] ++ 32 :: (a.text ++ 32 :: (c.text ++ 41 :: r))) by simp [Ty.text]]
    obtain ⟨k, hk⟩ := sread_list (d := d + 1) (l := [62] ++ 32 :: (a.text ++ 32 :: (c.text ++ 41 :: r))) (m := 0) (by simp)
    rw [hk, sloop_step (sread_leaf (by decide) (by intro c hc; obtain rfl := List.mem_singleton.1 hc; decide) (okEnd_cons (by decide))),
      sloop_step (iha (d + 1) _ (by omega) (okEnd_cons (by decide))), sloop_end (ihc (d + 1) _ (by omega) (okEnd_cons (by decide)))]
    rfl
theorem sread_tm (t : Tm) : ∀ (d : Nat) (r : List UInt8), t.wf = true → t.depth < d → t.kdep + t.depth < d → okEnd r → sread d (t.text ++ r) = some (t.sx, r) := by
  induction t with
  | w c =>
    intro d r hw hd _ hr
    obtain ⟨d, rfl⟩ : ∃ m, d = m + 1 := ⟨d - 1, by omega⟩
    have hw' : isWd c = true := hw
    exact sread_leaf (by rintro rfl; cases hw') (isWd_noSep hw').1 hr
  | nm x =>
    intro d r hw hd _ hr
    obtain ⟨d, rfl⟩ : ∃ m, d = m + 1 := ⟨d - 1, by omega⟩
    have hw' : isNm x = true := hw
    exact sread_leaf (by rintro rfl; cases hw') (isNm_noSep hw') hr
  | lam x k b ih =>
    intro d r hw hd hk hr
    simp only [Tm.wf, Bool.and_eq_true] at hw
    simp only [Tm.depth, Tm.kdep] at hd hk
    obtain ⟨d, rfl⟩ : ∃ m, d = m + 2 := ⟨d - 2, by omega⟩
    rw [show (Tm.lam x k b).text ++ r = 40 :: (lamW ++ 32 :: (x ++ 32 :: (k.text ++ 32 :: (b.text ++ 41 :: r)))) by simp [Tm.text]]
    obtain ⟨j, hj⟩ := sread_list (d := d + 1) (l := lamW ++ 32 :: (x ++ 32 :: (k.text ++ 32 :: (b.text ++ 41 :: r)))) (m := 1) (by simp [lamW])
    rw [hj, sloop_step (sread_leaf (by decide) lamW_noSep (okEnd_cons (by decide))), sloop_step (sread_leaf (by rintro rfl; cases hw.1) (isNm_noSep hw.1) (okEnd_cons (by decide))),
      sloop_step (sread_ty k (d + 1) _ (by omega) (okEnd_cons (by decide))), sloop_end (ih (d + 1) _ hw.2 (by omega) (by omega) (okEnd_cons (by decide)))]
    rfl
  | app m n ihm ihn =>
    intro d r hw hd hk hr
    simp only [Tm.wf, Bool.and_eq_true] at hw
    simp only [Tm.depth, Tm.kdep] at hd hk
    obtain ⟨d, rfl⟩ : ∃ m, d = m + 2 := ⟨d - 2, by omega⟩
    rw [show (Tm.app m n).text ++ r = 40 :: (appW ++ 32 :: (m.text ++ 32 :: (n.text ++ 41 :: r))) by simp [Tm.text]]
    obtain ⟨j, hj⟩ := sread_list (d := d + 1) (l := appW ++ 32 :: (m.text ++ 32 :: (n.text ++ 41 :: r))) (m := 0) (by simp [appW])
    rw [hj, sloop_step (sread_leaf (by decide) appW_noSep (okEnd_cons (by decide))), sloop_step (ihm (d + 1) _ hw.1 (by omega) (by omega) (okEnd_cons (by decide))),
      sloop_end (ihn (d + 1) _ hw.2 (by omega) (by omega) (okEnd_cons (by decide)))]
    rfl
  | ite l m n ihl ihm ihn =>
    intro d r hw hd hk hr
    simp only [Tm.wf, Bool.and_eq_true] at hw
    simp only [Tm.depth, Tm.kdep] at hd hk
    obtain ⟨d, rfl⟩ : ∃ m, d = m + 2 := ⟨d - 2, by omega⟩
    rw [show (Tm.ite l m n).text ++ r = 40 :: (ifW ++ 32 :: (l.text ++ 32 :: (m.text ++ 32 :: (n.text ++ 41 :: r)))) by simp [Tm.text]]
    obtain ⟨j, hj⟩ := sread_list (d := d + 1) (l := ifW ++ 32 :: (l.text ++ 32 :: (m.text ++ 32 :: (n.text ++ 41 :: r)))) (m := 1) (by simp [ifW])
    rw [hj, sloop_step (sread_leaf (by decide) ifW_noSep (okEnd_cons (by decide))), sloop_step (ihl (d + 1) _ hw.1.1 (by omega) (by omega) (okEnd_cons (by decide))),
      sloop_step (ihm (d + 1) _ hw.1.2 (by omega) (by omega) (okEnd_cons (by decide))), sloop_end (ihn (d + 1) _ hw.2 (by omega) (by omega) (okEnd_cons (by decide)))]
    rfl
theorem isTf_sx (t : Tm) : ∀ f, t.wf = true → t.small = true → t.depth < f → isTf f t.sx = true := by
  induction t with
  | w c =>
    intro f hw _ hd
    obtain ⟨f, rfl⟩ : ∃ m, f = m + 1 := ⟨f - 1, by omega⟩
    have hw' : isWd c = true := hw
    unfold isTf
    rw [if_neg (show ¬ (Tm.w c).sx.atom = [] by show ¬ c = []; rintro rfl; cases hw')]
    show (isWd c || isNm c) = true
    rw [hw']
    rfl
  | nm x =>
    intro f hw _ hd
    obtain ⟨f, rfl⟩ : ∃ m, f = m + 1 := ⟨f - 1, by omega⟩
    have hw' : isNm x = true := hw
    unfold isTf
    rw [if_neg (show ¬ (Tm.nm x).sx.atom = [] by show ¬ x = []; rintro rfl; cases hw')]
    show (isWd x || isNm x) = true
    rw [hw', Bool.or_true]
  | lam x k b ih =>
    intro f hw hs hd
    simp only [Tm.wf, Bool.and_eq_true] at hw
    simp only [Tm.small, Bool.and_eq_true, decide_eq_true_eq] at hs
    simp only [Tm.depth] at hd
    obtain ⟨f, rfl⟩ : ∃ m, f = m + 1 := ⟨f - 1, by omega⟩
    have h1 := ih f hw.2 hs.2 (by omega)
    unfold isTf
    rw [if_pos (show (Tm.lam x k b).sx.atom = [] from rfl)]
    show (if lamW = lamW then isNm x && ((Ty.read k.sx.text).isSome && isTf f b.sx) else _) = true
    rw [if_pos rfl, hw.1, Ty.text_sx, Ty.read_text hs.1, h1]
    rfl
  | app m n ihm ihn =>
    intro f hw hs hd
    simp only [Tm.wf, Bool.and_eq_true] at hw
    simp only [Tm.small, Bool.and_eq_true] at hs
    simp only [Tm.depth] at hd
    obtain ⟨f, rfl⟩ : ∃ m, f = m + 1 := ⟨f - 1, by omega⟩
    have h1 := ihm f hw.1 hs.1 (by omega)
    have h2 := ihn f hw.2 hs.2 (by omega)
    unfold isTf
    rw [if_pos (show (Tm.app m n).sx.atom = [] from rfl)]
    show (if appW = appW then isTf f m.sx && isTf f n.sx else _) = true
    rw [if_pos rfl, h1, h2]
    rfl
  | ite l m n ihl ihm ihn =>
    intro f hw hs hd
    simp only [Tm.wf, Bool.and_eq_true] at hw
    simp only [Tm.small, Bool.and_eq_true] at hs
    simp only [Tm.depth] at hd
    obtain ⟨f, rfl⟩ : ∃ m, f = m + 1 := ⟨f - 1, by omega⟩
    have h0 := ihl f hw.1.1 hs.1.1 (by omega)
    have h1 := ihm f hw.1.2 hs.1.2 (by omega)
    have h2 := ihn f hw.2 hs.2 (by omega)
    unfold isTf
    rw [if_pos (show (Tm.ite l m n).sx.atom = [] from rfl)]
    show (if ifW = lamW then _ else if ifW = ifW then isTf f l.sx && (isTf f m.sx && isTf f n.sx) else _) = true
    rw [if_neg (by decide), if_pos rfl, h0, h1, h2]
    rfl

/-- What the reference's reader of terms gives: a tree, if it is one of a term of at most 60 atoms. -/
def readX (l : List UInt8) : Option Sx := if l.length ≤ 1000 then (match sread 101 l with
  | some (x, []) => if isTf 101 x && decide (x.size ≤ 60) then some x else none
  | _ => none) else none
theorem Tm.text_atoms (t : Tm) (h : t.wf = true) : t.text.length ≤ 10 * t.atoms := by
  induction t with
  | w c => have := (isWd_noSep (c := c) h).2.2.1; simp only [Tm.atoms, Tm.text]; omega
  | nm x => obtain ⟨_, _, _, _, h3⟩ := isNm_head (x := x) h; simp only [Tm.atoms, Tm.text]; omega
  | lam x k b ih =>
    simp only [Tm.wf, Bool.and_eq_true] at h
    have h1 := ih h.2
    have h2 := Ty.length_text k
    have h3 := Ty.atoms_pos k
    obtain ⟨_, _, _, _, h4⟩ := isNm_head h.1
    simp only [Tm.atoms, Tm.text, List.length_cons, List.length_append, List.length_nil, show lamW.length = 3 from rfl]
    omega
  | app m n ihm ihn =>
    simp only [Tm.wf, Bool.and_eq_true] at h
    have := ihm h.1
    have := ihn h.2
    simp only [Tm.atoms, Tm.text, List.length_cons, List.length_append, List.length_nil, show appW.length = 3 from rfl]
    omega
  | ite l m n ihl ihm ihn =>
    simp only [Tm.wf, Bool.and_eq_true] at h
    have := ihl h.1.1
    have := ihm h.1.2
    have := ihn h.2
    simp only [Tm.atoms, Tm.text, List.length_cons, List.length_append, List.length_nil, show ifW.length = 2 from rfl]
    omega
/-- A term that the reference reads: of the program's, those with types of at most 15 atoms. -/
def readS (l : List UInt8) : Option Tm := match readT l with
  | some t => if t.small then some t else none
  | none => none
theorem readX_eq (l : List UInt8) : readX l = (readS l).map Tm.sx := by
  cases h : readS l with
  | some t =>
    unfold readS at h
    split at h
    · rename_i u hu
      split at h
      · rename_i hs
        obtain rfl : u = t := by simpa using h
        obtain ⟨rfl, hw, h60⟩ := readT_some.1 hu
        have h1 := Tm.depth_atoms u
        have h2 := Tm.kdep_atoms u
        have h5 : u.kdep + u.depth < 101 := by
          have : ∀ t : Tm, t.kdep + t.depth < t.atoms + 1 := fun t => by
            induction t with
            | w | nm => simp [Tm.kdep, Tm.depth, Tm.atoms]
            | lam x k b ih => have := Ty.depth_atoms k; simp only [Tm.kdep, Tm.depth, Tm.atoms]; omega
            | app m n ihm ihn => have := Tm.kdep_atoms m; have := Tm.kdep_atoms n; have := Tm.depth_atoms m; have := Tm.depth_atoms n; simp only [Tm.kdep, Tm.depth, Tm.atoms]; omega
            | ite l m n ihl ihm ihn => have := Tm.kdep_atoms l; have := Tm.kdep_atoms m; have := Tm.kdep_atoms n; have := Tm.depth_atoms l; have := Tm.depth_atoms m; have := Tm.depth_atoms n; simp only [Tm.kdep, Tm.depth, Tm.atoms]; omega
          have := this u
          omega
        have h3 := sread_tm u 101 [] hw (by omega) h5 okEnd_nil
        rw [List.append_nil] at h3
        have h4 := Tm.text_atoms u hw
        have h6 := (sread_sound _ _ _ _ h3).2.1
        have h7 := size_count u.sx h6
        have h8 := Tm.count_text u hw
        have h9 : u.sx.body.count 32 = u.text.count 32 := by
          have := wrap_count u.sx u.sx.body
          rw [← this, ← Tm.text_sx u]
          rfl
        unfold readX
        rw [if_pos (by omega), h3]
        simp only [isTf_sx u 101 hw hs (by omega), Bool.true_and]
        rw [if_pos (by rw [decide_eq_true_eq]; omega)]
        rfl
      · cases h
    · cases h
  | none =>
    show readX l = none
    unfold readX
    split
    · split
      · rename_i x hx
        split
        · rename_i hc
          exfalso
          rw [Bool.and_eq_true, decide_eq_true_eq] at hc
          obtain ⟨e1, e2, e3⟩ := sread_sound _ _ _ _ hx
          rw [List.append_nil] at e1
          obtain ⟨t, k1, k2, k3⟩ := isTf_sound _ x e2 hc.1
          have h7 := size_count x e2
          have h8 := Tm.count_text t k1
          have h9 : x.body.count 32 = x.text.count 32 := (wrap_count x x.body).symm
          have hr : readT l = some t := readT_some.2 ⟨by rw [e1, k3], k1, by rw [k3] at h8; omega⟩
          unfold readS at h
          rw [hr] at h
          simp [k2] at h
        · rfl
      · rfl
    · rfl
end Go.Proofs.Ytiaafacmfflfiaa
