/- PLAIN: bodies of strategies, their texts, and who is well formed among types at hand. -/
import Derived.Test.YtlehnlfgjadleaaDoorTm
import Derived.Lib.ItoaNum
import Derived.Lib.AtoiAll
import Derived.Lib.AtoiTie
namespace Go.Proofs.YtlehnlfgjadleaaDoor
open Go.RowKit

/-- A body: a word; or a level, with parts behind it (the last ones are the answers'). -/
inductive Bo where
  | w (c : List UInt8)
  | hd (v : Nat)
  | sn (l x : Bo)
namespace Bo
def parts : Bo → List Bo
  | .sn l x => l.parts ++ [x]
  | _ => []
def np : Bo → Nat
  | .sn l _ => l.np + 1
  | _ => 0
def level : Bo → Nat
  | .hd v => v
  | .sn l _ => l.level
  | .w _ => 0
def isLi : Bo → Bool
  | .w _ => false
  | _ => true
def wrap : Bo → List UInt8 → List UInt8
  | .w _, b => b
  | _, b => 40 :: (b ++ [41])
def body : Bo → List UInt8
  | .w c => c
  | .hd v => Lib.decDigits v
  | .sn l x => l.body ++ 32 :: x.wrap x.body
def text (b : Bo) : List UInt8 := b.wrap b.body
/-- Nodes. -/
def size : Bo → Nat
  | .w _ => 1
  | .hd _ => 1
  | .sn l x => l.size + x.size
def dep : Bo → Nat
  | .w _ => 0
  | .hd _ => 0
  | .sn l x => max l.dep (x.dep + 1)
/-- The types at hand in a part. -/
def handAt (hand args : List Ty) (i : Nat) : List Ty := match args[i]? with
  | some a => hand ++ a.args
  | none => hand
/-- The arguments of a level. -/
def argsOf (hand : List Ty) (v : Nat) : List Ty := match hand[v]? with
  | some k => k.args
  | none => []
/-- All parts are there. -/
def full (hand : List Ty) (b : Bo) : Prop := b.isLi = true → b.np = (argsOf hand b.level).length + 2
/-- Well formed as far as it goes. -/
def wf : Bo → List Ty → Prop
  | .w c, _ => isWd c = true
  | .hd v, hand => v < hand.length
  | .sn l x, hand => l.isLi = true ∧ l.wf hand ∧ l.np < (argsOf hand l.level).length + 2 ∧ x.wf (handAt hand (argsOf hand l.level) l.np) ∧ x.full (handAt hand (argsOf hand l.level) l.np)
theorem np_parts (b : Bo) : b.parts.length = b.np := by
  induction b with
  | w c => rfl
  | hd v => rfl
  | sn l x ih _ => simp [parts, np, ih]
theorem size_pos (b : Bo) : 1 ≤ b.size := by
  induction b with
  | w c => exact Nat.le_refl _
  | hd v => exact Nat.le_refl _
  | sn l x ih _ => simp only [size]; omega
end Bo

/-! ### numbers -/
theorem decDigits_lt {u : Nat} (h : u < 10) : Lib.decDigits u = [UInt8.ofNat (48 + u)] := Lib.decDigits_one h
theorem decDigits_ge {u : Nat} (h : ¬ u < 10) : Lib.decDigits u = Lib.decDigits (u / 10) ++ [UInt8.ofNat (48 + u % 10)] := by rw [Lib.decDigits, dif_neg h]
def isDg (c : UInt8) : Bool := decide (48 ≤ c.toNat) && decide (c.toNat ≤ 57)
theorem dg_toNat {d : Nat} (h : d < 10) : (UInt8.ofNat (48 + d)).toNat = 48 + d := by
  rw [UInt8.toNat_ofNat']
  omega
theorem isDg_of {d : Nat} (h : d < 10) : isDg (UInt8.ofNat (48 + d)) = true := by
  unfold isDg
  rw [dg_toNat h]
  simp
  omega
theorem dg_val {c : UInt8} (h : isDg c = true) : ∃ d, d < 10 ∧ c = UInt8.ofNat (48 + d) ∧ c.toNat = 48 + d := by
  unfold isDg at h
  simp only [Bool.and_eq_true, decide_eq_true_eq] at h
  refine ⟨c.toNat - 48, by omega, ?_, by omega⟩
  rw [show 48 + (c.toNat - 48) = c.toNat by omega]
  simp
theorem decDigits_isDg (u : Nat) : ∀ c ∈ Lib.decDigits u, isDg c = true := by
  induction u using Nat.strongRecOn with
  | ind u ih =>
    intro c hc
    by_cases h : u < 10
    · rw [decDigits_lt h] at hc
      simp only [List.mem_singleton] at hc
      rw [hc]
      exact isDg_of h
    · rw [decDigits_ge h] at hc
      rcases List.mem_append.1 hc with hc | hc
      · exact ih (u / 10) (by omega) c hc
      · simp only [List.mem_singleton] at hc
        rw [hc]
        exact isDg_of (Nat.mod_lt _ (by omega))
theorem decDigits_ne (u : Nat) : Lib.decDigits u ≠ [] := by
  by_cases h : u < 10
  · rw [decDigits_lt h]; simp
  · rw [decDigits_ge h]; simp
theorem decDigits_len4 {u : Nat} (h : u < 10000) : (Lib.decDigits u).length ≤ 4 := by
  by_cases h1 : u < 10
  · rw [decDigits_lt h1]; simp
  · by_cases h2 : u / 10 < 10
    · rw [decDigits_ge h1, decDigits_lt h2]; simp
    · by_cases h3 : u / 10 / 10 < 10
      · rw [decDigits_ge h1, decDigits_ge h2, decDigits_lt h3]; simp
      · have h4 : u / 10 / 10 / 10 < 10 := by omega
        rw [decDigits_ge h1, decDigits_ge h2, decDigits_ge h3, decDigits_lt h4]; simp
/-- A number and one digit more. -/
def numV (ds : List UInt8) : Nat := ds.foldl (fun n c => n * 10 + (c.toNat - 48)) 0
theorem numV_snoc (ds : List UInt8) (c : UInt8) : numV (ds ++ [c]) = numV ds * 10 + (c.toNat - 48) := by
  unfold numV
  rw [List.foldl_append]
  rfl
theorem numV_dec (u : Nat) : numV (Lib.decDigits u) = u := by
  induction u using Nat.strongRecOn with
  | ind u ih =>
    by_cases h : u < 10
    · rw [decDigits_lt h]
      show 0 * 10 + ((UInt8.ofNat (48 + u)).toNat - 48) = u
      rw [dg_toNat h]
      omega
    · rw [decDigits_ge h, numV_snoc, ih (u / 10) (by omega), dg_toNat (Nat.mod_lt _ (by omega))]
      omega
/-- Digits without a zero ahead are the number's own. -/
theorem dec_numV : ∀ (n : Nat) (ds : List UInt8), ds.length = n → (∀ c ∈ ds, isDg c = true) → ds ≠ [] → (ds.head? = some 48 → ds.length = 1) → Lib.decDigits (numV ds) = ds ∧ (ds.head? ≠ some 48 → 0 < numV ds) := by
  intro n
  induction n with
  | zero => intro ds hl _ h; exact absurd (List.length_eq_zero_iff.1 hl) h
  | succ n ih =>
    intro ds hl hd hne hz
    rcases List.eq_nil_or_concat ds with rfl | ⟨es, c, rfl⟩
    · exact absurd rfl hne
    · rw [List.concat_eq_append] at *
      obtain ⟨d, hd10, hc, hcn⟩ := dg_val (hd c (by simp))
      rw [numV_snoc]
      have hln : es.length = n := by simpa using hl
      cases es with
      | nil =>
        simp only [List.nil_append]
        have e0 : numV [] * 10 + (c.toNat - 48) = d := by rw [hcn]; show 0 * 10 + _ = _; omega
        rw [e0, decDigits_lt hd10, ← hc]
        refine ⟨rfl, fun h => ?_⟩
        rcases Nat.eq_zero_or_pos d with h0 | h0
        · exfalso
          apply h
          rw [hc, h0]
          rfl
        · exact h0
      | cons e es =>
        have hne0 : (e :: es).head? ≠ some 48 := by
          intro h
          have := hz (by simpa using h)
          simp at this
        obtain ⟨k1, k2⟩ := ih (e :: es) hln (fun x hx => hd x (by simp only [List.mem_append]; exact .inl hx)) (by simp) (fun h => absurd h hne0)
        have hp := k2 hne0
        have e1 : (numV (e :: es) * 10 + (c.toNat - 48)) / 10 = numV (e :: es) := by omega
        have e2 : (numV (e :: es) * 10 + (c.toNat - 48)) % 10 = d := by omega
        refine ⟨?_, fun _ => by omega⟩
        rw [decDigits_ge (by omega), e1, e2, k1, ← hc]
theorem decDigits_zero_head {u : Nat} (h : (Lib.decDigits u).head? = some 48) : u = 0 := by
  induction u using Nat.strongRecOn with
  | ind u ih =>
    by_cases h1 : u < 10
    · rw [decDigits_lt h1] at h
      simp only [List.head?_cons, Option.some.injEq] at h
      have := congrArg UInt8.toNat h
      rw [dg_toNat h1] at this
      have h48 : (48 : UInt8).toNat = 48 := rfl
      omega
    · rw [decDigits_ge h1] at h
      have hne := decDigits_ne (u / 10)
      cases hd : Lib.decDigits (u / 10) with
      | nil => exact absurd hd hne
      | cons a l =>
        rw [hd] at h
        have := ih (u / 10) (by omega) (by rw [hd]; simpa using h)
        omega
/-- What the program makes of a word: its number, where it is the number's own text. -/
def numOf (wd : List UInt8) : Option Nat := match Lib.atoiAll wd with
  | .ok v => if 0 ≤ v ∧ Lib.itoa v = wd then some v.toNat else none
  | _ => none
theorem numOf_sound {wd : List UInt8} {v : Nat} (h : numOf wd = some v) : wd = Lib.decDigits v := by
  unfold numOf at h
  split at h
  · rename_i u hu
    split at h
    · rename_i hc
      cases h
      rw [← hc.2]
      unfold Lib.itoa
      rw [if_neg (by omega)]
    · cases h
  · cases h
theorem decFrom_digits : ∀ (l : List UInt8) (acc : Nat), (∀ c ∈ l, isDg c = true) → Lib.decFrom acc l = some (l.foldl (fun n c => n * 10 + (c.toNat - 48)) acc) := by
  intro l
  induction l with
  | nil => intro acc _; rfl
  | cons a l ih =>
    intro acc h
    have ha := h a (by simp)
    have hv : Lib.digitVal a = some (a.toNat - 48) := by
      unfold isDg at ha
      simp only [Bool.and_eq_true, decide_eq_true_eq] at ha
      unfold Lib.digitVal
      rw [if_pos ha]
    simp only [Lib.decFrom, hv, List.foldl_cons]
    exact ih _ (fun c hc => h c (by simp [hc]))
theorem numOf_dec {v : Nat} (h : v < 10000) : numOf (Lib.decDigits v) = some v := by
  have hl := decDigits_len4 h
  have hd := decDigits_isDg v
  have hne := decDigits_ne v
  have hA : Lib.atoi (Lib.decDigits v) = some (v : Int) := by
    have hN : Lib.decNat (Lib.decDigits v) = some v := by
      unfold Lib.decNat
      rw [if_neg (by simpa using hne), decFrom_digits _ _ hd]
      exact congrArg some (numV_dec v)
    cases hc : Lib.decDigits v with
    | nil => exact absurd hc hne
    | cons a l =>
      rw [hc] at hN hd
      have ha := hd a (by simp)
      unfold isDg at ha
      simp only [Bool.and_eq_true, decide_eq_true_eq] at ha
      unfold Lib.atoi
      have h45 : (a == 45) = false := by rw [beq_eq_false_iff_ne]; rintro rfl; exact absurd ha.1 (by decide)
      have h43 : (a == 43) = false := by rw [beq_eq_false_iff_ne]; rintro rfl; exact absurd ha.1 (by decide)
      simp only [h45, h43, hN]
      rfl
  unfold numOf
  rw [Lib.atoiAll_short _ (by omega), hA]
  show (if 0 ≤ (v : Int) ∧ Lib.itoa (v : Int) = Lib.decDigits v then some (v : Int).toNat else none) = some v
  rw [if_pos ⟨by omega, by unfold Lib.itoa; rw [if_neg (by omega)]; rfl⟩]
  rfl
end Go.Proofs.YtlehnlfgjadleaaDoor
