/- PLAIN: the text of a play. -/
import Derived.Test.YtegidbdgneecmaaDoorPlays3
namespace Go.Proofs.YtegidbdgneecmaaDoor

/-- The decimals of a number. -/
def dec (n : Nat) : List UInt8 := if _h : n < 10 then [dgt n] else dec (n / 10) ++ [dgt (n % 10)]
theorem dec_lt {n : Nat} (h : n < 10) : dec n = [dgt n] := by rw [dec, dif_pos h]
theorem dec_ge {n : Nat} (h : ¬ n < 10) : dec n = dec (n / 10) ++ [dgt (n % 10)] := by rw [dec, dif_neg h]
theorem dec_pos (n : Nat) : 0 < (dec n).length := by
  unfold dec
  split <;> simp
theorem dec_length {n : Nat} (h : n < 100) : (dec n).length ≤ 2 := by
  by_cases h1 : n < 10
  · rw [dec_lt h1]; simp
  · rw [dec_ge h1, dec_lt (by omega : n / 10 < 10)]; simp

namespace Pl
/-- What is written of the move i. -/
def word (p : Pl) (i : Nat) : List UInt8 := if i = 0 then p.mv 0 else p.mv i ++ 58 :: dec (p.pt i).toNat
/-- The text of the first n moves. -/
def ptext (p : Pl) : Nat → List UInt8
  | 0 => []
  | n + 1 => if n = 0 then p.word 0 else p.ptext n ++ 32 :: p.word n
theorem ptext_one (p : Pl) : p.ptext 1 = p.mv 0 := rfl
theorem ptext_succ (p : Pl) {n : Nat} (h : 0 < n) : p.ptext (n + 1) = p.ptext n ++ 32 :: p.word n := by
  show (if n = 0 then p.word 0 else p.ptext n ++ 32 :: p.word n) = _
  rw [if_neg (by omega)]
theorem word_same {p q : Pl} {n i : Nat} (h : Same n p q) (hi : i < n) : p.word i = q.word i := by
  unfold word
  rw [(h i hi).1, (h i hi).2, (h 0 (by omega)).1]
theorem ptext_same {p q : Pl} : ∀ {n : Nat}, Same n p q → p.ptext n = q.ptext n
  | 0, _ => rfl
  | n + 1, h => by
    simp only [ptext]
    rw [word_same h (by omega : 0 < n + 1), word_same h (by omega : n < n + 1), ptext_same (h.le (by omega))]
theorem word_length {t : Ty} (ht : t.atoms ≤ 15) {p : Pl} (hp : p.ok t = true) {i : Nat} (hi : i < p.ms.length) : (p.word i).length ≤ 11 := by
  have h60 := (ok_iff.1 hp).1
  have hm := isMove_len ht (ok_mv hp hi).1
  unfold word
  split
  · have := isMove_len ht (ok_mv hp (show 0 < p.ms.length by omega)).1
    omega
  · obtain ⟨k, hk, hki, _⟩ := ok_prev hp (by omega) hi
    have := dec_length (n := (p.pt i).toNat) (by omega)
    simp only [List.length_append, List.length_cons]
    omega
theorem ptext_length {t : Ty} (ht : t.atoms ≤ 15) {p : Pl} (hp : p.ok t = true) : ∀ n, n ≤ p.ms.length → (p.ptext n).length ≤ 12 * n
  | 0, _ => by simp [ptext]
  | n + 1, h => by
    have ih := ptext_length ht hp n (by omega)
    have h1 := word_length ht hp (show n < p.ms.length by omega)
    have h2 := word_length ht hp (show 0 < p.ms.length by omega)
    simp only [ptext]
    split
    · omega
    · simp only [List.length_append, List.length_cons]
      omega
theorem ptext_pos {t : Ty} {p : Pl} (hp : p.ok t = true) {n : Nat} (h0 : 0 < n) (hn : n ≤ p.ms.length) : 0 < (p.ptext n).length := by
  obtain ⟨n, rfl⟩ : ∃ k, n = k + 1 := ⟨n - 1, by omega⟩
  simp only [ptext]
  split
  · unfold word
    rw [if_pos rfl, (ok_zero hp (by omega)).1]
    simp
  · rw [List.length_append, List.length_cons]
    omega
end Pl
end Go.Proofs.YtegidbdgneecmaaDoor
