/- CountOf on both sides, as lists. -/
import Derived.Test.YtlehnlfgjadleaaICnt
namespace Go.Proofs.Ytlehnlfgjadleaa
open Go.RowKit

def cntL (s : List UInt8) (most : Int) : List Int := (cntRes s most).getD []
def cntB (s : List UInt8) (most : Int) : Bool := (cntRes s most).isSome
theorem cntL_len (s : List UInt8) (most : Int) : (cntL s most).length ≤ 8 := by
  unfold cntL cntRes
  cases Ty.read s with
  | none => simp
  | some t =>
    simp only []
    by_cases h : 1 ≤ most ∧ most ≤ 8
    · rw [if_pos h]; simp; omega
    · rw [if_neg h]; simp
theorem sCount_any (s : List UInt8) (most : Int) (w : World) (hs : s.length ≤ 1099511627776) :
    Calls Try.prog 5 #[.string ⟨s.toArray⟩, .int .i64 most] w fun e w' =>
      (∃ A c, e = .returned (.tuple #[.slice A (cntL s most).length c, .bool (cntB s most)]) ∧ Sl w' (Fr w.heap.size) A (cntL s most).length (iv (cntL s most))) ∧ w.grownBy w' none := by
  refine (sCountOf_any s most w hs).mono ?_
  rintro e w' ⟨hg, hm⟩
  refine ⟨?_, hg⟩
  unfold cntL cntB
  cases h : cntRes s most with
  | none =>
    rw [h] at hm
    obtain ⟨A, c, rfl⟩ := hm
    exact ⟨A, c, rfl, Sl.nil_⟩
  | some L =>
    rw [h] at hm
    obtain ⟨A, c, rfl, hS⟩ := hm
    exact ⟨A, c, rfl, hS⟩
theorem iCount_any (s : List UInt8) (most : Int) (w : World) (hs : s.length ≤ 1099511627776) :
    Calls Try.prog 6 #[.string ⟨s.toArray⟩, .int .i64 most] w fun e w' =>
      (∃ A c, e = .returned (.tuple #[.slice A (cntL s most).length c, .bool (cntB s most)]) ∧ w'.ownsRow w.heap.size 3 1 (.slice A (cntL s most).length c) (cntL s most).length ((cntL s most).map intv)) ∧ w.grownBy w' none := by
  refine (iCountOf_any s most w hs).mono ?_
  rintro e w' ⟨hg, hm⟩
  refine ⟨?_, hg⟩
  unfold cntL cntB
  cases h : cntRes s most with
  | none =>
    rw [h] at hm
    obtain rfl := hm
    exact ⟨none, 0, rfl, ⟨rfl, .inl ⟨rfl, rfl⟩⟩⟩
  | some L =>
    rw [h] at hm
    obtain ⟨A, c, rfl, hS⟩ := hm
    exact ⟨A, c, rfl, hS⟩
end Go.Proofs.Ytlehnlfgjadleaa
