/- What is drawn: types. -/
import Derived.Test.YtlehnlfgjadleaaDraw
namespace Go.Proofs.Ytlehnlfgjadleaa
open Go.RowKit

/-- The literal list of some texts, laid in new memory. -/
theorem lits_sl (w : World) (q : Nat) (hq : q < w.heap.size) (ts : List (List UInt8)) :
    Sl (w.alloc (.cells (ts.map fun t => Value.string ⟨t.toArray⟩).toArray 9)) (Ne q) (some ⟨w.heap.size, 0, none⟩) ts.length (fun i => .string ⟨(ts.getD i []).toArray⟩) := fun _ => by
  refine ⟨w.heap.size, 0, rfl, by unfold Ne; omega, fun i hi => ?_⟩
  rw [cell_of_row _ w.heap.size (0 + i) _ 9 (0, 0) (heap_alloc_new w _)]
  simp [hi, List.getD]

def tys8 : List Ty := [.b, .arr .b .b, .arr .b (.arr .b .b), .arr (.arr .b .b) .b, .arr (.arr .b .b) (.arr .b .b), .arr (.arr (.arr .b .b) .b) .b, .arr (.arr .b (.arr .b .b)) .b, .arr .b (.arr (.arr .b .b) .b)]

set_option maxHeartbeats 1000000 in
theorem l91Type_any (q p : Nat) (w : World) (h : Rd w q p) (hp : p ≤ 1099511627776) :
    Calls Try.prog 34 #[.pointer (some ⟨q, 0, none⟩)] w fun e w' => ∃ t : Ty, t ∈ tys8 ∧ e = .returned (.string ⟨t.text.toArray⟩) ∧ Rd w' q (p + 1) ∧ w.grownBy w' (some q) := by
  have hg0 := World.grownBy_alloc w (.cells ((tys8.map Ty.text).map fun t => Value.string ⟨t.toArray⟩).toArray 9) none
  have hr0 := h.grown0 hg0
  have hS := lits_sl w q h.lt (tys8.map Ty.text)
  have hO := Lib.hid (of_any q p _ _ 8 _ _ hr0 hp (by decide) (by decide) hS)
  go_enter Try.func34, Try.ntmps34
  go_wp2_with fail
  refine hO.out.mono ?_
  rintro e w1 ⟨i, hi, rfl, hr1, hg1⟩
  go_wp2_with fail
  go_ret
  have hi8 : i < tys8.length := by simpa using hi
  refine ⟨tys8[i], List.getElem_mem hi8, ?_, hr1, gr_trans (gr_weak hg0 _) hg1⟩
  simp [hi8]

def odd7 : List (List UInt8) := [[], [99], [40, 62, 32, 98, 41], [40, 62, 32, 32, 98, 32, 98, 41], [40, 62, 32, 98, 32, 98, 32, 98, 41], [98, 32], [40, 62, 32, 40, 62, 32, 40, 62, 32, 40, 62, 32, 98, 32, 98, 41, 32, 40, 62, 32, 98, 32, 98, 41, 41, 32, 40, 62, 32, 98, 32, 98, 41, 41, 32, 40, 62, 32, 98, 32, 40, 62, 32, 98, 32, 98, 41, 41, 41]]
theorem odd7_le : ∀ s ∈ odd7, s.length ≤ 100 := by decide
theorem tys8_le : ∀ t ∈ tys8, t.text.length ≤ 100 := by decide
theorem tys8_atoms : ∀ t ∈ tys8, t.atoms ≤ 15 := by decide

set_option maxHeartbeats 1000000 in
theorem l91Odd_any (q p : Nat) (w : World) (h : Rd w q p) (hp : p + 1 ≤ 1099511627776) :
    Calls Try.prog 21 #[.pointer (some ⟨q, 0, none⟩)] w fun e w' => ∃ s : List UInt8, s.length ≤ 100 ∧ e = .returned (.string ⟨s.toArray⟩) ∧ Rd w' q (p + 2) ∧ w.grownBy w' (some q) := by
  have hP := Lib.hid (pick_any q p 12 w h (by omega) (by decide) (by decide))
  go_enter Try.func21, Try.ntmps21
  go_wp2_with fail
  refine hP.out.mono ?_
  rintro e w1 ⟨i, hi, rfl, hr1, hg1⟩
  by_cases hi0 : i = 0
  · subst hi0
    have hg0 := World.grownBy_alloc w1 (.cells (odd7.map fun t => Value.string ⟨t.toArray⟩).toArray 9) none
    have hr0 := hr1.grown0 hg0
    have hO := Lib.hid (of_any q (p + 1) _ _ 7 _ _ hr0 hp (by decide) (by decide) (lits_sl w1 q hr1.lt odd7))
    go_wp2_with fail
    refine hO.out.mono ?_
    rintro e w2 ⟨j, hj, rfl, hr2, hg2⟩
    go_wp2_with fail
    go_ret
    have hj7 : j < odd7.length := by simpa using hj
    refine ⟨odd7[j], odd7_le _ (List.getElem_mem hj7), ?_, hr2, gr_trans hg1 (gr_trans (gr_weak hg0 _) hg2)⟩
    simp
  · have hi1 : ((i : Int) == 0) = false := by rw [beq_eq_false_iff_ne]; omega
    go_wp2_with fail
    refine (l91Type_any q (p + 1) w1 hr1 hp).mono ?_
    rintro e w2 ⟨t, ht, rfl, hr2, hg2⟩
    go_wp2_with fail
    go_ret
    exact ⟨t.text, tys8_le t ht, rfl, hr2, gr_trans hg1 hg2⟩
end Go.Proofs.Ytlehnlfgjadleaa
