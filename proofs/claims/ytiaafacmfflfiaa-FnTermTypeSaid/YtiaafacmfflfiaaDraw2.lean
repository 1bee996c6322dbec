/- What is drawn: types. -/
import Derived.Test.YtiaafacmfflfiaaDraw
namespace Go.Proofs.Ytiaafacmfflfiaa
open Go.RowKit

/-- The literal list of some texts, laid in new memory. -/
theorem lits_sl (w : World) (q : Nat) (hq : q < w.heap.size) (ts : List (List UInt8)) :
    Sl (w.alloc (.cells (ts.map fun t => Value.string ⟨t.toArray⟩).toArray 9)) (Ne q) (some ⟨w.heap.size, 0, none⟩) ts.length (fun i => .string ⟨(ts.getD i []).toArray⟩) := fun _ => by
  refine ⟨w.heap.size, 0, rfl, by unfold Ne; omega, fun i hi => ?_⟩
  rw [cell_of_row _ w.heap.size (0 + i) _ 9 (0, 0) (heap_alloc_new w _)]
  simp [hi, List.getD]

def tys8 : List Ty := [.b, .arr .b .b, .arr .b (.arr .b .b), .arr (.arr .b .b) .b, .arr (.arr .b .b) (.arr .b .b), .arr (.arr (.arr .b .b) .b) .b, .arr (.arr .b (.arr .b .b)) .b, .arr .b (.arr (.arr .b .b) .b)]

set_option maxHeartbeats 1000000 in
theorem l91Type_any (q p : Nat) (w : World) (h : Rd w q p) (hp : p ≤ 1099511627776) :
    Calls Try.prog 27 #[.pointer (some ⟨q, 0, none⟩)] w fun e w' => ∃ t : Ty, t ∈ tys8 ∧ e = .returned (.string ⟨t.text.toArray⟩) ∧ Rd w' q (p + 1) ∧ w.grownBy w' (some q) := by
  have hg0 := World.grownBy_alloc w (.cells ((tys8.map Ty.text).map fun t => Value.string ⟨t.toArray⟩).toArray 9) none
  have hr0 := h.grown0 hg0
  have hS := lits_sl w q h.lt (tys8.map Ty.text)
  have hO := Lib.hid (of_any q p _ _ 8 _ _ hr0 hp (by decide) (by decide) hS)
  go_enter Try.func27, Try.ntmps27
  go_wp2_with fail
  refine hO.out.mono ?_
  rintro e w1 ⟨i, hi, rfl, hr1, hg1⟩
  go_wp2_with fail
  go_ret
  have hi8 : i < tys8.length := by simpa using hi
  refine ⟨tys8[i], List.getElem_mem hi8, ?_, hr1, gr_trans (gr_weak hg0 _) hg1⟩
  simp [hi8]

end Go.Proofs.Ytiaafacmfflfiaa
