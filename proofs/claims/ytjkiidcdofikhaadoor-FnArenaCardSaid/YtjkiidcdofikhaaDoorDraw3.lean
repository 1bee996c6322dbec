/- What is drawn: paths, moves, lists of types. -/
import Derived.Test.YtjkiidcdofikhaaDoorDraw2
import Derived.Test.YtjkiidcdofikhaaDoorStr
import Derived.Test.YtjkiidcdofikhaaDoorLists
namespace Go.Proofs.YtjkiidcdofikhaaDoor
open Go.RowKit

def paths : List (List UInt8) := [[], [48], [49], [48, 48], [48, 49], [49, 48], [48, 48, 48], [50], [120], [48, 48, 48, 48]]
theorem paths_le : ∀ s ∈ paths, s.length ≤ 100 := by decide
def heads : List (List UInt8) := [[113], [116], [102], [113], [97], []]
theorem heads_le : ∀ s ∈ heads, s.length ≤ 100 := by decide

set_option maxHeartbeats 1000000 in
theorem l91Path_any (q p : Nat) (w : World) (h : Rd w q p) (hp : p ≤ 1099511627776) :
    Calls Tryd.prog 59 #[.pointer (some ⟨q, 0, none⟩)] w fun e w' => ∃ s : List UInt8, s.length ≤ 100 ∧ e = .returned (.string ⟨s.toArray⟩) ∧ Rd w' q (p + 1) ∧ w.grownBy w' (some q) := by
  have hg0 := World.grownBy_alloc w (.cells (paths.map fun t => Value.string ⟨t.toArray⟩).toArray 9) none
  have hr0 := h.grown0 hg0
  have hO := Lib.hid (of_any q p _ _ 10 _ _ hr0 hp (by decide) (by decide) (lits_sl w q h.lt paths))
  go_enter Tryd.func59, Tryd.ntmps59
  go_wp2_with fail
  refine hO.out.mono ?_
  rintro e w1 ⟨i, hi, rfl, hr1, hg1⟩
  go_wp2_with fail
  go_ret
  have hi8 : i < paths.length := by simpa using hi
  refine ⟨paths[i], paths_le _ (List.getElem_mem hi8), ?_, hr1, gr_trans (gr_weak hg0 _) hg1⟩
  simp


set_option maxHeartbeats 1000000 in
theorem l91Move_any (A : Option Addr) (n c : Nat) (zs : List Int) (w : World) (h : IsRow .u8 w A n c zs) :
    Calls Tryd.prog 35 #[.slice A n c] w fun e w' => ∃ s m : List UInt8, s.length ≤ 100 ∧ m.length ≤ 200 ∧ e = .returned (.tuple #[.string ⟨s.toArray⟩, .string ⟨m.toArray⟩]) ∧ w.grownBy w' none := by
  go_enter Tryd.func35, Tryd.ntmps35
  go_wp2_with fail
  refine (l6Open_any A n c zs w h).mono ?_
  rintro e w1 ⟨q, rfl, hq, hr, hg1⟩
  go_wp2_with fail
  refine (l91Odd_any q 0 w1 hr (by decide)).mono ?_
  rintro e w2 ⟨s, hs, rfl, hr2, hg2⟩
  have hg0 := World.grownBy_alloc w2 (.cells (heads.map fun t => Value.string ⟨t.toArray⟩).toArray 9) none
  have hO := Lib.hid (of_any q 2 _ _ 6 _ _ (hr2.grown0 hg0) (by decide) (by decide) (by decide) (lits_sl w2 q hr2.lt heads))
  go_wp2_with fail
  refine hO.out.mono ?_
  rintro e w3 ⟨i, hi, rfl, hr3, hg3⟩
  go_wp2_with fail
  refine (l91Path_any q 3 w3 hr3 (by decide)).mono ?_
  rintro e w4 ⟨m, hm, rfl, _, hg4⟩
  have hi6 : i < heads.length := by simpa using hi
  have hhl := heads_le _ (List.getElem_mem hi6)
  generalize heads[i] = hd at *
  go_wp2_with fail
  rw [ba_app]
  go_ret2
  exact ⟨s, hd ++ m, hs, by simp; omega, rfl, gr_trans_new hg1 (gr_trans hg2 (gr_trans (gr_weak hg0 _) (gr_trans hg3 hg4))) hq⟩
end Go.Proofs.YtjkiidcdofikhaaDoor
