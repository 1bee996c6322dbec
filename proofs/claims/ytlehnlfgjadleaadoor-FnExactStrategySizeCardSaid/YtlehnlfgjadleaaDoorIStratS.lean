/- The program's StrategySize. -/
import Derived.Test.YtlehnlfgjadleaaDoorIStrat
import Derived.Test.YtlehnlfgjadleaaDoorISize
namespace Go.Proofs.YtlehnlfgjadleaaDoor
open Go.RowKit

set_option maxHeartbeats 2000000 in
theorem strategySize_any (s l : List UInt8) (w : World) (lo : Nat) (hs : s.length ≤ 2000000) (hl : l.length ≤ 2000000) (hL : LaidW w lo) :
    Calls Tryd.prog 11 #[.string ⟨s.toArray⟩, .string ⟨l.toArray⟩] w fun e w' => e = .returned (.int .i64 (stratSize s l)) ∧ w.grownBy w' none := by
  have hS := Lib.hid (strategy_any s l w lo hs hl hL)
  go_enter Tryd.func11, Tryd.ntmps11
  go_wp2_with fail
  refine hS.out.mono ?_
  rintro e w1 ⟨hg1, vk, v, rfl, hv⟩
  cases hp : strat s l with
  | none =>
    rw [hp] at hv
    obtain rfl : v = .pointer none := hv
    have hV := Lib.hid (show stratSize s l = -1 by unfold stratSize; rw [hp])
    clear hp hS
    go_wp2_with fail
    go_ret
    exact ⟨by rw [hV.out]; rfl, hg1⟩
  | some tb =>
    obtain ⟨t, b⟩ := tb
    have hV := Lib.hid (show stratSize s l = b.size by unfold stratSize; rw [hp])
    have hb200 := strat_small hp
    rw [hp] at hv
    obtain ⟨q, rfl, hb⟩ := hv
    have hB := Lib.hid (sizeB_any _ b q _ w1 (Nat.le_refl _) (by omega) hb)
    clear hp hS
    go_wp2_with fail
    refine hB.out.mono ?_
    rintro e w2 ⟨rfl, hg2⟩
    go_wp2_with fail
    go_ret
    exact ⟨by rw [hV.out]; rfl, gr_trans hg1 hg2⟩
end Go.Proofs.YtlehnlfgjadleaaDoor
