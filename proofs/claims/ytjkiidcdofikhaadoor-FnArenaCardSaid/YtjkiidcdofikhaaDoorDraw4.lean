/- What is drawn: for the arena's laws. -/
import Derived.Test.YtjkiidcdofikhaaDoorDraw3
namespace Go.Proofs.YtjkiidcdofikhaaDoor
open Go.RowKit

set_option maxHeartbeats 1000000 in
theorem drawArenaMoves_any (A : Option Addr) (n c : Nat) (zs : List Int) (w : World) (h : IsRow .u8 w A n c zs) :
    Calls Tryd.prog 14 #[.slice A n c] w fun e w' => ∃ s : List UInt8, s.length ≤ 100 ∧ e = .returned (.string ⟨s.toArray⟩) ∧ w.grownBy w' none := by
  go_enter Tryd.func14, Tryd.ntmps14
  go_wp2_with fail
  refine (l6Open_any A n c zs w h).mono ?_
  rintro e w1 ⟨q, rfl, hq, hr, hg1⟩
  go_wp2_with fail
  refine (l91Odd_any q 0 w1 hr (by decide)).mono ?_
  rintro e w2 ⟨s, hs, rfl, _, hg2⟩
  go_wp2_with fail
  go_ret
  exact ⟨s, hs, rfl, gr_trans_new hg1 hg2 hq⟩
theorem drawMoveValid_any (A : Option Addr) (n c : Nat) (zs : List Int) (w : World) (h : IsRow .u8 w A n c zs) :
    Calls Tryd.prog 18 #[.slice A n c] w fun e w' => ∃ s m : List UInt8, s.length ≤ 100 ∧ m.length ≤ 200 ∧ e = .returned (.tuple #[.string ⟨s.toArray⟩, .string ⟨m.toArray⟩]) ∧ w.grownBy w' none := by
  go_enter Tryd.func18, Tryd.ntmps18
  go_wp2_with fail
  refine (l91Move_any A n c zs w h).mono ?_
  rintro e w1 ⟨s, m, hs, hm, rfl, hg1⟩
  go_wp2_with fail
  go_ret2
  exact ⟨s, m, hs, hm, rfl, hg1⟩
end Go.Proofs.YtjkiidcdofikhaaDoor
