/- Two plays are equal: by the laws' own test. -/
import Derived.Test.YtkjkbcfifhakkaaDoorPlayMem
namespace Go.Proofs.YtkjkbcfifhakkaaDoor
open Go.RowKit

set_option maxHeartbeats 400000 in
theorem samePlay_any (p q : Pl) (A : Option Addr) (cA : Nat) (B : Option Addr) (cB : Nat) (A' : Option Addr) (c' : Nat) (B' : Option Addr) (d' : Nat) (F G : Nat → Prop) (w : World) (h : PlS w F p A B) (k : PlS w G q A' B')
    (h1 : p.ms.length ≤ 1048576) (h2 : p.ps.length ≤ 1048576) (k1 : q.ms.length ≤ 1048576) (k2 : q.ps.length ≤ 1048576) :
    Calls Tryd.prog 17 #[.agg #[.slice A p.ms.length cA, .slice B p.ps.length cB], .agg #[.slice A' q.ms.length c', .slice B' q.ps.length d']] w fun e w' => e = .returned (.bool (plEq p q)) ∧ w.grownBy w' none := by
  have hbx := Blk.new w 26 #[.slice A p.ms.length cA, .slice B p.ps.length cB]
  have hg0 := World.grownBy_alloc w (.cells #[.slice A p.ms.length cA, .slice B p.ps.length cB] 26) none
  have hby := Blk.new (w.alloc (.cells #[.slice A p.ms.length cA, .slice B p.ps.length cB] 26)) 26 #[.slice A' q.ms.length c', .slice B' q.ps.length d']
  have hbx1 := hbx.alloc (.cells #[.slice A' q.ms.length c', .slice B' q.ps.length d'] 26)
  have hg1 := gr_alloc hg0 (.cells #[.slice A' q.ms.length c', .slice B' q.ps.length d'] 26)
  rw [World.size_alloc] at hby
  have h := h.grown0 hg1
  have k := k.grown0 hg1
  go_enter Tryd.func17, Tryd.ntmps17
  go_wp2_with fail
  refine (sameTexts_any p.ms q.ms A A' cA c' F G _ h.1 k.1 (by omega) (by omega)).mono ?_
  rintro e w1 ⟨rfl, hg2⟩
  have hx1 := hbx1.grown0 hg2
  have hy1 := hby.grown0 hg2
  have a0 := hx1.cell 1
  have b0 := hy1.cell 1
  simp only [List.getElem?_toArray, List.getElem?_cons_zero, List.getElem?_cons_succ] at a0 b0
  have lt1 := hy1.lt
  cases he : (p.ms == q.ms) with
  | false =>
    have hE := Lib.hid (show plEq p q = false by unfold plEq; rw [he]; rfl)
    clear he
    go_wp2_with fail
    go_ret
    exact ⟨by rw [hE.out]; rfl, gr_trans hg1 hg2⟩
  | true =>
    have hE := Lib.hid (show plEq p q = (p.ps == q.ps) by unfold plEq; rw [he]; rfl)
    clear he
    go_wp2_with fail
    refine (sameInts_any p.ps q.ps B B' cB d' F G _ (h.2.grown0 hg2) (k.2.grown0 hg2) (by omega) (by omega)).mono ?_
    rintro e w2 ⟨rfl, hg3⟩
    have hg := gr_trans hg1 (gr_trans hg2 hg3)
    cases he : (p.ps == q.ps) with
    | false =>
      have hE2 := Lib.hid (show plEq p q = false by rw [hE.out, he])
      clear he
      go_wp2_with fail
      go_ret
      exact ⟨by rw [hE2.out]; rfl, hg⟩
    | true =>
      have hE2 := Lib.hid (show plEq p q = true by rw [hE.out, he])
      clear he
      go_wp2_with fail
      go_ret
      exact ⟨by rw [hE2.out]; rfl, hg⟩
end Go.Proofs.YtkjkbcfifhakkaaDoor
