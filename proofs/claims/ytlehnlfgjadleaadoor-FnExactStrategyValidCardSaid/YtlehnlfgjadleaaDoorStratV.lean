/- The reference's StrategyValid and StrategySize. -/
import Derived.Test.YtlehnlfgjadleaaDoorStrat
namespace Go.Proofs.YtlehnlfgjadleaaDoor
open Go.RowKit

/-- The nodes of the body that two texts give. -/
def stratSize (s l : List UInt8) : Int := match strat s l with
  | some (_, b) => b.size
  | none => -1
theorem strat_small {s l : List UInt8} {t : Ty} {b : Bo} (h : strat s l = some (t, b)) : b.size ≤ 200 := by
  unfold strat readR at h
  cases hr : Ty.read s with
  | none => rw [hr] at h; cases h
  | some u =>
    rw [hr] at h
    simp only [] at h
    by_cases hl : l.length ≤ 2000
    · rw [if_pos hl] at h
      cases hq : sbody 101 u.args l with
      | none => rw [hq] at h; cases h
      | some br =>
        obtain ⟨x, r⟩ := br
        rw [hq] at h
        cases r with
        | cons => cases h
        | nil =>
          by_cases h2 : x.size ≤ 200
          · simp only [if_pos h2] at h
            cases h
            exact h2
          · simp only [if_neg h2] at h
            cases h
    · rw [if_neg hl] at h; cases h
set_option maxHeartbeats 400000 in
theorem sStrategyValid_any (s l : List UInt8) (w : World) (hs : s.length ≤ 1048576) (hl : l.length ≤ 1048576) :
    Calls Tryd.prog 8 #[.string ⟨s.toArray⟩, .string ⟨l.toArray⟩] w fun e w' => e = .returned (.bool (strat s l).isSome) ∧ w.grownBy w' none := by
  have hT := l3Strategy_any s l w hs hl
  go_enter Tryd.func8, Tryd.ntmps8
  go_wp2_with fail
  refine hT.mono ?_
  rintro e w1 ⟨hg, hm⟩
  cases hp : strat s l with
  | none =>
    have hV := Lib.hid (show (strat s l).isSome = false by rw [hp]; rfl)
    rw [hp] at hm
    obtain ⟨A, n, c, a, lv, B, m, d, C, p, q, rfl⟩ := hm
    clear hp hT
    go_wp2_with fail
    go_ret
    exact ⟨by rw [hV.out]; rfl, by first | exact hg | exact gr_alloc hg _ | exact gr_alloc (gr_alloc hg _) _⟩
  | some tb =>
    obtain ⟨t, b⟩ := tb
    have hV := Lib.hid (show (strat s l).isSome = true by rw [hp]; rfl)
    rw [hp] at hm
    obtain ⟨A, c, B, d, C, q, rfl, ht, hn⟩ := hm
    clear hp hT
    unfold nodeV
    go_wp2_with fail
    go_ret
    exact ⟨by rw [hV.out]; rfl, by first | exact hg | exact gr_alloc hg _ | exact gr_alloc (gr_alloc hg _) _⟩
set_option maxHeartbeats 400000 in
theorem sStrategySize_any (s l : List UInt8) (w : World) (hs : s.length ≤ 1048576) (hl : l.length ≤ 1048576) :
    Calls Tryd.prog 10 #[.string ⟨s.toArray⟩, .string ⟨l.toArray⟩] w fun e w' => e = .returned (.int .i64 (stratSize s l)) ∧ w.grownBy w' none := by
  have hT := l3Strategy_any s l w hs hl
  go_enter Tryd.func10, Tryd.ntmps10
  go_wp2_with fail
  refine hT.mono ?_
  rintro e w1 ⟨hg, hm⟩
  cases hp : strat s l with
  | none =>
    have hV := Lib.hid (show stratSize s l = -1 by unfold stratSize; rw [hp])
    rw [hp] at hm
    obtain ⟨A, n, c, a, lv, B, m, d, C, p, q, rfl⟩ := hm
    clear hp hT
    go_wp2_with fail
    go_ret
    exact ⟨by rw [hV.out]; rfl, by first | exact hg | exact gr_alloc hg _ | exact gr_alloc (gr_alloc hg _) _⟩
  | some tb =>
    obtain ⟨t, b⟩ := tb
    have hV := Lib.hid (show stratSize s l = b.size by unfold stratSize; rw [hp])
    have hb200 := strat_small hp
    rw [hp] at hm
    obtain ⟨A, c, B, d, C, q, rfl, ht, hn⟩ := hm
    have hga := gr_alloc (World.grownBy_alloc w1 (.cells #[.slice A t.args.length c] 29) none) (.cells #[.string ⟨b.atm.toArray⟩, .int .i64 (b.level : Int), .slice B b.kn d, .slice C b.yn q] 36)
    have hcl := Lib.hid (l3Size_any _ b B d C q _ _ (Nat.le_refl _) (by omega) (hn.grown0 hga))
    clear hp hT ht hn
    unfold nodeV at hcl ⊢
    go_wp2_with fail
    refine hcl.out.mono ?_
    rintro e w2 ⟨rfl, hg2⟩
    go_wp2_with fail
    go_ret
    exact ⟨by rw [hV.out]; rfl, gr_trans (gr_trans hg hga) hg2⟩
end Go.Proofs.YtlehnlfgjadleaaDoor
