/- The reference's TermSize. -/
import Derived.Test.YtiaafacmfflfiaaSTerm
namespace Go.Proofs.Ytiaafacmfflfiaa
open Go.RowKit

theorem sum_count (t : Tm) (h : t.wf = true) : t.atoms = 1 + t.text.count 32 := t.count_text h
theorem size_text (x : Sx) (h : x.ok) : x.size = 1 + x.text.count 32 := by rw [Sx.text, wrap_count, size_count x h]
theorem readS_some {l : List UInt8} {t : Tm} (h : readS l = some t) : readT l = some t ∧ t.small = true := by
  unfold readS at h
  split at h
  · rename_i u hu
    split at h
    · rename_i hs
      cases h
      exact ⟨hu, hs⟩
    · cases h
  · cases h
/-- The reference's size of a text. -/
def sizeS (l : List UInt8) : Int := match readS l with
  | some t => t.atoms
  | none => -1
set_option maxHeartbeats 1000000 in
theorem sTermSize_any (l : List UInt8) (w : World) (hl : l.length ≤ 4000000000) : Calls Try.prog 8 #[.string ⟨l.toArray⟩] w fun e w' =>
    e = .returned (.int .i64 (sizeS l)) ∧ w.grownBy w' none := by
  have hT := Lib.hid (l5Term_any l w hl)
  go_enter Try.func8, Try.ntmps8
  go_wp2_with fail
  refine hT.out.mono ?_
  rintro e w1 ⟨hg, hm⟩
  have hX := readX_eq l
  cases hr : readX l with
  | none =>
    rw [hr] at hm hX
    obtain ⟨a, A, n, c, rfl⟩ := hm
    have hN : readS l = none := by cases h : readS l with | none => rfl | some t => rw [h] at hX; cases hX
    have hgA := gr_alloc hg (.cells #[.string a, .slice A n c] 37)
    have hE : sizeS l = -1 := by unfold sizeS; rw [hN]
    go_wp2_with fail
    go_ret
    exact ⟨by rw [hE]; rfl, hgA⟩
  | some x =>
    rw [hr] at hm hX
    obtain ⟨A, c, rfl, hx, hok, hd, hs⟩ := hm
    obtain ⟨t, hN, hxt⟩ : ∃ t, readS l = some t ∧ x = t.sx := by
      cases h : readS l with | none => rw [h] at hX; cases hX | some t => rw [h] at hX; exact ⟨t, rfl, Option.some.inj hX⟩
    have hwf : t.wf = true := (readT_some.1 (readS_some hN).1).2.1
    have hsz : t.atoms = x.size := by rw [sum_count t hwf, size_text x hok, hxt, Tm.text_sx]
    have hgA := World.grownBy_alloc w1 (.cells #[.string ⟨x.atom.toArray⟩, .slice A x.parts.length c] 37) none
    have hSz := Lib.hid (l5Size_any 101 x A c _ _ hd hok (by omega) (hx.grown0 hgA))
    have hE := Lib.hid (show sizeS l = x.size by unfold sizeS; rw [hN, ← hsz])
    clear hxt hX hr hN
    go_wp2_with fail
    refine hSz.out.mono ?_
    rintro e w2 ⟨rfl, hg2⟩
    go_wp2_with fail
    go_ret
    exact ⟨by rw [hE.out]; rfl, gr_trans hg (gr_trans hgA hg2)⟩
end Go.Proofs.Ytiaafacmfflfiaa
