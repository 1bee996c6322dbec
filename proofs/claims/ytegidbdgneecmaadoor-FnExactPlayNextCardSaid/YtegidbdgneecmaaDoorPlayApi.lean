/- What is asked of plays of a text's type: both sides. -/
import Derived.Test.YtegidbdgneecmaaDoorPlayRestS
namespace Go.Proofs.YtegidbdgneecmaaDoor
open Go.RowKit

theorem playOf_some {r : List UInt8} {p : Pl} (h : playOf r p = true) : ∃ t, Ty.read r = some t ∧ p.ok t = true ∧ t.atoms ≤ 15 := by
  unfold playOf at h
  split at h
  · cases h
  · rename_i t ht
    exact ⟨t, ht, h, (Ty.read_some ht).2⟩
def visOf (r : List UInt8) (p : Pl) : Bool := playOf r p && p.vis
def brOf (r : List UInt8) (p : Pl) : Bool := playOf r p && p.br
def legOf (r : List UInt8) (p : Pl) : Bool := playOf r p && (p.vis && p.br)
def pendOf (r : List UInt8) (p : Pl) : Int := if playOf r p then pendI p p.ms.length [] else -1
def viewL (r : List UInt8) (p : Pl) (o : Bool) : List Int := if playOf r p then vI p o p.ms.length else []
theorem viewL_length (r : List UInt8) (p : Pl) (o : Bool) : (viewL r p o).length ≤ 60 := by
  unfold viewL
  split
  · rename_i h
    obtain ⟨t, _, ht, _⟩ := playOf_some h
    have := (Pl.ok_iff.1 ht).1
    have := vI_length p o p.ms.length
    omega
  · simp
/-- What both views give: a row of their own. -/
def ViewPost (w w' : World) (r : List UInt8) (p : Pl) (o : Bool) (e : Ending) : Prop :=
  ∃ A c, e = .returned (.tuple #[.slice A (viewL r p o).length c, .bool (playOf r p)]) ∧ w'.ownsRow w.heap.size 3 1 (.slice A (viewL r p o).length c) (viewL r p o).length ((viewL r p o).map intv)

set_option maxHeartbeats 400000 in
theorem playLegal_any (r : List UInt8) (p : Pl) (A : Option Addr) (cA : Nat) (B : Option Addr) (cB : Nat) (G : Nat → Prop) (w : World) (hr : r.length ≤ 1099511627776) (h : PlS w G p A B) (hsm : SmallP p) :
    Calls Tryd.prog 20 #[.string ⟨r.toArray⟩, .agg #[.slice A p.ms.length cA, .slice B p.ps.length cB]] w fun e w' => e = .returned (.bool (legOf r p)) ∧ w.grownBy w' none := by
  have hg0 := World.grownBy_alloc w (.cells #[.slice A p.ms.length cA, .slice B p.ps.length cB] 30) none
  have hbx := Blk.new w 30 #[.slice A p.ms.length cA, .slice B p.ps.length cB]
  have h0 := h.grown0 hg0
  have hsmh := Lib.hid hsm
  clear hsm
  go_enter Tryd.func20, Tryd.ntmps20
  go_wp2_with fail
  refine (playValid_any r p A cA B cB G _ hr h0 hsmh.out).mono ?_
  rintro e w1 ⟨rfl, hg1⟩
  have hbw := hbx.grown0 hg1
  have d0 := hbw.cell 0
  have d1 := hbw.cell 1
  simp only [List.getElem?_toArray, List.getElem?_cons_zero, List.getElem?_cons_succ] at d0 d1
  have dlt := hbw.lt
  cases hv : playOf r p with
  | false =>
    have hR := Lib.hid (show legOf r p = false by unfold legOf; rw [hv]; rfl)
    clear hv
    go_wp2_with fail
    go_ret
    exact ⟨by rw [hR.out]; rfl, gr_trans hg0 hg1⟩
  | true =>
    obtain ⟨t, _, hp, _⟩ := playOf_some hv
    have hph := Lib.hid hp
    have hR := Lib.hid (show legOf r p = legB p by unfold legOf; rw [hv]; rfl)
    clear hv hp
    go_wp2_with fail
    refine (legal_any t p hph.out A cA B cB G _ (h0.grown0 hg1) hsmh.out).mono ?_
    rintro e w2 ⟨rfl, hg2⟩
    go_wp2_with fail
    go_ret
    exact ⟨by rw [hR.out]; rfl, gr_trans hg0 (gr_trans hg1 hg2)⟩
set_option maxHeartbeats 400000 in
theorem sPlayLegal_any (r : List UInt8) (p : Pl) (A : Option Addr) (cA : Nat) (B : Option Addr) (cB : Nat) (G : Nat → Prop) (w : World) (hr : r.length ≤ 1099511627776) (h : PlS w G p A B) (hsm : SmallP p) :
    Calls Tryd.prog 16 #[.string ⟨r.toArray⟩, .agg #[.slice A p.ms.length cA, .slice B p.ps.length cB]] w fun e w' => e = .returned (.bool (legOf r p)) ∧ w.grownBy w' none := by
  have hg0 := World.grownBy_alloc w (.cells #[.slice A p.ms.length cA, .slice B p.ps.length cB] 30) none
  have hbx := Blk.new w 30 #[.slice A p.ms.length cA, .slice B p.ps.length cB]
  have h0 := h.grown0 hg0
  have hsmh := Lib.hid hsm
  clear hsm
  go_enter Tryd.func16, Tryd.ntmps16
  go_wp2_with fail
  refine (sPlayValid_any r p A cA B cB G _ hr h0 hsmh.out).mono ?_
  rintro e w1 ⟨rfl, hg1⟩
  have hbw := hbx.grown0 hg1
  have d0 := hbw.cell 0
  have d1 := hbw.cell 1
  simp only [List.getElem?_toArray, List.getElem?_cons_zero, List.getElem?_cons_succ] at d0 d1
  have dlt := hbw.lt
  cases hv : playOf r p with
  | false =>
    have hR := Lib.hid (show legOf r p = false by unfold legOf; rw [hv]; rfl)
    clear hv
    go_wp2_with fail
    go_ret
    exact ⟨by rw [hR.out]; rfl, gr_trans hg0 hg1⟩
  | true =>
    obtain ⟨t, _, hp, _⟩ := playOf_some hv
    have hph := Lib.hid hp
    have hR := Lib.hid (show legOf r p = (p.vis && p.br) by unfold legOf; rw [hv]; rfl)
    clear hv hp
    go_wp2_with fail
    refine (l2Visible_any t p hph.out A cA B cB G _ (h0.grown0 hg1) hsmh.out).mono ?_
    rintro e w2 ⟨rfl, hg2⟩
    have hg12 := gr_trans hg1 hg2
    have hbw2 := hbw.grown0 hg2
    have f0 := hbw2.cell 0
    have f1 := hbw2.cell 1
    simp only [List.getElem?_toArray, List.getElem?_cons_zero, List.getElem?_cons_succ] at f0 f1
    have flt := hbw2.lt
    cases hv : p.vis with
    | false =>
      have hR2 := Lib.hid (show legOf r p = false by rw [hR.out, hv]; rfl)
      clear hv
      go_wp2_with fail
      go_ret
      exact ⟨by rw [hR2.out]; rfl, gr_trans hg0 hg12⟩
    | true =>
      have hR2 := Lib.hid (show legOf r p = p.br by rw [hR.out, hv]; rfl)
      clear hv
      go_wp2_with fail
      refine (l2Bracketed_any t p hph.out A cA B cB G _ (h0.grown0 hg12) hsmh.out).mono ?_
      rintro e w3 ⟨rfl, hg3⟩
      go_wp2_with fail
      go_ret
      exact ⟨by rw [hR2.out]; rfl, gr_trans hg0 (gr_trans hg12 hg3)⟩
end Go.Proofs.YtegidbdgneecmaaDoor
