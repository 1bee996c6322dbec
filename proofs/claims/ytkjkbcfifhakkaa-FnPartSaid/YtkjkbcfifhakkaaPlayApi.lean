/- What is asked of plays of a text's type: both sides. -/
import Derived.Test.YtkjkbcfifhakkaaPlayRestS
namespace Go.Proofs.Ytkjkbcfifhakkaa
open Go.RowKit

theorem playOf_some {r : List UInt8} {p : Pl} (h : playOf r p = true) : ∃ t, Ty.read r = some t ∧ p.ok t = true ∧ t.atoms ≤ 15 := by
  unfold playOf at h
  split at h
  · cases h
  · rename_i t ht
    exact ⟨t, ht, h, (Ty.read_some ht).2⟩
def visOf (r : List UInt8) (p : Pl) : Bool := playOf r p && p.vis
def brOf (r : List UInt8) (p : Pl) : Bool := playOf r p && p.br
def legOf (r : List UInt8) (p : Pl) : Bool := playOf r p && (p.vis && p.br)
def pendOf (r : List UInt8) (p : Pl) : Int := if playOf r p then pendI p p.ms.length [] else -1
def viewL (r : List UInt8) (p : Pl) (o : Bool) : List Int := if playOf r p then vI p o p.ms.length else []
theorem viewL_length (r : List UInt8) (p : Pl) (o : Bool) : (viewL r p o).length ≤ 60 := by
  unfold viewL
  split
  · rename_i h
    obtain ⟨t, _, ht, _⟩ := playOf_some h
    have := (Pl.ok_iff.1 ht).1
    have := vI_length p o p.ms.length
    omega
  · simp
/-- What both views give: a row of their own. -/
def ViewPost (w w' : World) (r : List UInt8) (p : Pl) (o : Bool) (e : Ending) : Prop :=
  ∃ A c, e = .returned (.tuple #[.slice A (viewL r p o).length c, .bool (playOf r p)]) ∧ w'.ownsRow w.heap.size 3 1 (.slice A (viewL r p o).length c) (viewL r p o).length ((viewL r p o).map intv)

set_option maxHeartbeats 400000 in
theorem playVisible_any (r : List UInt8) (p : Pl) (A : Option Addr) (cA : Nat) (B : Option Addr) (cB : Nat) (G : Nat → Prop) (w : World) (hr : r.length ≤ 1099511627776) (h : PlS w G p A B) (hsm : SmallP p) :
    Calls Try.prog 21 #[.string ⟨r.toArray⟩, .agg #[.slice A p.ms.length cA, .slice B p.ps.length cB]] w fun e w' => e = .returned (.bool (visOf r p)) ∧ w.grownBy w' none := by
  have hg0 := World.grownBy_alloc w (.cells #[.slice A p.ms.length cA, .slice B p.ps.length cB] 26) none
  have hbx := Blk.new w 26 #[.slice A p.ms.length cA, .slice B p.ps.length cB]
  have h0 := h.grown0 hg0
  have hsmh := Lib.hid hsm
  clear hsm
  go_enter Try.func21, Try.ntmps21
  go_wp2_with fail
  refine (playValid_any r p A cA B cB G _ hr h0 hsmh.out).mono ?_
  rintro e w1 ⟨rfl, hg1⟩
  have hbw := hbx.grown0 hg1
  have d0 := hbw.cell 0
  have d1 := hbw.cell 1
  simp only [List.getElem?_toArray, List.getElem?_cons_zero, List.getElem?_cons_succ] at d0 d1
  have dlt := hbw.lt
  cases hv : playOf r p with
  | false =>
    have hR := Lib.hid (show visOf r p = false by unfold visOf; rw [hv]; rfl)
    clear hv
    go_wp2_with fail
    go_ret
    exact ⟨by rw [hR.out]; rfl, gr_trans hg0 hg1⟩
  | true =>
    obtain ⟨t, _, hp, _⟩ := playOf_some hv
    have hph := Lib.hid hp
    have hR := Lib.hid (show visOf r p = p.vis by unfold visOf; rw [hv]; rfl)
    clear hv hp
    go_wp2_with fail
    refine (visible_any t p hph.out A cA B cB G _ (h0.grown0 hg1) hsmh.out).mono ?_
    rintro e w2 ⟨rfl, hg2⟩
    go_wp2_with fail
    go_ret
    exact ⟨by rw [hR.out]; rfl, gr_trans hg0 (gr_trans hg1 hg2)⟩
set_option maxHeartbeats 400000 in
theorem playBracketed_any (r : List UInt8) (p : Pl) (A : Option Addr) (cA : Nat) (B : Option Addr) (cB : Nat) (G : Nat → Prop) (w : World) (hr : r.length ≤ 1099511627776) (h : PlS w G p A B) (hsm : SmallP p) :
    Calls Try.prog 9 #[.string ⟨r.toArray⟩, .agg #[.slice A p.ms.length cA, .slice B p.ps.length cB]] w fun e w' => e = .returned (.bool (brOf r p)) ∧ w.grownBy w' none := by
  have hg0 := World.grownBy_alloc w (.cells #[.slice A p.ms.length cA, .slice B p.ps.length cB] 26) none
  have hbx := Blk.new w 26 #[.slice A p.ms.length cA, .slice B p.ps.length cB]
  have h0 := h.grown0 hg0
  have hsmh := Lib.hid hsm
  clear hsm
  go_enter Try.func9, Try.ntmps9
  go_wp2_with fail
  refine (playValid_any r p A cA B cB G _ hr h0 hsmh.out).mono ?_
  rintro e w1 ⟨rfl, hg1⟩
  have hbw := hbx.grown0 hg1
  have d0 := hbw.cell 0
  have d1 := hbw.cell 1
  simp only [List.getElem?_toArray, List.getElem?_cons_zero, List.getElem?_cons_succ] at d0 d1
  have dlt := hbw.lt
  cases hv : playOf r p with
  | false =>
    have hR := Lib.hid (show brOf r p = false by unfold brOf; rw [hv]; rfl)
    clear hv
    go_wp2_with fail
    go_ret
    exact ⟨by rw [hR.out]; rfl, gr_trans hg0 hg1⟩
  | true =>
    obtain ⟨t, _, hp, _⟩ := playOf_some hv
    have hph := Lib.hid hp
    have hR := Lib.hid (show brOf r p = p.br by unfold brOf; rw [hv]; rfl)
    clear hv hp
    go_wp2_with fail
    refine (bracketed_any t p hph.out A cA B cB G _ (h0.grown0 hg1) hsmh.out).mono ?_
    rintro e w2 ⟨rfl, hg2⟩
    go_wp2_with fail
    go_ret
    exact ⟨by rw [hR.out]; rfl, gr_trans hg0 (gr_trans hg1 hg2)⟩
set_option maxHeartbeats 400000 in
theorem sPlayVisible_any (r : List UInt8) (p : Pl) (A : Option Addr) (cA : Nat) (B : Option Addr) (cB : Nat) (G : Nat → Prop) (w : World) (hr : r.length ≤ 1099511627776) (h : PlS w G p A B) (hsm : SmallP p) :
    Calls Try.prog 22 #[.string ⟨r.toArray⟩, .agg #[.slice A p.ms.length cA, .slice B p.ps.length cB]] w fun e w' => e = .returned (.bool (visOf r p)) ∧ w.grownBy w' none := by
  have hg0 := World.grownBy_alloc w (.cells #[.slice A p.ms.length cA, .slice B p.ps.length cB] 26) none
  have hbx := Blk.new w 26 #[.slice A p.ms.length cA, .slice B p.ps.length cB]
  have h0 := h.grown0 hg0
  have hsmh := Lib.hid hsm
  clear hsm
  go_enter Try.func22, Try.ntmps22
  go_wp2_with fail
  refine (sPlayValid_any r p A cA B cB G _ hr h0 hsmh.out).mono ?_
  rintro e w1 ⟨rfl, hg1⟩
  have hbw := hbx.grown0 hg1
  have d0 := hbw.cell 0
  have d1 := hbw.cell 1
  simp only [List.getElem?_toArray, List.getElem?_cons_zero, List.getElem?_cons_succ] at d0 d1
  have dlt := hbw.lt
  cases hv : playOf r p with
  | false =>
    have hR := Lib.hid (show visOf r p = false by unfold visOf; rw [hv]; rfl)
    clear hv
    go_wp2_with fail
    go_ret
    exact ⟨by rw [hR.out]; rfl, gr_trans hg0 hg1⟩
  | true =>
    obtain ⟨t, _, hp, _⟩ := playOf_some hv
    have hph := Lib.hid hp
    have hR := Lib.hid (show visOf r p = p.vis by unfold visOf; rw [hv]; rfl)
    clear hv hp
    go_wp2_with fail
    refine (l2Visible_any t p hph.out A cA B cB G _ (h0.grown0 hg1) hsmh.out).mono ?_
    rintro e w2 ⟨rfl, hg2⟩
    go_wp2_with fail
    go_ret
    exact ⟨by rw [hR.out]; rfl, gr_trans hg0 (gr_trans hg1 hg2)⟩
set_option maxHeartbeats 400000 in
theorem sPlayBracketed_any (r : List UInt8) (p : Pl) (A : Option Addr) (cA : Nat) (B : Option Addr) (cB : Nat) (G : Nat → Prop) (w : World) (hr : r.length ≤ 1099511627776) (h : PlS w G p A B) (hsm : SmallP p) :
    Calls Try.prog 10 #[.string ⟨r.toArray⟩, .agg #[.slice A p.ms.length cA, .slice B p.ps.length cB]] w fun e w' => e = .returned (.bool (brOf r p)) ∧ w.grownBy w' none := by
  have hg0 := World.grownBy_alloc w (.cells #[.slice A p.ms.length cA, .slice B p.ps.length cB] 26) none
  have hbx := Blk.new w 26 #[.slice A p.ms.length cA, .slice B p.ps.length cB]
  have h0 := h.grown0 hg0
  have hsmh := Lib.hid hsm
  clear hsm
  go_enter Try.func10, Try.ntmps10
  go_wp2_with fail
  refine (sPlayValid_any r p A cA B cB G _ hr h0 hsmh.out).mono ?_
  rintro e w1 ⟨rfl, hg1⟩
  have hbw := hbx.grown0 hg1
  have d0 := hbw.cell 0
  have d1 := hbw.cell 1
  simp only [List.getElem?_toArray, List.getElem?_cons_zero, List.getElem?_cons_succ] at d0 d1
  have dlt := hbw.lt
  cases hv : playOf r p with
  | false =>
    have hR := Lib.hid (show brOf r p = false by unfold brOf; rw [hv]; rfl)
    clear hv
    go_wp2_with fail
    go_ret
    exact ⟨by rw [hR.out]; rfl, gr_trans hg0 hg1⟩
  | true =>
    obtain ⟨t, _, hp, _⟩ := playOf_some hv
    have hph := Lib.hid hp
    have hR := Lib.hid (show brOf r p = p.br by unfold brOf; rw [hv]; rfl)
    clear hv hp
    go_wp2_with fail
    refine (l2Bracketed_any t p hph.out A cA B cB G _ (h0.grown0 hg1) hsmh.out).mono ?_
    rintro e w2 ⟨rfl, hg2⟩
    go_wp2_with fail
    go_ret
    exact ⟨by rw [hR.out]; rfl, gr_trans hg0 (gr_trans hg1 hg2)⟩
set_option maxHeartbeats 400000 in
theorem viewOf_any (o : Bool) (r : List UInt8) (p : Pl) (A : Option Addr) (cA : Nat) (B : Option Addr) (cB : Nat) (G : Nat → Prop) (w : World) (hr : r.length ≤ 1099511627776) (h : PlS w G p A B) (hsm : SmallP p) :
    Calls Try.prog 33 #[.string ⟨r.toArray⟩, .agg #[.slice A p.ms.length cA, .slice B p.ps.length cB], .bool o] w fun e w' => ViewPost w w' r p o e ∧ w.grownBy w' none := by
  have hg0 := World.grownBy_alloc w (.cells #[.slice A p.ms.length cA, .slice B p.ps.length cB] 26) none
  have hbx := Blk.new w 26 #[.slice A p.ms.length cA, .slice B p.ps.length cB]
  have h0 := h.grown0 hg0
  have hsmh := Lib.hid hsm
  clear hsm
  go_enter Try.func33, Try.ntmps33
  go_wp2_with fail
  refine (playValid_any r p A cA B cB G _ hr h0 hsmh.out).mono ?_
  rintro e w1 ⟨rfl, hg1⟩
  have hbw := hbx.grown0 hg1
  have d0 := hbw.cell 0
  have d1 := hbw.cell 1
  simp only [List.getElem?_toArray, List.getElem?_cons_zero, List.getElem?_cons_succ] at d0 d1
  have dlt := hbw.lt
  cases hv : playOf r p with
  | false =>
    have hvh := Lib.hid hv
    clear hv
    go_wp2_with fail
    go_ret2
    refine ⟨?_, gr_trans hg0 hg1⟩
    unfold ViewPost viewL
    rw [hvh.out]
    exact ⟨_, _, rfl, own_nil _ _ _⟩
  | true =>
    obtain ⟨t, _, hp, _⟩ := playOf_some hv
    have hph := Lib.hid hp
    have hvh := Lib.hid hv
    clear hv hp
    go_wp2_with fail
    refine (view_any t p hph.out A cA B cB G o _ _ (h0.grown0 hg1) hsmh.out (Nat.le_refl _)).mono ?_
    rintro e w2 ⟨V, c, rfl, hown, hg2⟩
    go_wp2_with fail
    go_ret2
    refine ⟨?_, gr_trans hg0 (gr_trans hg1 hg2)⟩
    unfold ViewPost viewL
    rw [hvh.out]
    exact ⟨_, _, rfl, own_weak hown (gr_trans hg0 hg1).size⟩
set_option maxHeartbeats 400000 in
theorem viewO_any (r : List UInt8) (p : Pl) (A : Option Addr) (cA : Nat) (B : Option Addr) (cB : Nat) (G : Nat → Prop) (w : World) (hr : r.length ≤ 1099511627776) (h : PlS w G p A B) (hsm : SmallP p) :
    Calls Try.prog 13 #[.string ⟨r.toArray⟩, .agg #[.slice A p.ms.length cA, .slice B p.ps.length cB]] w fun e w' => ViewPost w w' r p true e ∧ w.grownBy w' none := by
  have hg0 := World.grownBy_alloc w (.cells #[.slice A p.ms.length cA, .slice B p.ps.length cB] 26) none
  have hbx := Blk.new w 26 #[.slice A p.ms.length cA, .slice B p.ps.length cB]
  have h0 := h.grown0 hg0
  have hsmh := Lib.hid hsm
  clear hsm
  go_enter Try.func13, Try.ntmps13
  go_wp2_with fail
  refine (viewOf_any true r p A cA B cB G _ hr h0 hsmh.out).mono ?_
  rintro e w1 ⟨⟨V, c, rfl, hown⟩, hg1⟩
  go_wp2_with fail
  go_ret2
  exact ⟨⟨V, c, rfl, own_weak hown (by simp)⟩, gr_trans hg0 hg1⟩
set_option maxHeartbeats 400000 in
theorem viewP_any (r : List UInt8) (p : Pl) (A : Option Addr) (cA : Nat) (B : Option Addr) (cB : Nat) (G : Nat → Prop) (w : World) (hr : r.length ≤ 1099511627776) (h : PlS w G p A B) (hsm : SmallP p) :
    Calls Try.prog 18 #[.string ⟨r.toArray⟩, .agg #[.slice A p.ms.length cA, .slice B p.ps.length cB]] w fun e w' => ViewPost w w' r p false e ∧ w.grownBy w' none := by
  have hg0 := World.grownBy_alloc w (.cells #[.slice A p.ms.length cA, .slice B p.ps.length cB] 26) none
  have hbx := Blk.new w 26 #[.slice A p.ms.length cA, .slice B p.ps.length cB]
  have h0 := h.grown0 hg0
  have hsmh := Lib.hid hsm
  clear hsm
  go_enter Try.func18, Try.ntmps18
  go_wp2_with fail
  refine (viewOf_any false r p A cA B cB G _ hr h0 hsmh.out).mono ?_
  rintro e w1 ⟨⟨V, c, rfl, hown⟩, hg1⟩
  go_wp2_with fail
  go_ret2
  exact ⟨⟨V, c, rfl, own_weak hown (by simp)⟩, gr_trans hg0 hg1⟩
set_option maxHeartbeats 400000 in
theorem sViewO_any (r : List UInt8) (p : Pl) (A : Option Addr) (cA : Nat) (B : Option Addr) (cB : Nat) (G : Nat → Prop) (w : World) (hr : r.length ≤ 1099511627776) (h : PlS w G p A B) (hsm : SmallP p) :
    Calls Try.prog 14 #[.string ⟨r.toArray⟩, .agg #[.slice A p.ms.length cA, .slice B p.ps.length cB]] w fun e w' => ViewPost w w' r p true e ∧ w.grownBy w' none := by
  have hg0 := World.grownBy_alloc w (.cells #[.slice A p.ms.length cA, .slice B p.ps.length cB] 26) none
  have hbx := Blk.new w 26 #[.slice A p.ms.length cA, .slice B p.ps.length cB]
  have h0 := h.grown0 hg0
  have hsmh := Lib.hid hsm
  clear hsm
  go_enter Try.func14, Try.ntmps14
  go_wp2_with fail
  refine (sPlayValid_any r p A cA B cB G _ hr h0 hsmh.out).mono ?_
  rintro e w1 ⟨rfl, hg1⟩
  have hbw := hbx.grown0 hg1
  have d0 := hbw.cell 0
  have d1 := hbw.cell 1
  simp only [List.getElem?_toArray, List.getElem?_cons_zero, List.getElem?_cons_succ] at d0 d1
  have dlt := hbw.lt
  cases hv : playOf r p with
  | false =>
    have hvh := Lib.hid hv
    clear hv
    go_wp2_with fail
    go_ret2
    refine ⟨?_, gr_alloc (gr_trans hg0 hg1) _⟩
    unfold ViewPost viewL
    rw [hvh.out]
    exact ⟨_, _, rfl, own_empty _ (gr_trans hg0 hg1).size⟩
  | true =>
    obtain ⟨t, _, hp, _⟩ := playOf_some hv
    have hph := Lib.hid hp
    have hvh := Lib.hid hv
    clear hv hp
    go_wp2_with fail
    refine (l2View_any t p hph.out A cA B cB G true 0 rfl _ _ (h0.grown0 hg1) hsmh.out (Nat.le_refl _)).mono ?_
    rintro e w2 ⟨V, c, rfl, hown, hg2⟩
    go_wp2_with fail
    go_ret2
    refine ⟨?_, gr_trans hg0 (gr_trans hg1 hg2)⟩
    unfold ViewPost viewL
    rw [hvh.out]
    exact ⟨_, _, rfl, own_weak hown (gr_trans hg0 hg1).size⟩
set_option maxHeartbeats 400000 in
theorem sViewP_any (r : List UInt8) (p : Pl) (A : Option Addr) (cA : Nat) (B : Option Addr) (cB : Nat) (G : Nat → Prop) (w : World) (hr : r.length ≤ 1099511627776) (h : PlS w G p A B) (hsm : SmallP p) :
    Calls Try.prog 19 #[.string ⟨r.toArray⟩, .agg #[.slice A p.ms.length cA, .slice B p.ps.length cB]] w fun e w' => ViewPost w w' r p false e ∧ w.grownBy w' none := by
  have hg0 := World.grownBy_alloc w (.cells #[.slice A p.ms.length cA, .slice B p.ps.length cB] 26) none
  have hbx := Blk.new w 26 #[.slice A p.ms.length cA, .slice B p.ps.length cB]
  have h0 := h.grown0 hg0
  have hsmh := Lib.hid hsm
  clear hsm
  go_enter Try.func19, Try.ntmps19
  go_wp2_with fail
  refine (sPlayValid_any r p A cA B cB G _ hr h0 hsmh.out).mono ?_
  rintro e w1 ⟨rfl, hg1⟩
  have hbw := hbx.grown0 hg1
  have d0 := hbw.cell 0
  have d1 := hbw.cell 1
  simp only [List.getElem?_toArray, List.getElem?_cons_zero, List.getElem?_cons_succ] at d0 d1
  have dlt := hbw.lt
  cases hv : playOf r p with
  | false =>
    have hvh := Lib.hid hv
    clear hv
    go_wp2_with fail
    go_ret2
    refine ⟨?_, gr_alloc (gr_trans hg0 hg1) _⟩
    unfold ViewPost viewL
    rw [hvh.out]
    exact ⟨_, _, rfl, own_empty _ (gr_trans hg0 hg1).size⟩
  | true =>
    obtain ⟨t, _, hp, _⟩ := playOf_some hv
    have hph := Lib.hid hp
    have hvh := Lib.hid hv
    clear hv hp
    go_wp2_with fail
    refine (l2View_any t p hph.out A cA B cB G false 1 rfl _ _ (h0.grown0 hg1) hsmh.out (Nat.le_refl _)).mono ?_
    rintro e w2 ⟨V, c, rfl, hown, hg2⟩
    go_wp2_with fail
    go_ret2
    refine ⟨?_, gr_trans hg0 (gr_trans hg1 hg2)⟩
    unfold ViewPost viewL
    rw [hvh.out]
    exact ⟨_, _, rfl, own_weak hown (gr_trans hg0 hg1).size⟩
end Go.Proofs.Ytkjkbcfifhakkaa
