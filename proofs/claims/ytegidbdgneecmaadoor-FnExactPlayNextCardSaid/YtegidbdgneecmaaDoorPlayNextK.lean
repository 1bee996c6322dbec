/- PlayNext: the program's, its plays pairwise apart. -/
import Derived.Test.YtegidbdgneecmaaDoorPlayNextA
import Derived.Test.YtegidbdgneecmaaDoorPlayNextJ
namespace Go.Proofs.YtegidbdgneecmaaDoor
open Go.RowKit

/-- What the program's PlayNext gives. -/
def NextBPost (w : World) (r : List UInt8) (p : Pl) (e : Ending) (w' : World) : Prop :=
  ∃ A' c' D, e = .returned (.tuple #[.slice A' D.length c', .bool (nextOk r p)]) ∧ PDs w' w.heap.size (.slice A' D.length c') D ∧ D.map PD.p = nextPl r p ∧ Apart D ∧ w.grownBy w' none

set_option maxRecDepth 100000 in
set_option maxHeartbeats 1000000 in
theorem playNextJ_any (r : List UInt8) (p : Pl) (A : Option Addr) (cA : Nat) (B : Option Addr) (cB : Nat) (G : Nat → Prop) (w : World) (hr : r.length ≤ 1099511627776) (h : PlS w G p A B) (hsm : SmallP p) :
    Calls Tryd.prog 7 #[.string ⟨r.toArray⟩, .agg #[.slice A p.ms.length cA, .slice B p.ps.length cB]] w (NextBPost w r p) := by
  have hg0 := World.grownBy_alloc w (.cells #[.slice A p.ms.length cA, .slice B p.ps.length cB] 30) none
  have hbx := Blk.new w 30 #[.slice A p.ms.length cA, .slice B p.ps.length cB]
  have h0 := h.grown0 hg0
  have hsmh := Lib.hid hsm
  clear hsm
  go_enter Tryd.func7, Tryd.ntmps7
  go_wp2_with fail
  refine (playLegal_any r p A cA B cB G _ hr h0 hsmh.out).mono ?_
  rintro e w1 ⟨rfl, hg1⟩
  have hbw := hbx.grown0 hg1
  have d0 := hbw.cell 0
  have d1 := hbw.cell 1
  simp only [List.getElem?_toArray, List.getElem?_cons_zero, List.getElem?_cons_succ] at d0 d1
  have dlt := hbw.lt
  have hg01 := gr_trans hg0 hg1
  cases hv : legOf r p with
  | false =>
    have hK := Lib.hid (show nextOk r p = false by unfold nextOk; rw [hv]; rfl)
    have hN := Lib.hid (show nextPl r p = [] by unfold nextPl; rw [hK.out]; rfl)
    clear hv
    go_wp2_with fail
    go_ret2
    exact ⟨none, 0, [], by rw [hK.out]; rfl, PDs.none_ _ _, by rw [hN.out]; rfl, List.Pairwise.nil, hg01⟩
  | true =>
    obtain ⟨t, htr, hlg, hat, h60⟩ := legOf_some hv
    by_cases he : p.ms.length = 60
    · have hK := Lib.hid (show nextOk r p = false by unfold nextOk; rw [hv, he]; rfl)
      have hN := Lib.hid (show nextPl r p = [] by unfold nextPl; rw [hK.out]; rfl)
      have he1 : ((p.ms.length : Int) == 60) = true := by rw [beq_iff_eq]; omega
      have heh := Lib.hid he
      clear hv he htr hlg
      go_wp2_with fail
      go_ret2
      exact ⟨none, 0, [], by rw [hK.out]; rfl, PDs.none_ _ _, by rw [hN.out]; rfl, List.Pairwise.nil, hg01⟩
    · have hK := Lib.hid (show nextOk r p = true by unfold nextOk; rw [hv]; simp [he])
      have hN := Lib.hid (show nextPl r p = Pl.nextL t p by unfold nextPl; rw [hK.out, htr]; rfl)
      have he1 : ((p.ms.length : Int) == 60) = false := by rw [beq_eq_false_iff_ne]; omega
      have heh := Lib.hid he
      have htrh := Lib.hid htr
      have hlgh := Lib.hid hlg
      have hRk := Lib.hid (fun (W : World) => readKind_any r W hr)
      have hkp := Lib.hid (fun (W : World) (hW : w1.grownBy W none) => show W.cell? ⟨w.heap.size, 0, none⟩ = some (.slice A p.ms.length cA) ∧ W.cell? ⟨w.heap.size, 1, none⟩ = some (.slice B p.ps.length cB) from ⟨(hbw.grown0 hW).cell 0, (hbw.grown0 hW).cell 1⟩)
      have hNx := Lib.hid (fun (q : Nat) (F : Nat → Prop) (W : World) (hW : w1.grownBy W none) (hk : KindP W F q t) => nextApart_any q t hat p hlgh.out (by have := heh.out; omega) A cA B cB F _ W hk ((h0.grown0 hg1).grown0 hW) hsmh.out)
      have hgx : w1.grownBy w1.drew none := gr_drew (gr_refl _ _)
      clear hv he htr hlg hbw
      go_wp2_with fail
      go_region_held3 (fun w' => w'.cell? ⟨w.heap.size, 0, none⟩ = some (.slice A p.ms.length cA) ∧ w'.cell? ⟨w.heap.size, 1, none⟩ = some (.slice B p.ps.length cB))
        (first | exact hkp.out _ (gr_trans hgx (gr_trans hg2 hg3)) | exact hkp.out _ (gr_trans hgx hg2) | exact hkp.out _ hgx | go_keep)
        (first
          | (go_at_call 21; refine (hRk.out _).mono ?_; rintro e w2 ⟨hg2, hm2⟩; rw [htrh.out] at hm2; obtain ⟨q, rfl, hk⟩ := hm2)
          | (go_at_call 22; refine (hNx.out _ _ _ (gr_trans hgx hg2) hk).mono ?_; rintro e w3 ⟨A', c', D, rfl, hD, hDp, hap, hg3⟩))
      all_goals (have hDph := Lib.hid hDp)
      all_goals clear hDp
      all_goals go_wp2_with fail
      all_goals go_ret2
      all_goals exact ⟨A', c', D, by rw [hK.out]; rfl, hD.weak (gr_trans hg01 (gr_trans hgx hg2)).size, by rw [hN.out, hDph.out], hap, gr_trans hg01 (gr_trans hgx (gr_trans hg2 hg3))⟩
end Go.Proofs.YtegidbdgneecmaaDoor
