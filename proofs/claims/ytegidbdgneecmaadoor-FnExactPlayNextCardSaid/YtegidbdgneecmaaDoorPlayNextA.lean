/- PlayNext: both sides. -/
import Derived.Test.YtegidbdgneecmaaDoorPlayNextI
namespace Go.Proofs.YtegidbdgneecmaaDoor
open Go.RowKit

def nextOk (r : List UInt8) (p : Pl) : Bool := legOf r p && !(p.ms.length == 60)
def nextPl (r : List UInt8) (p : Pl) : List Pl := if nextOk r p then (match Ty.read r with | some t => Pl.nextL t p | none => []) else []
theorem legOf_some {r : List UInt8} {p : Pl} (h : legOf r p = true) : ∃ t, Ty.read r = some t ∧ p.legal t = true ∧ t.atoms ≤ 15 ∧ p.ms.length ≤ 60 := by
  unfold legOf at h
  rw [Bool.and_eq_true] at h
  obtain ⟨t, h1, h2, h3⟩ := playOf_some h.1
  refine ⟨t, h1, ?_, h3, (Pl.ok_iff.1 h2).1⟩
  unfold Pl.legal
  rw [h2, Bool.true_and]
  exact h.2
/-- What both PlayNext give. -/
def NextAPost (w : World) (r : List UInt8) (p : Pl) (e : Ending) (w' : World) : Prop :=
  ∃ A' c' D, e = .returned (.tuple #[.slice A' D.length c', .bool (nextOk r p)]) ∧ PDs w' w.heap.size (.slice A' D.length c') D ∧ D.map PD.p = nextPl r p ∧ w.grownBy w' none
theorem PDs.none_ (w : World) (base : Nat) : PDs w base (.slice none 0 0) [] := ⟨⟨rfl, .inl ⟨rfl, rfl⟩⟩, fun _ h => by cases h⟩

set_option maxRecDepth 100000 in
set_option maxHeartbeats 1000000 in
theorem playNext_any (r : List UInt8) (p : Pl) (A : Option Addr) (cA : Nat) (B : Option Addr) (cB : Nat) (G : Nat → Prop) (w : World) (hr : r.length ≤ 1099511627776) (h : PlS w G p A B) (hsm : SmallP p) :
    Calls Tryd.prog 7 #[.string ⟨r.toArray⟩, .agg #[.slice A p.ms.length cA, .slice B p.ps.length cB]] w (NextAPost w r p) := by
  have hg0 := World.grownBy_alloc w (.cells #[.slice A p.ms.length cA, .slice B p.ps.length cB] 30) none
  have hbx := Blk.new w 30 #[.slice A p.ms.length cA, .slice B p.ps.length cB]
  have h0 := h.grown0 hg0
  have hsmh := Lib.hid hsm
  clear hsm
  go_enter Tryd.func7, Tryd.ntmps7
  go_wp2_with fail
  refine (playLegal_any r p A cA B cB G _ hr h0 hsmh.out).mono ?_
  rintro e w1 ⟨rfl, hg1⟩
  have hbw := hbx.grown0 hg1
  have d0 := hbw.cell 0
  have d1 := hbw.cell 1
  simp only [List.getElem?_toArray, List.getElem?_cons_zero, List.getElem?_cons_succ] at d0 d1
  have dlt := hbw.lt
  have hg01 := gr_trans hg0 hg1
  cases hv : legOf r p with
  | false =>
    have hK := Lib.hid (show nextOk r p = false by unfold nextOk; rw [hv]; rfl)
    have hN := Lib.hid (show nextPl r p = [] by unfold nextPl; rw [hK.out]; rfl)
    clear hv
    go_wp2_with fail
    go_ret2
    exact ⟨none, 0, [], by rw [hK.out]; rfl, PDs.none_ _ _, by rw [hN.out]; rfl, hg01⟩
  | true =>
    obtain ⟨t, htr, hlg, hat, h60⟩ := legOf_some hv
    by_cases he : p.ms.length = 60
    · have hK := Lib.hid (show nextOk r p = false by unfold nextOk; rw [hv, he]; rfl)
      have hN := Lib.hid (show nextPl r p = [] by unfold nextPl; rw [hK.out]; rfl)
      have he1 : ((p.ms.length : Int) == 60) = true := by rw [beq_iff_eq]; omega
      have heh := Lib.hid he
      clear hv he htr hlg
      go_wp2_with fail
      go_ret2
      exact ⟨none, 0, [], by rw [hK.out]; rfl, PDs.none_ _ _, by rw [hN.out]; rfl, hg01⟩
    · have hK := Lib.hid (show nextOk r p = true by unfold nextOk; rw [hv]; simp [he])
      have hN := Lib.hid (show nextPl r p = Pl.nextL t p by unfold nextPl; rw [hK.out, htr]; rfl)
      have he1 : ((p.ms.length : Int) == 60) = false := by rw [beq_eq_false_iff_ne]; omega
      have heh := Lib.hid he
      have htrh := Lib.hid htr
      have hlgh := Lib.hid hlg
      have hRk := Lib.hid (fun (W : World) => readKind_any r W hr)
      have hkp := Lib.hid (fun (W : World) (hW : w1.grownBy W none) => show W.cell? ⟨w.heap.size, 0, none⟩ = some (.slice A p.ms.length cA) ∧ W.cell? ⟨w.heap.size, 1, none⟩ = some (.slice B p.ps.length cB) from ⟨(hbw.grown0 hW).cell 0, (hbw.grown0 hW).cell 1⟩)
      have hNx := Lib.hid (fun (q : Nat) (F : Nat → Prop) (W : World) (hW : w1.grownBy W none) (hk : KindP W F q t) => next_any q t hat p hlgh.out (by have := heh.out; omega) A cA B cB F _ W hk ((h0.grown0 hg1).grown0 hW) hsmh.out)
      have hgx : w1.grownBy w1.drew none := gr_drew (gr_refl _ _)
      clear hv he htr hlg hbw
      go_wp2_with fail
      go_region_held3 (fun w' => w'.cell? ⟨w.heap.size, 0, none⟩ = some (.slice A p.ms.length cA) ∧ w'.cell? ⟨w.heap.size, 1, none⟩ = some (.slice B p.ps.length cB))
        (first | exact hkp.out _ (gr_trans hgx (gr_trans hg2 hg3)) | exact hkp.out _ (gr_trans hgx hg2) | exact hkp.out _ hgx | go_keep)
        (first
          | (go_at_call 21; refine (hRk.out _).mono ?_; rintro e w2 ⟨hg2, hm2⟩; rw [htrh.out] at hm2; obtain ⟨q, rfl, hk⟩ := hm2)
          | (go_at_call 22; refine (hNx.out _ _ _ (gr_trans hgx hg2) hk).mono ?_; rintro e w3 ⟨A', c', D, rfl, hD, hDp, hg3⟩))
      all_goals (have hDph := Lib.hid hDp)
      all_goals clear hDp
      all_goals go_wp2_with fail
      all_goals go_ret2
      all_goals exact ⟨A', c', D, by rw [hK.out]; rfl, hD.weak (gr_trans hg01 (gr_trans hgx hg2)).size, by rw [hN.out, hDph.out], gr_trans hg01 (gr_trans hgx (gr_trans hg2 hg3))⟩
set_option maxRecDepth 100000 in
set_option maxHeartbeats 1000000 in
theorem sPlayNext_any (r : List UInt8) (p : Pl) (A : Option Addr) (cA : Nat) (B : Option Addr) (cB : Nat) (G : Nat → Prop) (w : World) (hr : r.length ≤ 1099511627776) (h : PlS w G p A B) (hsm : SmallP p) :
    Calls Tryd.prog 5 #[.string ⟨r.toArray⟩, .agg #[.slice A p.ms.length cA, .slice B p.ps.length cB]] w (NextAPost w r p) := by
  have hg0 := World.grownBy_alloc w (.cells #[.slice A p.ms.length cA, .slice B p.ps.length cB] 30) none
  have hbx := Blk.new w 30 #[.slice A p.ms.length cA, .slice B p.ps.length cB]
  have h0 := h.grown0 hg0
  have hsmh := Lib.hid hsm
  clear hsm
  go_enter Tryd.func5, Tryd.ntmps5
  go_wp2_with fail
  refine (l1Type_any r _ hr).mono ?_
  rintro e w1 ⟨hg1, hm1⟩
  have hg01 := gr_trans hg0 hg1
  cases hrd : Ty.read r with
  | none =>
    rw [hrd] at hm1
    obtain ⟨t, A1, c1, rfl, ht⟩ := hm1
    have hK := Lib.hid (show nextOk r p = false by unfold nextOk legOf playOf; rw [hrd]; rfl)
    have hN := Lib.hid (show nextPl r p = [] by unfold nextPl; rw [hK.out]; rfl)
    clear hrd
    go_wp2_with fail
    go_ret2
    have hga := gr_alloc hg01 (.cells #[.slice A1 t.args.length c1] 41)
    have hE := PDs.nil (w := w1.alloc (.cells #[.slice A1 t.args.length c1] 41)) (base := w.heap.size) hga.size
    rw [World.size_alloc] at hE
    exact ⟨_, 0, [], by rw [hK.out]; rfl, hE, by rw [hN.out]; rfl, gr_alloc hga _⟩
  | some t =>
    have hat := (Ty.read_some hrd).2
    rw [hrd] at hm1
    obtain ⟨T, c0, rfl, hk⟩ := hm1
    have hgt := World.grownBy_alloc w1 (.cells #[.slice T t.args.length c0] 41) none
    have hbt := Blk.new w1 41 #[.slice T t.args.length c0]
    have hbw := (hbx.grown0 hg1).grown0 hgt
    have d0 := hbw.cell 0
    have d1 := hbw.cell 1
    simp only [List.getElem?_toArray, List.getElem?_cons_zero, List.getElem?_cons_succ] at d0 d1
    have dlt := hbw.lt
    have c0' := (hbx.grown0 hg1).cell 0
    have c1' := (hbx.grown0 hg1).cell 1
    have clt := (hbx.grown0 hg1).lt
    simp only [List.getElem?_toArray, List.getElem?_cons_zero, List.getElem?_cons_succ] at c0' c1'
    have hg02 := gr_trans hg01 hgt
    have hL := Lib.hid (sPlayLegal_any r p A cA B cB G _ hr ((h0.grown0 hg1).grown0 hgt) hsmh.out)
    have hrdh := Lib.hid hrd
    clear hrd
    go_wp2_with fail
    refine hL.out.mono ?_
    rintro e w2 ⟨rfl, hg2⟩
    have hg03 := gr_trans hg02 hg2
    have hbw2 := hbw.grown0 hg2
    have e0 := hbw2.cell 0
    have e1 := hbw2.cell 1
    have elt := hbw2.lt
    have hbt2 := hbt.grown0 hg2
    have t0 := hbt2.cell 0
    have tlt := hbt2.lt
    simp only [List.getElem?_toArray, List.getElem?_cons_zero, List.getElem?_cons_succ] at e0 e1 t0
    clear d0 d1 dlt c0' c1' clt
    cases hv : legOf r p with
    | false =>
      have hK := Lib.hid (show nextOk r p = false by unfold nextOk; rw [hv]; rfl)
      have hN := Lib.hid (show nextPl r p = [] by unfold nextPl; rw [hK.out]; rfl)
      clear hv
      go_wp2_with fail
      go_ret2
      have hE := PDs.nil (w := w2) (base := w.heap.size) hg03.size
      exact ⟨_, 0, [], by rw [hK.out]; rfl, hE, by rw [hN.out]; rfl, gr_alloc hg03 _⟩
    | true =>
      obtain ⟨t', htr, hlg, _, h60⟩ := legOf_some hv
      rw [hrdh.out] at htr
      cases htr
      by_cases he : p.ms.length = 60
      · have hK := Lib.hid (show nextOk r p = false by unfold nextOk; rw [hv, he]; rfl)
        have hN := Lib.hid (show nextPl r p = [] by unfold nextPl; rw [hK.out]; rfl)
        have he1 : (60 : Int) ≤ (p.ms.length : Int) := by omega
        have heh := Lib.hid he
        clear hv he hlg
        go_wp2_with fail
        go_ret2
        have hE := PDs.nil (w := w2) (base := w.heap.size) hg03.size
        exact ⟨_, 0, [], by rw [hK.out]; rfl, hE, by rw [hN.out]; rfl, gr_alloc hg03 _⟩
      · have hK := Lib.hid (show nextOk r p = true by unfold nextOk; rw [hv]; simp [he])
        have hN := Lib.hid (show nextPl r p = Pl.nextL t p by unfold nextPl; rw [hK.out, hrdh.out]; rfl)
        have he1 : ¬ (60 : Int) ≤ (p.ms.length : Int) := by omega
        have hNx := Lib.hid (l2Next_any t hat T c0 p hlg (by omega) A cA B cB _ _ w2 ((hk.grown0 hgt).grown0 hg2) (((h0.grown0 hg1).grown0 hgt).grown0 hg2) hsmh.out)
        have heh := Lib.hid he
        clear hv he hlg
        go_wp2_with fail
        refine hNx.out.mono ?_
        rintro e w3 ⟨A', c', D, rfl, hD, hDp, hg3⟩
        have hDph := Lib.hid hDp
        clear hDp
        go_wp2_with fail
        go_ret2
        exact ⟨A', c', D, by rw [hK.out]; rfl, hD.weak hg03.size, by rw [hN.out, hDph.out], gr_trans hg03 hg3⟩
end Go.Proofs.YtegidbdgneecmaaDoor
