/- What is drawn: the functions that draw a type and a play. -/
import Derived.Test.YtkjkbcfifhakkaaDoorPlayDraw2
namespace Go.Proofs.YtkjkbcfifhakkaaDoor
open Go.RowKit

theorem IsRow.grown0 {k : IntKind} {w w' : World} {a : Option Addr} {n c : Nat} {zs : List Int} (h : IsRow k w a n c zs) (hg : w.grownBy w' none) : IsRow k w' a n c zs := by
  rcases h with h | ⟨x, h1, h2, h3, h4, h5, h6⟩
  · exact .inl h
  · refine .inr ⟨x, h1, h2, h3, h4, fun i hi => ?_, h6⟩
    have := h5 i hi
    exact (World.cell?_of_block (w := w) (a := x.add i) (hg.block _ (World.block_lt_of_cell? w _ this) (by simp))).trans this
set_option maxHeartbeats 1000000 in
theorem drawPlayLegal_any (A : Option Addr) (n c : Nat) (zs : List Int) (w : World) (h : IsRow .u8 w A n c zs) :
    Calls Tryd.prog 11 #[.slice A n c] w fun e w' => ∃ r p PA cA PB cB, e = .returned (.tuple #[.string ⟨r.toArray⟩, .agg #[.slice PA p.ms.length cA, .slice PB p.ps.length cB]]) ∧ Drawn w w' r p PA cA PB cB ∧ w.grownBy w' none := by
  have hg0 := World.grownBy_alloc w (.cells #[.slice none 0 0, .slice none 0 0] 26) none
  have hb0 := Blk.new w 26 #[.slice none 0 0, .slice none 0 0]
  have h0 := h.grown0 hg0
  clear h
  go_enter Tryd.func11, Tryd.ntmps11
  go_wp2_with fail
  refine (l6Open_any A n c zs _ h0).mono ?_
  rintro e w1 ⟨q, rfl, hq, hr, hg1⟩
  have hs1 := hg1.size
  rw [World.size_alloc] at hq hs1
  go_wp2_with fail
  refine (l91Play_any q w1 hr hr.lt).mono ?_
  rintro e w2 ⟨r, p, PA, cA, PB, cB, rfl, ⟨d1, d2, d3, d4, d5, d6, d7⟩, hg2⟩
  have hg := gr_trans_new (gr_trans hg0 hg1) hg2 (by omega : w.heap.size ≤ q)
  have hb2 := (hb0.grown0 hg1).grown hg2 (by simp; omega)
  have d5' : PlS w2 (Fr (w.heap.size + 1)) p PA PB := ⟨d5.1.mono fun b hb _ => by unfold Fr at hb ⊢; omega, d5.2.mono fun b hb _ => by unfold Fr at hb ⊢; omega⟩
  have hF := drawn_stored d1 d2 d3 d4 d5' d6 d7 (gr_weak hg (some q)) hb2
  have hFh := Lib.hid hF
  have hgh := Lib.hid hg
  have y0 := hb2.cell 0
  have y1 := hb2.cell 1
  have f0 := hb2.free 0
  have f1 := hb2.free 1
  simp only [List.getElem?_toArray, List.getElem?_cons_zero, List.getElem?_cons_succ] at y0 y1
  clear hF d1 d2 d3 d4 d5 d5' d6 d7 hg hb2 hg2 hg1 hr h0 hb0 hg0
  go_wp2_with fail
  obtain ⟨z1, z2, z3, z4⟩ := hFh.out _ rfl
  have hgz := gr_set (gr_set hgh.out (p := ⟨w.heap.size, 0, none⟩) (.inr (Nat.le_refl _)) (.slice PA p.ms.length cA)) (p := ⟨w.heap.size, 1, none⟩) (.inr (Nat.le_refl _)) (.slice PB p.ps.length cB)
  generalize ((w2.setCell ⟨w.heap.size, 0, none⟩ (.slice PA p.ms.length cA)).setCell ⟨w.heap.size, 1, none⟩ (.slice PB p.ps.length cB)) = wz at z1 z2 z3 z4 hgz ⊢
  exact bodyPost_ret (v := .tuple #[.string ⟨r.toArray⟩, .agg #[.slice PA p.ms.length cA, .slice PB p.ps.length cB]]) (by simp [results, Tryd.results11, go_sem, z3, z4]) rfl ⟨r, p, PA, cA, PB, cB, rfl, z1, hgz⟩
set_option maxHeartbeats 1000000 in
theorem drawPlayNext_any (A : Option Addr) (n c : Nat) (zs : List Int) (w : World) (h : IsRow .u8 w A n c zs) :
    Calls Tryd.prog 18 #[.slice A n c] w fun e w' => ∃ r p PA cA PB cB, e = .returned (.tuple #[.string ⟨r.toArray⟩, .agg #[.slice PA p.ms.length cA, .slice PB p.ps.length cB]]) ∧ Drawn w w' r p PA cA PB cB ∧ w.grownBy w' none := by
  have hg0 := World.grownBy_alloc w (.cells #[.slice none 0 0, .slice none 0 0] 26) none
  have hb0 := Blk.new w 26 #[.slice none 0 0, .slice none 0 0]
  have h0 := h.grown0 hg0
  clear h
  go_enter Tryd.func18, Tryd.ntmps18
  go_wp2_with fail
  refine (l6Open_any A n c zs _ h0).mono ?_
  rintro e w1 ⟨q, rfl, hq, hr, hg1⟩
  have hs1 := hg1.size
  rw [World.size_alloc] at hq hs1
  go_wp2_with fail
  refine (l91Play_any q w1 hr hr.lt).mono ?_
  rintro e w2 ⟨r, p, PA, cA, PB, cB, rfl, ⟨d1, d2, d3, d4, d5, d6, d7⟩, hg2⟩
  have hg := gr_trans_new (gr_trans hg0 hg1) hg2 (by omega : w.heap.size ≤ q)
  have hb2 := (hb0.grown0 hg1).grown hg2 (by simp; omega)
  have d5' : PlS w2 (Fr (w.heap.size + 1)) p PA PB := ⟨d5.1.mono fun b hb _ => by unfold Fr at hb ⊢; omega, d5.2.mono fun b hb _ => by unfold Fr at hb ⊢; omega⟩
  have hF := drawn_stored d1 d2 d3 d4 d5' d6 d7 (gr_weak hg (some q)) hb2
  have hFh := Lib.hid hF
  have hgh := Lib.hid hg
  have y0 := hb2.cell 0
  have y1 := hb2.cell 1
  have f0 := hb2.free 0
  have f1 := hb2.free 1
  simp only [List.getElem?_toArray, List.getElem?_cons_zero, List.getElem?_cons_succ] at y0 y1
  clear hF d1 d2 d3 d4 d5 d5' d6 d7 hg hb2 hg2 hg1 hr h0 hb0 hg0
  go_wp2_with fail
  obtain ⟨z1, z2, z3, z4⟩ := hFh.out _ rfl
  have hgz := gr_set (gr_set hgh.out (p := ⟨w.heap.size, 0, none⟩) (.inr (Nat.le_refl _)) (.slice PA p.ms.length cA)) (p := ⟨w.heap.size, 1, none⟩) (.inr (Nat.le_refl _)) (.slice PB p.ps.length cB)
  generalize ((w2.setCell ⟨w.heap.size, 0, none⟩ (.slice PA p.ms.length cA)).setCell ⟨w.heap.size, 1, none⟩ (.slice PB p.ps.length cB)) = wz at z1 z2 z3 z4 hgz ⊢
  exact bodyPost_ret (v := .tuple #[.string ⟨r.toArray⟩, .agg #[.slice PA p.ms.length cA, .slice PB p.ps.length cB]]) (by simp [results, Tryd.results18, go_sem, z3, z4]) rfl ⟨r, p, PA, cA, PB, cB, rfl, z1, hgz⟩
set_option maxHeartbeats 1000000 in
theorem drawPlayText_any (A : Option Addr) (n c : Nat) (zs : List Int) (w : World) (h : IsRow .u8 w A n c zs) :
    Calls Tryd.prog 6 #[.slice A n c] w fun e w' => ∃ r p PA cA PB cB, e = .returned (.tuple #[.string ⟨r.toArray⟩, .agg #[.slice PA p.ms.length cA, .slice PB p.ps.length cB]]) ∧ Drawn w w' r p PA cA PB cB ∧ w.grownBy w' none := by
  have hg0 := World.grownBy_alloc w (.cells #[.slice none 0 0, .slice none 0 0] 26) none
  have hb0 := Blk.new w 26 #[.slice none 0 0, .slice none 0 0]
  have h0 := h.grown0 hg0
  clear h
  go_enter Tryd.func6, Tryd.ntmps6
  go_wp2_with fail
  refine (l6Open_any A n c zs _ h0).mono ?_
  rintro e w1 ⟨q, rfl, hq, hr, hg1⟩
  have hs1 := hg1.size
  rw [World.size_alloc] at hq hs1
  go_wp2_with fail
  refine (l91Play_any q w1 hr hr.lt).mono ?_
  rintro e w2 ⟨r, p, PA, cA, PB, cB, rfl, ⟨d1, d2, d3, d4, d5, d6, d7⟩, hg2⟩
  have hg := gr_trans_new (gr_trans hg0 hg1) hg2 (by omega : w.heap.size ≤ q)
  have hb2 := (hb0.grown0 hg1).grown hg2 (by simp; omega)
  have d5' : PlS w2 (Fr (w.heap.size + 1)) p PA PB := ⟨d5.1.mono fun b hb _ => by unfold Fr at hb ⊢; omega, d5.2.mono fun b hb _ => by unfold Fr at hb ⊢; omega⟩
  have hF := drawn_stored d1 d2 d3 d4 d5' d6 d7 (gr_weak hg (some q)) hb2
  have hFh := Lib.hid hF
  have hgh := Lib.hid hg
  have y0 := hb2.cell 0
  have y1 := hb2.cell 1
  have f0 := hb2.free 0
  have f1 := hb2.free 1
  simp only [List.getElem?_toArray, List.getElem?_cons_zero, List.getElem?_cons_succ] at y0 y1
  clear hF d1 d2 d3 d4 d5 d5' d6 d7 hg hb2 hg2 hg1 hr h0 hb0 hg0
  go_wp2_with fail
  obtain ⟨z1, z2, z3, z4⟩ := hFh.out _ rfl
  have hgz := gr_set (gr_set hgh.out (p := ⟨w.heap.size, 0, none⟩) (.inr (Nat.le_refl _)) (.slice PA p.ms.length cA)) (p := ⟨w.heap.size, 1, none⟩) (.inr (Nat.le_refl _)) (.slice PB p.ps.length cB)
  generalize ((w2.setCell ⟨w.heap.size, 0, none⟩ (.slice PA p.ms.length cA)).setCell ⟨w.heap.size, 1, none⟩ (.slice PB p.ps.length cB)) = wz at z1 z2 z3 z4 hgz ⊢
  exact bodyPost_ret (v := .tuple #[.string ⟨r.toArray⟩, .agg #[.slice PA p.ms.length cA, .slice PB p.ps.length cB]]) (by simp [results, Tryd.results6, go_sem, z3, z4]) rfl ⟨r, p, PA, cA, PB, cB, rfl, z1, hgz⟩
end Go.Proofs.YtkjkbcfifhakkaaDoor
