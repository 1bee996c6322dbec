/- clone and with: the program's. -/
import Derived.Test.YtegidbdgneecmaaDoorPlayPart
import Derived.Test.YtegidbdgneecmaaDoorMovesL
import Derived.Test.YtegidbdgneecmaaDoorChains
import Derived.Test.YtegidbdgneecmaaDoorPlayViewS
namespace Go.Proofs.YtegidbdgneecmaaDoor
open Go.RowKit

/-- A play laid in the result's place. -/
theorem play_laid {w wr : World} {p : Pl} {A B : Option Addr} {c d : Nat} {b : Nat} (hs : wr.ownsRow w.heap.size 9 1 (.slice A p.ms.length c) p.ms.length (p.ms.map strv)) (hi : wr.ownsRow w.heap.size 3 1 (.slice B p.ps.length d) p.ps.length (p.ps.map intv)) {cs : Array Value} (hb : Blk wr b 30 cs) (hcs : cs.size = 2) (hg : w.grownBy wr none) (hbl : w.heap.size ≤ b) :
    ∀ wz : World, wz = (wr.setCell ⟨b, 0, none⟩ (.slice A p.ms.length c)).setCell ⟨b, 1, none⟩ (.slice B p.ps.length d) → PlO wz w.heap.size p A c B d ∧ w.grownBy wz none ∧ wz.cell? ⟨b, 0, none⟩ = some (.slice A p.ms.length c) ∧ wz.cell? ⟨b, 1, none⟩ = some (.slice B p.ps.length d) := by
  rintro wz rfl
  have hb1 := hb.set 0 (.slice A p.ms.length c)
  have hb2 := hb1.set 1 (.slice B p.ps.length d)
  have z0 := hb2.cell 0
  have z1 := hb2.cell 1
  simp [hcs] at z0 z1
  exact ⟨⟨own_setty (own_setty hs (p := ⟨b, 0, none⟩) hb (by decide) _) (p := ⟨b, 1, none⟩) hb1 (by decide) _, own_setty (own_setty hi (p := ⟨b, 0, none⟩) hb (by decide) _) (p := ⟨b, 1, none⟩) hb1 (by decide) _⟩, gr_set (gr_set hg (p := ⟨b, 0, none⟩) (.inr hbl) _) (p := ⟨b, 1, none⟩) (.inr hbl) _, z0, z1⟩
set_option maxRecDepth 100000 in
set_option maxHeartbeats 2000000 in
theorem clone_any (p : Pl) (A : Option Addr) (cA : Nat) (B : Option Addr) (cB : Nat) (G : Nat → Prop) (w : World) (h : PlS w G p A B) (hl : p.ms.length ≤ 1000000) (hl2 : p.ps.length ≤ 1000000) :
    Calls Tryd.prog 56 #[.agg #[.slice A p.ms.length cA, .slice B p.ps.length cB]] w fun e w' => ∃ A' cA' B' cB', e = .returned (.agg #[.slice A' p.ms.length cA', .slice B' p.ps.length cB']) ∧ PlO w' w.heap.size p A' cA' B' cB' ∧ w.grownBy w' none := by
  have hg0 := World.grownBy_alloc w (.cells #[.slice A p.ms.length cA, .slice B p.ps.length cB] 30) none
  have hg1 := gr_alloc hg0 (.cells #[.slice none 0 0, .slice none 0 0] 30)
  have hb := (Blk.new w 30 #[.slice A p.ms.length cA, .slice B p.ps.length cB]).alloc (.cells #[.slice none 0 0, .slice none 0 0] 30)
  have hr := (Blk.new (w.alloc (.cells #[.slice A p.ms.length cA, .slice B p.ps.length cB] 30)) 30 #[.slice none 0 0, .slice none 0 0])
  rw [World.size_alloc] at hr
  have hsz : ((w.alloc (.cells #[.slice A p.ms.length cA, .slice B p.ps.length cB] 30)).alloc (.cells #[.slice none 0 0, .slice none 0 0] 30)).heap.size = w.heap.size + 2 := by simp
  have eM := Lib.hid (range_sv p.ms)
  have eP := Lib.hid (range_iv p.ps)
  go_enter Tryd.func56, Tryd.ntmps56
  go_wp2_with fail
  generalize (w.alloc (.cells #[.slice A p.ms.length cA, .slice B p.ps.length cB] 30)).alloc (.cells #[.slice none 0 0, .slice none 0 0] 30) = W at *
  have hkp := Lib.hid (fun (V : World) (hV : W.grownBy V none) => show V.cell? ⟨w.heap.size, 0, none⟩ = some (.slice A p.ms.length cA) ∧ V.cell? ⟨w.heap.size, 1, none⟩ = some (.slice B p.ps.length cB) from ⟨(hb.grown0 hV).cell 0, (hb.grown0 hV).cell 1⟩)
  have hrp := Lib.hid (fun (V : World) (hV : W.grownBy V none) => show Blk V (w.heap.size + 1) 30 #[.slice none 0 0, .slice none 0 0] from hr.grown0 hV)
  have hSp := Lib.hid (fun (V : World) (hV : W.grownBy V none) => h.grown0 (gr_trans hg1 hV))
  have hgx : W.grownBy W.drew none := gr_drew (gr_refl _ _)
  have hbs := Lib.hid (fun (V : World) (hV : W.grownBy V none) => show w.heap.size ≤ V.heap.size from Nat.le_trans (by omega) hV.size)
  go_region_held3 (fun w' => w'.cell? ⟨w.heap.size, 0, none⟩ = some (.slice A p.ms.length cA) ∧ w'.cell? ⟨w.heap.size, 1, none⟩ = some (.slice B p.ps.length cB))
    (first | exact hkp.out _ (gr_trans hgx (gr_trans hgs hgi)) | exact hkp.out _ (gr_trans hgx (gr_trans hgi hgs)) | exact hkp.out _ (gr_trans hgx hgs) | exact hkp.out _ (gr_trans hgx hgi) | exact hkp.out _ hgx | go_keep)
    (first
      | (refine step_app (by rfl) _ _ 22 (by rfl) w.heap.size 9 (.string ⟨#[]⟩) 16 Tryd.underlying22 info_str rfl none 0 0 [] (by rfl) (own_nil _ _ _) _ _ _ _ (by rfl) _ (by first | exact (hSp.out _ (gr_trans hgx hgi)).1 | exact (hSp.out _ hgx).1) (fun _ _ => rfl) (by unfold maxLen; omega) (by omega) (by first | exact hbs.out _ (gr_trans hgx hgi) | exact hbs.out _ hgx) ?_; intro A' c' w5 hs hgs hat5; have qs := hrp.out w5 (by first | exact gr_trans hgx (gr_trans hgi hgs) | exact gr_trans hgx hgs); have y0 := qs.cell 0; have y1 := qs.cell 1; have f0 := qs.free 0; have f1 := qs.free 1; simp only [List.getElem?_toArray, List.getElem?_cons_zero, List.getElem?_cons_succ] at y0 y1)
      | (refine step_app (by rfl) _ _ 23 (by rfl) w.heap.size 3 (.int .i64 0) 8 Tryd.underlying23 info_int rfl none 0 0 [] (by rfl) (own_nil _ _ _) _ _ _ _ (by rfl) _ (by first | exact (hSp.out _ (gr_trans hgx hgs)).2 | exact (hSp.out _ hgx).2) (fun _ _ => rfl) (by unfold maxLen; omega) (by omega) (by first | exact hbs.out _ (gr_trans hgx hgs) | exact hbs.out _ hgx) ?_; intro B' d' w6 hi hgi hat6; have qi := hrp.out w6 (by first | exact gr_trans hgx (gr_trans hgs hgi) | exact gr_trans hgx hgi); have z0 := qi.cell 0; have z1 := qi.cell 1; have e0 := qi.free 0; have e1 := qi.free 1; simp only [List.getElem?_toArray, List.getElem?_cons_zero, List.getElem?_cons_succ] at z0 z1))
  · have hs6 := own_keep hs hgi
    simp only [Nat.zero_add, List.nil_append, eM.out, eP.out] at hs6 hi
    have hF := Lib.hid (play_laid hs6 hi qi rfl (gr_trans hg1 (gr_trans hgx (gr_trans hgs hgi))) (by omega))
    go_wp2_with fail
    obtain ⟨k1, k2, k3, k4⟩ := hF.out _ rfl
    generalize (w6.setCell ⟨w.heap.size + 1, 0, none⟩ (.slice A' p.ms.length c')).setCell ⟨w.heap.size + 1, 1, none⟩ (.slice B' p.ps.length d') = wz at k1 k2 k3 k4 ⊢
    exact bodyPost_ret (v := .agg #[.slice A' p.ms.length c', .slice B' p.ps.length d']) (by simp [results, Tryd.results56, go_sem, k3, k4]) rfl ⟨A', c', B', d', rfl, k1, k2⟩
set_option maxRecDepth 100000 in
set_option maxHeartbeats 2000000 in
theorem with_any (p : Pl) (A : Option Addr) (cA : Nat) (B : Option Addr) (cB : Nat) (G : Nat → Prop) (w : World) (h : PlS w G p A B) (hl : p.ms.length ≤ 1000000) (hl2 : p.ps.length ≤ 1000000) (m : List UInt8) (x : Int) :
    Calls Tryd.prog 46 #[.agg #[.slice A p.ms.length cA, .slice B p.ps.length cB], .string ⟨m.toArray⟩, .int .i64 x] w fun e w' => ∃ A' cA' B' cB', e = .returned (.agg #[.slice A' (p.snoc m x).ms.length cA', .slice B' (p.snoc m x).ps.length cB']) ∧ PlO w' w.heap.size (p.snoc m x) A' cA' B' cB' ∧ w.grownBy w' none := by
  have hg1 := gr_alloc (World.grownBy_alloc w (.cells #[.slice A p.ms.length cA, .slice B p.ps.length cB] 30) none) (.cells #[.slice none 0 0, .slice none 0 0] 30)
  have hr := (Blk.new (w.alloc (.cells #[.slice A p.ms.length cA, .slice B p.ps.length cB] 30)) 30 #[.slice none 0 0, .slice none 0 0])
  rw [World.size_alloc] at hr
  have e1 := Lib.hid (show (p.snoc m x).ms.map strv = p.ms.map strv ++ [strv m] by simp [Pl.snoc])
  have e2 := Lib.hid (show (p.snoc m x).ps.map intv = p.ps.map intv ++ [intv x] by simp [Pl.snoc])
  have e3 := Lib.hid (show (p.snoc m x).ms.length = p.ms.length + 1 by simp [Pl.snoc])
  have e4 := Lib.hid (show (p.snoc m x).ps.length = p.ps.length + 1 by simp [Pl.snoc])
  have hC := Lib.hid (clone_any p A cA B cB G _ (h.grown0 hg1) hl hl2)
  go_enter Tryd.func46, Tryd.ntmps46
  go_wp2_with fail
  refine hC.out.mono ?_
  rintro e w1 ⟨A', c', B', d', rfl, hO, hg2⟩
  have hsz := hg2.size
  simp only [World.size_alloc] at hsz
  have hgw := gr_trans hg1 hg2
  have hO := hO.weak (b := w.heap.size) (by simp only [World.size_alloc]; omega)
  have hgb := gr_alloc (World.grownBy_alloc w1 (.cells #[.slice A' p.ms.length c', .slice B' p.ps.length d'] 30) none) (.cells #[.string ⟨m.toArray⟩] 9)
  have hown1 := own_keep hO.1 hgb
  have hsl := sl_one (w1.alloc (.cells #[.slice A' p.ms.length c', .slice B' p.ps.length d'] 30)) 9 (.string ⟨m.toArray⟩)
  have hbase : w.heap.size ≤ ((w1.alloc (.cells #[.slice A' p.ms.length c', .slice B' p.ps.length d'] 30)).alloc (.cells #[.string ⟨m.toArray⟩] 9)).heap.size := by simp only [World.size_alloc]; omega
  rw [World.size_alloc] at hsl
  have hr1 := hr.grown0 hg2
  clear hC h hr
  go_upto_region 3 with (at_builtin; refine wpList_app rfl _ _ 22 rfl w.heap.size 9 (.string ⟨#[]⟩) 16 Tryd.underlying22 info_str rfl _ _ _ _ rfl hown1 _ 1 1 _ rfl _ hsl (fun _ _ => rfl) (by unfold maxLen; omega) (by omega) hbase ?_; intro A2 c2 w2 hown2 hg3 hat2; have hb7 := ((Blk.new w1 30 #[.slice A' p.ms.length c', .slice B' p.ps.length d']).alloc (.cells #[.string ⟨m.toArray⟩] 9)).grown hg3 (own_farT hown1 ((Blk.new w1 30 #[.slice A' p.ms.length c', .slice B' p.ps.length d']).alloc _) (by decide)); have b0 := hb7.cell 0; have b1 := hb7.cell 1; have bf := hb7.free 0; have blt := hb7.lt; simp only [List.getElem?_toArray, List.getElem?_cons_zero, List.getElem?_cons_succ] at b0 b1)
  have hi0 := own_keep hO.2 hgb
  have hi2 := own_keep2 hi0 hg3 (fun g hg _ => own_ne hi0 hown1 (by decide) hg)
  have s3 := own_setty hown2 (p := ⟨w1.heap.size, 0, none⟩) hb7 (by decide) (.slice A2 (p.ms.length + 1) c2)
  have i3 := own_setty hi2 (p := ⟨w1.heap.size, 0, none⟩) hb7 (by decide) (.slice A2 (p.ms.length + 1) c2)
  have hb8 := hb7.set 0 (.slice A2 (p.ms.length + 1) c2)
  have hg4 := gr_set (gr_x (gr_trans hgw hgb) hg3 (fun g hg => own_base hO.1 hg)) (p := ⟨w1.heap.size, 0, none⟩) (.inr (by show w.heap.size ≤ w1.heap.size; omega)) (.slice A2 (p.ms.length + 1) c2)
  have hr2 := hr1.grown0 hgb
  have hr4 := (hr2.grown hg3 (own_farT hown1 hr2 (by decide))).other (p := ⟨w1.heap.size, 0, none⟩) (by show w.heap.size + 1 ≠ w1.heap.size; omega) (.slice A2 (p.ms.length + 1) c2)
  simp only [List.setIfInBounds_toArray, List.set_cons_zero] at hb8
  clear hO hown1 hown2 hi0 hi2 hb7 b0 b1 bf blt hsl hbase hat2 hr1 hr2 hg3 hgb hgw hg2 hg1
  generalize w2.setCell ⟨w1.heap.size, 0, none⟩ (.slice A2 (p.ms.length + 1) c2) = w3 at *
  generalize w1.heap.size = b7 at *
  have hga := World.grownBy_alloc w3 (.cells #[.int .i64 x] 3) none
  have i4 := own_keep i3 hga
  have s4 := own_keep s3 hga
  have hsl := sl_one w3 3 (.int .i64 x)
  have hbase : w.heap.size ≤ (w3.alloc (.cells #[.int .i64 x] 3)).heap.size := by have := hg4.size; rw [World.size_alloc]; omega
  have hb9 := hb8.grown0 hga
  have c0 := hb8.cell 0
  have c1 := hb8.cell 1
  have clt := hb8.lt
  simp only [List.getElem?_toArray, List.getElem?_cons_zero, List.getElem?_cons_succ] at c0 c1
  go_upto_region 4 with (at_builtin; refine wpList_app rfl _ _ 23 rfl w.heap.size 3 (.int .i64 0) 8 Tryd.underlying23 info_int rfl _ _ _ _ rfl i4 _ 1 1 _ rfl _ hsl (fun _ _ => rfl) (by unfold maxLen; omega) (by omega) hbase ?_; intro B2 d2 w4 i5 hg5 hat5; have hb10 := hb9.grown hg5 (own_farT i4 hb9 (by decide)); have b0 := hb10.cell 0; have b1 := hb10.cell 1; have bf := hb10.free 1; have blt := hb10.lt; simp only [List.getElem?_toArray, List.getElem?_cons_zero, List.getElem?_cons_succ] at b0 b1)
  have s5 := own_keep2 s4 hg5 (fun g hg _ => own_ne s4 i4 (by decide) hg)
  have s6 := own_setty s5 (p := ⟨b7, 1, none⟩) hb10 (by decide) (.slice B2 (p.ps.length + 1) d2)
  have i6 := own_setty i5 (p := ⟨b7, 1, none⟩) hb10 (by decide) (.slice B2 (p.ps.length + 1) d2)
  have hb11 := hb10.set 1 (.slice B2 (p.ps.length + 1) d2)
  have hg6 := gr_set (gr_x (gr_trans hg4 hga) hg5 (fun g hg => own_base i4 hg)) (p := ⟨b7, 1, none⟩) (.inr (by show w.heap.size ≤ b7; omega)) (.slice B2 (p.ps.length + 1) d2)
  have hr5 := hr4.grown0 hga
  have hr6 := (hr5.grown hg5 (own_farT i4 hr5 (by decide))).other (p := ⟨b7, 1, none⟩) (by show w.heap.size + 1 ≠ b7; omega) (.slice B2 (p.ps.length + 1) d2)
  simp only [List.setIfInBounds_toArray, List.set_cons_zero, List.set_cons_succ] at hb11
  clear s3 s4 s5 i3 i4 i5 hb8 hb9 hb10 c0 c1 clt b0 b1 bf blt hga hr4 hr5 hg4 hg5 hat5 hsl hbase
  generalize w4.setCell ⟨b7, 1, none⟩ (.slice B2 (p.ps.length + 1) d2) = w5 at *
  have b0 := hb11.cell 0
  have b1 := hb11.cell 1
  have blt := hb11.lt
  have y0 := hr6.cell 0
  have y1 := hr6.cell 1
  have f0 := hr6.free 0
  have f1 := hr6.free 1
  simp only [List.getElem?_toArray, List.getElem?_cons_zero, List.getElem?_cons_succ] at b0 b1 y0 y1
  have hsS : w5.ownsRow w.heap.size 9 1 (.slice A2 (p.snoc m x).ms.length c2) (p.snoc m x).ms.length ((p.snoc m x).ms.map strv) := by rw [e3.out, e1.out]; exact s6
  have hiS : w5.ownsRow w.heap.size 3 1 (.slice B2 (p.snoc m x).ps.length d2) (p.snoc m x).ps.length ((p.snoc m x).ps.map intv) := by rw [e4.out, e2.out]; exact i6
  have hF := play_laid hsS hiS hr6 rfl hg6 (by omega)
  simp only [e3.out, e4.out] at hF
  have hFh := Lib.hid hF
  clear hF hsS hiS s6 i6 hb11 hr6
  go_wp2_with fail
  obtain ⟨k1, k2, k3, k4⟩ := hFh.out _ rfl
  generalize (w5.setCell ⟨w.heap.size + 1, 0, none⟩ (.slice A2 (p.ms.length + 1) c2)).setCell ⟨w.heap.size + 1, 1, none⟩ (.slice B2 (p.ps.length + 1) d2) = wz at k1 k2 k3 k4 ⊢
  exact bodyPost_ret (v := .agg #[.slice A2 (p.ms.length + 1) c2, .slice B2 (p.ps.length + 1) d2]) (by simp [results, Tryd.results46, go_sem, k3, k4]) rfl ⟨A2, c2, B2, d2, by rw [e3.out, e4.out], k1, k2⟩
end Go.Proofs.YtegidbdgneecmaaDoor
