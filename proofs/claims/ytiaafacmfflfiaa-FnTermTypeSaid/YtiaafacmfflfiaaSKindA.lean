/- The reference's types of terms: applications. -/
import Derived.Test.YtiaafacmfflfiaaSKindB
namespace Go.Proofs.Ytiaafacmfflfiaa
open Go.RowKit

set_option maxRecDepth 100000 in
set_option maxHeartbeats 4000000 in
theorem kind_app (m n : Tm) (ihm : KIH m) (ihn : KIH n) : KIH (.app m n) := by
  intro E An At A cn ct c F w hF hE hok hnm hsz hwf hsm hx
  have hp1 := hx.part (i := 1) (u := m.sx) rfl
  obtain ⟨g, o, A1, c1, rfl, x1, y1, hx1⟩ := hp1
  have hp2 := hx.part (i := 2) (u := n.sx) rfl
  obtain ⟨g', o', A2, c2, e', x2, y2, hx2⟩ := hp2
  cases e'
  have hln : (Tm.app m n).sx.parts.length = 3 := rfl
  have hat : (Tm.app m n).sx.atom = [] := rfl
  rw [hln, hat]
  have hHd := Lib.hid (fun W (hW : w.grownBy W none) => l5Head_any (Tm.app m n).sx _ c Al W (hx.grown0 hW) (by rw [hln]; omega))
  rw [hln] at hHd
  simp only [Tm.wf, Bool.and_eq_true] at hwf
  simp only [Tm.small, Bool.and_eq_true] at hsm
  simp only [Tm.atoms] at hsz
  have hhd : hdOf (Tm.app m n).sx = appW := rfl
  rw [hhd] at hHd
  have hg0 := gr_alloc (gr_alloc (World.grownBy_alloc w (.cells #[.slice An E.length cn, .slice At E.length ct] 70) none) (.cells #[.string ⟨#[]⟩, .slice (some ⟨g, o, none⟩) 3 c] 37)) (.cells #[.slice none 0 0] 43)
  have hb := ((Blk.new w 70 #[.slice An E.length cn, .slice At E.length ct]).alloc (.cells #[.string ⟨#[]⟩, .slice (some ⟨g, o, none⟩) 3 c] 37)).alloc (.cells #[.slice none 0 0] 43)
  have hc := (Blk.new (w.alloc (.cells #[.slice An E.length cn, .slice At E.length ct] 70)) 37 #[.string ⟨#[]⟩, .slice (some ⟨g, o, none⟩) 3 c]).alloc (.cells #[.slice none 0 0] 43)
  have hr := Blk.new ((w.alloc (.cells #[.slice An E.length cn, .slice At E.length ct] 70)).alloc (.cells #[.string ⟨#[]⟩, .slice (some ⟨g, o, none⟩) 3 c] 37)) 43 #[.slice none 0 0]
  rw [World.size_alloc] at hc
  rw [World.size_alloc, World.size_alloc] at hr
  have hbk := Lib.hid (fun (W : World) (hW : (((w.alloc (.cells #[.slice An E.length cn, .slice At E.length ct] 70)).alloc (.cells #[.string ⟨#[]⟩, .slice (some ⟨g, o, none⟩) 3 c] 37)).alloc (.cells #[.slice none 0 0] 43)).grownBy W none) =>
    (⟨⟨(hb.grown0 hW).cell 0, (hb.grown0 hW).cell 1, (hb.grown0 hW).lt, (hc.grown0 hW).cell 0, (hc.grown0 hW).cell 1, (hc.grown0 hW).lt, (hr.grown0 hW).cell 0, (hr.grown0 hW).free 0, (hr.grown0 hW).lt⟩, cell_grown x1 (gr_trans hg0 hW), cell_grown y1 (gr_trans hg0 hW), cell_grown x2 (gr_trans hg0 hW), cell_grown y2 (gr_trans hg0 hW)⟩ :
      (W.cell? ⟨w.heap.size, 0, none⟩ = some (.slice An E.length cn) ∧ W.cell? ⟨w.heap.size, 1, none⟩ = some (.slice At E.length ct) ∧ w.heap.size < W.heap.size ∧ W.cell? ⟨w.heap.size + 1, 0, none⟩ = some (.string ⟨#[]⟩) ∧ W.cell? ⟨w.heap.size + 1, 1, none⟩ = some (.slice (some ⟨g, o, none⟩) 3 c) ∧ w.heap.size + 1 < W.heap.size ∧
      W.cell? ⟨w.heap.size + 1 + 1, 0, none⟩ = some (.slice none 0 0) ∧ W.frozen? ⟨w.heap.size + 1 + 1, 0, none⟩ = false ∧ w.heap.size + 1 + 1 < W.heap.size) ∧
      W.cell? ⟨g, o + 2 * 1, none⟩ = some (.string ⟨m.sx.atom.toArray⟩) ∧ W.cell? ⟨g, o + 2 * 1 + 1, none⟩ = some (.slice A1 m.sx.parts.length c1) ∧ W.cell? ⟨g, o + 2 * 2, none⟩ = some (.string ⟨n.sx.atom.toArray⟩) ∧ W.cell? ⟨g, o + 2 * 2 + 1, none⟩ = some (.slice A2 n.sx.parts.length c2)))
  have hg0h := Lib.hid hg0
  have hI1 := Lib.hid (fun W (hW : (((w.alloc (.cells #[.slice An E.length cn, .slice At E.length ct] 70)).alloc (.cells #[.string ⟨#[]⟩, .slice (some ⟨g, o, none⟩) 3 c] 37)).alloc (.cells #[.slice none 0 0] 43)).grownBy W none) y (hy : w.heap.size ≤ y) (hyl : y < W.heap.size) => ihm E An At A1 cn ct c1 (fun b => (F b ∧ b ≠ w.heap.size + 1 + 1) ∧ b ≠ y) W (fun b hb' => ⟨⟨hF b (by have := (gr_trans hg0 hW).size; omega), by have := (hr.grown0 hW).lt; omega⟩, by omega⟩) (((hE.apart (w.heap.size + 1 + 1) (by omega)).apart y hy).grown0 (gr_trans hg0 hW)) hok hnm (by omega) hwf.1 hsm.1 (hx1.grown0 (gr_trans hg0 hW)))
  have hI2 := Lib.hid (fun W (hW : (((w.alloc (.cells #[.slice An E.length cn, .slice At E.length ct] 70)).alloc (.cells #[.string ⟨#[]⟩, .slice (some ⟨g, o, none⟩) 3 c] 37)).alloc (.cells #[.slice none 0 0] 43)).grownBy W none) y (hy : w.heap.size ≤ y) (hyl : y < W.heap.size) => ihn E An At A2 cn ct c2 (fun b => (F b ∧ b ≠ w.heap.size + 1 + 1) ∧ b ≠ y) W (fun b hb' => ⟨⟨hF b (by have := (gr_trans hg0 hW).size; omega), by have := (hr.grown0 hW).lt; omega⟩, by omega⟩) (((hE.apart (w.heap.size + 1 + 1) (by omega)).apart y hy).grown0 (gr_trans hg0 hW)) hok hnm (by omega) hwf.2 hsm.2 (hx2.grown0 (gr_trans hg0 hW)))
  have hrf := gr_refl (((w.alloc (.cells #[.slice An E.length cn, .slice At E.length ct] 70)).alloc (.cells #[.string ⟨#[]⟩, .slice (some ⟨g, o, none⟩) 3 c] 37)).alloc (.cells #[.slice none 0 0] 43)) none
  obtain ⟨⟨z0, z1, zl, zx, zp, zl2, zr, zf, zl3⟩, _⟩ := hbk.out _ hrf
  have hH0 := Lib.hid (hHd.out _ hg0)
  have hkp := Lib.hid (fun W hW => And.intro (hbk.out W hW).1.1 (And.intro (hbk.out W hW).1.2.1 (hbk.out W hW).2))
  clear x1 y1 hx1 x2 y2 hx2 hx hb hc hr hE ihm ihn hg0 hHd hat hhd
  go_enter Try.func32, Try.ntmps32
  go_wp2_with fail
  refine hH0.out.mono ?_
  rintro e w1 ⟨rfl, hg1⟩
  clear z0 z1 zl zx zp zl2 zr zf zl3
  obtain ⟨⟨z0, z1, zl, zx, zp, zl2, zr, zf, zl3⟩, _⟩ := hbk.out _ hg1
  go_wp2_with fail
  clear z0 z1 zl zx zp zl2 zr zf zl3
  have hAL : (((w.alloc (.cells #[.slice An E.length cn, .slice At E.length ct] 70)).alloc (.cells #[.string ⟨#[]⟩, .slice (some ⟨g, o, none⟩) 3 c] 37)).alloc (.cells #[.slice none 0 0] 43)).heap.size = w.heap.size + 3 := by simp
  generalize hALg : ((w.alloc (.cells #[.slice An E.length cn, .slice At E.length ct] 70)).alloc (.cells #[.string ⟨#[]⟩, .slice (some ⟨g, o, none⟩) 3 c] 37)).alloc (.cells #[.slice none 0 0] 43) = WW at *
  clear hALg
  apply mergeC (fun bq wq u A c => WW.grownBy wq none ∧ w1.grownBy wq none ∧ Blk wq bq 43 #[.slice A (Ty.args u).length c] ∧ TreeV wq (fun b => F b ∧ b ≠ w.heap.size + 1 + 1) (.slice A (Ty.args u).length c) u ∧ WW.heap.size ≤ bq ∧ u.args.length ≤ 15 + m.atoms ∧ ∀ k, m.ty E = some k → u = k)
  · intro cont
    have hgd := gr_drew hg1
    have hszp := (gr_trans hg0h.out hg1).size
    have hrl := (hbk.out _ hg1).1.2.2.2.2.2.2.2.2
    go_region_held3 (fun W => W.cell? ⟨w.heap.size, 0, none⟩ = some (.slice An E.length cn) ∧ W.cell? ⟨w.heap.size, 1, none⟩ = some (.slice At E.length ct) ∧ W.cell? ⟨g, o + 2 * 1, none⟩ = some (.string ⟨m.sx.atom.toArray⟩) ∧ W.cell? ⟨g, o + 2 * 1 + 1, none⟩ = some (.slice A1 m.sx.parts.length c1) ∧ W.cell? ⟨g, o + 2 * 2, none⟩ = some (.string ⟨n.sx.atom.toArray⟩) ∧ W.cell? ⟨g, o + 2 * 2 + 1, none⟩ = some (.slice A2 n.sx.parts.length c2))
      (first | exact hkp.out _ hgd | exact hkp.out _ (gr_alloc hgd _) | exact hkp.out _ (gr_trans hgd hg2) | exact hkp.out _ (gr_trans (gr_alloc hgd _) hg2) | exact hkp.out _ (gr_alloc (gr_trans hgd hg2) _) | exact hkp.out _ (gr_set (gr_trans (gr_alloc hgd _) hg2) (.inr hg1.size) _) | exact hkp.out _ (gr_set (gr_alloc (gr_trans hgd hg2) _) (.inr (gr_trans hgd hg2).size) _))
      (first
        | (go_at_call 32; refine (hI1.out _ hgd (w.heap.size + 1 + 1) (by omega) hrl).mono ?_; rintro e w2 ⟨u1, ⟨hg2, Aq1, cq1, rfl, htm⟩, hl1, he1⟩)
        | (go_at_call 32; refine (hI1.out _ (gr_alloc hgd _) w1.heap.size hszp (by rw [World.size_alloc]; exact Nat.lt_succ_self _)).mono ?_; rintro e w2 ⟨u1, ⟨hg2, Aq1, cq1, rfl, htm⟩, hl1, he1⟩; have hbx : Blk w2 w1.heap.size 43 #[.slice none 0 0] := (Blk.new w1.drew 43 #[.slice none 0 0]).grown0 hg2; have b0 := hbx.cell 0; have b1 := hbx.free 0; have b2 := hbx.lt; simp only [List.getElem?_toArray, List.getElem?_cons_zero] at b0))
    all_goals first
      | (have hgq := gr_set (gr_trans (gr_alloc hgd _) hg2) (p := ⟨w1.heap.size, 0, none⟩) (.inr hg1.size) (.slice Aq1 (Ty.args u1).length cq1)
         have hgs := gr_set (gr_trans (gr_alloc (gr_drew (gr_refl w1 none)) _) hg2) (p := ⟨w1.heap.size, 0, none⟩) (.inr (Nat.le_refl _)) (.slice Aq1 (Ty.args u1).length cq1)
         have hbq : Blk (w2.setCell ⟨w1.heap.size, 0, none⟩ (.slice Aq1 (Ty.args u1).length cq1)) w1.heap.size 43 #[.slice Aq1 (Ty.args u1).length cq1] := by simpa using hbx.set 0 (.slice Aq1 (Ty.args u1).length cq1)
         have htq := TreeV.apart (i := 0) htm (.slice Aq1 (Ty.args u1).length cq1)
         have hle := hg1.size
         clear b0 b1 b2 hbx
         generalize w2.setCell ⟨w1.heap.size, 0, none⟩ (.slice Aq1 (Ty.args u1).length cq1) = wq at *
         generalize w1.heap.size = bq at *
         exact cont bq wq u1 Aq1 cq1 ⟨hgq, hgs, hbq, htq, hle, hl1, he1⟩)
      | (have hgq := gr_alloc (gr_trans hgd hg2) (.cells #[.slice Aq1 (Ty.args u1).length cq1] 43)
         have hgs := gr_alloc (gr_trans (gr_drew (gr_refl w1 none)) hg2) (.cells #[.slice Aq1 (Ty.args u1).length cq1] 43)
         have hbq := Blk.new w2 43 #[.slice Aq1 (Ty.args u1).length cq1]
         have htq := (htm.mono (fun _ hb _ => hb.1)).grown0 (World.grownBy_alloc w2 (.cells #[.slice Aq1 (Ty.args u1).length cq1] 43) none)
         have hle := (gr_trans hgd hg2).size
         generalize w2.alloc (.cells #[.slice Aq1 (Ty.args u1).length cq1] 43) = wq at *
         generalize w2.heap.size = bq at *
         exact cont bq wq u1 Aq1 cq1 ⟨hgq, hgs, hbq, htq, hle, hl1, he1⟩)
  rintro bq1 wq1 u1 Aq1 cq1 ⟨hgq1, hgs1, hbq1, htq1, hbn1, hl1, he1⟩
  go_wp2_with fail
  apply mergeC (fun bq wq u A c => WW.grownBy wq none ∧ wq1.grownBy wq none ∧ Blk wq bq 43 #[.slice A (Ty.args u).length c] ∧ TreeV wq (fun b => F b ∧ b ≠ w.heap.size + 1 + 1) (.slice A (Ty.args u).length c) u ∧ WW.heap.size ≤ bq ∧ u.args.length ≤ 15 + n.atoms ∧ ∀ k, n.ty E = some k → u = k)
  · intro cont
    have hgd := gr_drew hgq1
    have hszp := (gr_trans hg0h.out hgq1).size
    have hrl := (hbk.out _ hgq1).1.2.2.2.2.2.2.2.2
    go_region_held3 (fun W => W.cell? ⟨w.heap.size, 0, none⟩ = some (.slice An E.length cn) ∧ W.cell? ⟨w.heap.size, 1, none⟩ = some (.slice At E.length ct) ∧ W.cell? ⟨g, o + 2 * 1, none⟩ = some (.string ⟨m.sx.atom.toArray⟩) ∧ W.cell? ⟨g, o + 2 * 1 + 1, none⟩ = some (.slice A1 m.sx.parts.length c1) ∧ W.cell? ⟨g, o + 2 * 2, none⟩ = some (.string ⟨n.sx.atom.toArray⟩) ∧ W.cell? ⟨g, o + 2 * 2 + 1, none⟩ = some (.slice A2 n.sx.parts.length c2))
      (first | exact hkp.out _ hgd | exact hkp.out _ (gr_alloc hgd _) | exact hkp.out _ (gr_trans hgd hg2) | exact hkp.out _ (gr_trans (gr_alloc hgd _) hg2) | exact hkp.out _ (gr_alloc (gr_trans hgd hg2) _) | exact hkp.out _ (gr_set (gr_trans (gr_alloc hgd _) hg2) (.inr hgq1.size) _) | exact hkp.out _ (gr_set (gr_alloc (gr_trans hgd hg2) _) (.inr (gr_trans hgd hg2).size) _))
      (first
        | (go_at_call 32; refine (hI2.out _ hgd (w.heap.size + 1 + 1) (by omega) hrl).mono ?_; rintro e w2 ⟨u2, ⟨hg2, Aq2, cq2, rfl, htm⟩, hl2, he2⟩)
        | (go_at_call 32; refine (hI2.out _ (gr_alloc hgd _) wq1.heap.size hszp (by rw [World.size_alloc]; exact Nat.lt_succ_self _)).mono ?_; rintro e w2 ⟨u2, ⟨hg2, Aq2, cq2, rfl, htm⟩, hl2, he2⟩; have hbx : Blk w2 wq1.heap.size 43 #[.slice none 0 0] := (Blk.new wq1.drew 43 #[.slice none 0 0]).grown0 hg2; have b0 := hbx.cell 0; have b1 := hbx.free 0; have b2 := hbx.lt; simp only [List.getElem?_toArray, List.getElem?_cons_zero] at b0))
    all_goals first
      | (have hgq := gr_set (gr_trans (gr_alloc hgd _) hg2) (p := ⟨wq1.heap.size, 0, none⟩) (.inr hgq1.size) (.slice Aq2 (Ty.args u2).length cq2)
         have hgs := gr_set (gr_trans (gr_alloc (gr_drew (gr_refl wq1 none)) _) hg2) (p := ⟨wq1.heap.size, 0, none⟩) (.inr (Nat.le_refl _)) (.slice Aq2 (Ty.args u2).length cq2)
         have hbq : Blk (w2.setCell ⟨wq1.heap.size, 0, none⟩ (.slice Aq2 (Ty.args u2).length cq2)) wq1.heap.size 43 #[.slice Aq2 (Ty.args u2).length cq2] := by simpa using hbx.set 0 (.slice Aq2 (Ty.args u2).length cq2)
         have htq := TreeV.apart (i := 0) htm (.slice Aq2 (Ty.args u2).length cq2)
         have hle := hgq1.size
         clear b0 b1 b2 hbx
         generalize w2.setCell ⟨wq1.heap.size, 0, none⟩ (.slice Aq2 (Ty.args u2).length cq2) = wq at *
         generalize wq1.heap.size = bq at *
         exact cont bq wq u2 Aq2 cq2 ⟨hgq, hgs, hbq, htq, hle, hl2, he2⟩)
      | (have hgq := gr_alloc (gr_trans hgd hg2) (.cells #[.slice Aq2 (Ty.args u2).length cq2] 43)
         have hgs := gr_alloc (gr_trans (gr_drew (gr_refl wq1 none)) hg2) (.cells #[.slice Aq2 (Ty.args u2).length cq2] 43)
         have hbq := Blk.new w2 43 #[.slice Aq2 (Ty.args u2).length cq2]
         have htq := (htm.mono (fun _ hb _ => hb.1)).grown0 (World.grownBy_alloc w2 (.cells #[.slice Aq2 (Ty.args u2).length cq2] 43) none)
         have hle := (gr_trans hgd hg2).size
         generalize w2.alloc (.cells #[.slice Aq2 (Ty.args u2).length cq2] 43) = wq at *
         generalize w2.heap.size = bq at *
         exact cont bq wq u2 Aq2 cq2 ⟨hgq, hgs, hbq, htq, hle, hl2, he2⟩)
  rintro bq2 wq2 u2 Aq2 cq2 ⟨hgq2, hgs2, hbq2, htq2, hbn2, hl2, he2⟩
  go_wp2_with fail
  · skip
    have hm1 := hbq1.grown0 hgs2
    have ht1 := htq1.grown0 hgs2
    have m0 : wq2.cell? ⟨bq1, 0, none⟩ = some (.slice Aq1 u1.args.length cq1) := by have h := hm1.cell 0; simpa using h
    have n0 : wq2.cell? ⟨bq2, 0, none⟩ = some (.slice Aq2 u2.args.length cq2) := by have h := hbq2.cell 0; simpa using h
    have m1 := hm1.lt
    have n1 := hbq2.lt
    have hgf := gr_trans hg0h.out hgq2
    have hrle : w.heap.size ≤ w.heap.size + 1 + 1 := by omega
    have hlA : u1.args.length ≤ 15 + (Tm.app m n).atoms := by simp only [Tm.atoms]; omega
    obtain ⟨⟨z0, z1, zl, zx, zp, zl2, zr, zf, zl3⟩, _⟩ := hbk.out _ hgq2
    have hty := Lib.hid (show (Tm.app m n).ty E = tyApp (m.ty E) (n.ty E) from rfl)
    clear hbq1 htq1 hgs1 hgs2 hkp hI1 hI2 hgq1 hg1 hm1
    have hbkh := hbk
    clear hbk
    cases hm : m.ty E with
    | none =>
      rw [hm] at hty
      have hN := Lib.hid (show (Tm.app m n).ty E = none from hty.out)
      clear hm he1 he2 hty
      refine wp_region_held (S := (fun w' => w'.cell? ⟨bq1, 0, none⟩ = some (.slice Aq1 u1.args.length cq1))) (by kernel_rfl) ?_
      refine wpAnyH_take (i := 0) (v := .bool false) rfl (by kernel_rfl) (by kernel_rfl) (by kernel_rfl) (fun _ _ _ h => h) (Or.inl ⟨by rfl, ?_⟩) m0 ?_
      · intro w' hS'
        go_simp
      try simp only [List.getElem_toArray, List.getElem_cons_zero, Act.put, List.setIfInBounds_toArray, List.set_cons_zero, List.set_cons_succ]
      refine wpAnyH_take (i := 1) (v := .bool true) rfl (by kernel_rfl) (by kernel_rfl) (by kernel_rfl) (fun _ _ _ h => h) (Or.inl ⟨by rfl, ?_⟩) m0 ?_
      · intro w' hS'
        go_simp
      try simp only [List.getElem_toArray, List.getElem_cons_succ, List.getElem_cons_zero, Act.put, List.setIfInBounds_toArray, List.set_cons_zero, List.set_cons_succ]
      refine wpAnyH_take (i := 2) (v := .bool true) rfl (by kernel_rfl) (by kernel_rfl) (by kernel_rfl) (fun _ _ _ h => h) (Or.inl ⟨by rfl, ?_⟩) m0 ?_
      · intro w' hS'
        go_simp
      try simp only [List.getElem_toArray, List.getElem_cons_succ, List.getElem_cons_zero, Act.put, List.setIfInBounds_toArray, List.set_cons_zero, List.set_cons_succ]
      refine wpAnyH_take (i := 3) (v := undef) rfl (by kernel_rfl) (by kernel_rfl) (by kernel_rfl) (fun _ _ _ h => h) (Or.inr ⟨by rfl, rfl⟩) m0 ?_
      try simp only [List.getElem_toArray, List.getElem_cons_succ, List.getElem_cons_zero, Act.put, List.setIfInBounds_toArray, List.set_cons_zero, List.set_cons_succ]
      refine wpAnyH_take (i := 4) (v := undef) rfl (by kernel_rfl) (by kernel_rfl) (by kernel_rfl) (fun _ _ _ h => h) (Or.inr ⟨by rfl, rfl⟩) m0 ?_
      try simp only [List.getElem_toArray, List.getElem_cons_succ, List.getElem_cons_zero, Act.put, List.setIfInBounds_toArray, List.set_cons_zero, List.set_cons_succ]
      refine wpAnyH_take (i := 5) (v := .bool true) rfl (by kernel_rfl) (by kernel_rfl) (by kernel_rfl) (fun _ _ _ h => h) (Or.inl ⟨by rfl, ?_⟩) m0 ?_
      · intro w' hS'
        go_simp
      try simp only [List.getElem_toArray, List.getElem_cons_succ, List.getElem_cons_zero, Act.put, List.setIfInBounds_toArray, List.set_cons_zero, List.set_cons_succ]
      refine wpAnyH_take (i := 6) (v := .bool true) rfl (by kernel_rfl) (by kernel_rfl) (by kernel_rfl) (fun _ _ _ h => h) (Or.inl ⟨by rfl, ?_⟩) m0 ?_
      · intro w' hS'
        go_simp
      try simp only [List.getElem_toArray, List.getElem_cons_succ, List.getElem_cons_zero, Act.put, List.setIfInBounds_toArray, List.set_cons_zero, List.set_cons_succ]
      refine wpAnyH_take (i := 7) (v := undef) rfl (by kernel_rfl) (by kernel_rfl) (by kernel_rfl) (fun _ _ _ h => h) (Or.inr ⟨by rfl, rfl⟩) m0 ?_
      try simp only [List.getElem_toArray, List.getElem_cons_succ, List.getElem_cons_zero, Act.put, List.setIfInBounds_toArray, List.set_cons_zero, List.set_cons_succ]
      refine wpAnyH_take (i := 8) (v := undef) rfl (by kernel_rfl) (by kernel_rfl) (by kernel_rfl) (fun _ _ _ h => h) (Or.inr ⟨by rfl, rfl⟩) m0 ?_
      try simp only [List.getElem_toArray, List.getElem_cons_succ, List.getElem_cons_zero, Act.put, List.setIfInBounds_toArray, List.set_cons_zero, List.set_cons_succ]
      refine wpAnyH_take (i := 9) (v := undef) rfl (by kernel_rfl) (by kernel_rfl) (by kernel_rfl) (fun _ _ _ h => h) (Or.inr ⟨by rfl, rfl⟩) m0 ?_
      try simp only [List.getElem_toArray, List.getElem_cons_succ, List.getElem_cons_zero, Act.put, List.setIfInBounds_toArray, List.set_cons_zero, List.set_cons_succ]
      refine wpAnyH_take (i := 10) (v := undef) rfl (by kernel_rfl) (by kernel_rfl) (by kernel_rfl) (fun _ _ _ h => h) (Or.inr ⟨by rfl, rfl⟩) m0 ?_
      try simp only [List.getElem_toArray, List.getElem_cons_succ, List.getElem_cons_zero, Act.put, List.setIfInBounds_toArray, List.set_cons_zero, List.set_cons_succ]
      refine wpAnyH_take (i := 11) (v := .bool true) rfl (by kernel_rfl) (by kernel_rfl) (by kernel_rfl) (fun _ _ _ h => h) (Or.inl ⟨by rfl, ?_⟩) m0 ?_
      · intro w' hS'
        go_simp
      try simp only [List.getElem_toArray, List.getElem_cons_succ, List.getElem_cons_zero, Act.put, List.setIfInBounds_toArray, List.set_cons_zero, List.set_cons_succ]
      refine wpAnyH_take (i := 12) (v := .bool true) rfl (by kernel_rfl) (by kernel_rfl) (by kernel_rfl) (fun _ _ _ h => h) (Or.inl ⟨by rfl, ?_⟩) m0 ?_
      · intro w' hS'
        go_simp
      try simp only [List.getElem_toArray, List.getElem_cons_succ, List.getElem_cons_zero, Act.put, List.setIfInBounds_toArray, List.set_cons_zero, List.set_cons_succ]
      refine wpAnyH_take (i := 13) (v := undef) rfl (by kernel_rfl) (by kernel_rfl) (by kernel_rfl) (fun _ _ _ h => h) (Or.inr ⟨by rfl, rfl⟩) m0 ?_
      try simp only [List.getElem_toArray, List.getElem_cons_succ, List.getElem_cons_zero, Act.put, List.setIfInBounds_toArray, List.set_cons_zero, List.set_cons_succ]
      refine wpAnyH_take (i := 14) (v := undef) rfl (by kernel_rfl) (by kernel_rfl) (by kernel_rfl) (fun _ _ _ h => h) (Or.inr ⟨by rfl, rfl⟩) m0 ?_
      try simp only [List.getElem_toArray, List.getElem_cons_succ, List.getElem_cons_zero, Act.put, List.setIfInBounds_toArray, List.set_cons_zero, List.set_cons_succ]
      refine wpAnyH_take (i := 15) (v := undef) rfl (by kernel_rfl) (by kernel_rfl) (by kernel_rfl) (fun _ _ _ h => h) (Or.inr ⟨by rfl, rfl⟩) m0 ?_
      try simp only [List.getElem_toArray, List.getElem_cons_succ, List.getElem_cons_zero, Act.put, List.setIfInBounds_toArray, List.set_cons_zero, List.set_cons_succ]
      refine wpAnyH_take (i := 16) (v := undef) rfl (by kernel_rfl) (by kernel_rfl) (by kernel_rfl) (fun _ _ _ h => h) (Or.inr ⟨by rfl, rfl⟩) m0 ?_
      try simp only [List.getElem_toArray, List.getElem_cons_succ, List.getElem_cons_zero, Act.put, List.setIfInBounds_toArray, List.set_cons_zero, List.set_cons_succ]
      refine wpAnyH_take (i := 17) (v := undef) rfl (by kernel_rfl) (by kernel_rfl) (by kernel_rfl) (fun _ _ _ h => h) (Or.inr ⟨by rfl, rfl⟩) m0 ?_
      try simp only [List.getElem_toArray, List.getElem_cons_succ, List.getElem_cons_zero, Act.put, List.setIfInBounds_toArray, List.set_cons_zero, List.set_cons_succ]
      refine wpAnyH_take (i := 18) (v := undef) rfl (by kernel_rfl) (by kernel_rfl) (by kernel_rfl) (fun _ _ _ h => h) (Or.inr ⟨by rfl, rfl⟩) m0 ?_
      try simp only [List.getElem_toArray, List.getElem_cons_succ, List.getElem_cons_zero, Act.put, List.setIfInBounds_toArray, List.set_cons_zero, List.set_cons_succ]
      refine wpAnyH_take (i := 19) (v := undef) rfl (by kernel_rfl) (by kernel_rfl) (by kernel_rfl) (fun _ _ _ h => h) (Or.inr ⟨by rfl, rfl⟩) m0 ?_
      try simp only [List.getElem_toArray, List.getElem_cons_succ, List.getElem_cons_zero, Act.put, List.setIfInBounds_toArray, List.set_cons_zero, List.set_cons_succ]
      refine wpAnyH_take (i := 20) (v := undef) rfl (by kernel_rfl) (by kernel_rfl) (by kernel_rfl) (fun _ _ _ h => h) (Or.inr ⟨by rfl, rfl⟩) m0 ?_
      try simp only [List.getElem_toArray, List.getElem_cons_succ, List.getElem_cons_zero, Act.put, List.setIfInBounds_toArray, List.set_cons_zero, List.set_cons_succ]
      refine wpAnyH_take (i := 21) (v := .bool true) rfl (by kernel_rfl) (by kernel_rfl) (by kernel_rfl) (fun _ _ _ h => h) (Or.inl ⟨by rfl, ?_⟩) m0 ?_
      · intro w' hS'
        go_simp
      try simp only [List.getElem_toArray, List.getElem_cons_succ, List.getElem_cons_zero, Act.put, List.setIfInBounds_toArray, List.set_cons_zero, List.set_cons_succ]
      refine wpAnyH_done (by kernel_rfl) ?_ _
      go_wp2_with fail
      exact bodyPost_ret (v := .tuple #[.agg #[.slice Aq1 u1.args.length cq1], .bool false]) (by simp [results, Try.results32, go_sem, zr]) rfl (by rw [hN.out]; first | exact ⟨u1, KPost.mk (gr_drew (gr_set hgf (.inr hrle) _)) ((TreeV.apart (i := 0) ht1 _).grown0 (gr_drew (gr_refl _ none))), hlA, fun k h => by cases h⟩ | exact ⟨u1, KPost.mk (gr_set (gr_drew hgf) (.inr hrle) _) (TreeV.apart (i := 0) (ht1.grown0 (gr_drew (gr_refl _ none))) _), hlA, fun k h => by cases h⟩)
    | some km =>
      obtain rfl := he1 _ hm
      rw [hm] at hty
      cases hn : n.ty E with
      | none =>
        rw [hn] at hty
        have hN := Lib.hid (show (Tm.app m n).ty E = none by rw [hty.out]; cases u1 <;> rfl)
        clear hm hn he1 he2 hty
        refine wp_region_held (S := (fun w' => w'.cell? ⟨bq1, 0, none⟩ = some (.slice Aq1 u1.args.length cq1))) (by kernel_rfl) ?_
        refine wpAnyH_take (i := 0) (v := .bool true) rfl (by kernel_rfl) (by kernel_rfl) (by kernel_rfl) (fun _ _ _ h => h) (Or.inl ⟨by rfl, ?_⟩) m0 ?_
        · intro w' hS'
          go_simp
        try simp only [List.getElem_toArray, List.getElem_cons_zero, Act.put, List.setIfInBounds_toArray, List.set_cons_zero, List.set_cons_succ]
        refine wpAnyH_take (i := 1) (v := .bool false) rfl (by kernel_rfl) (by kernel_rfl) (by kernel_rfl) (fun _ _ _ h => h) (Or.inl ⟨by rfl, ?_⟩) m0 ?_
        · intro w' hS'
          go_simp
        try simp only [List.getElem_toArray, List.getElem_cons_succ, List.getElem_cons_zero, Act.put, List.setIfInBounds_toArray, List.set_cons_zero, List.set_cons_succ]
        refine wpAnyH_take (i := 2) (v := .bool false) rfl (by kernel_rfl) (by kernel_rfl) (by kernel_rfl) (fun _ _ _ h => h) (Or.inl ⟨by rfl, ?_⟩) m0 ?_
        · intro w' hS'
          go_simp
        try simp only [List.getElem_toArray, List.getElem_cons_succ, List.getElem_cons_zero, Act.put, List.setIfInBounds_toArray, List.set_cons_zero, List.set_cons_succ]
        refine wpAnyH_take (i := 3) (v := .bool false) rfl (by kernel_rfl) (by kernel_rfl) (by kernel_rfl) (fun _ _ _ h => h) (Or.inl ⟨by rfl, ?_⟩) m0 ?_
        · intro w' hS'
          go_simp
        try simp only [List.getElem_toArray, List.getElem_cons_succ, List.getElem_cons_zero, Act.put, List.setIfInBounds_toArray, List.set_cons_zero, List.set_cons_succ]
        refine wpAnyH_take (i := 4) (v := .bool true) rfl (by kernel_rfl) (by kernel_rfl) (by kernel_rfl) (fun _ _ _ h => h) (Or.inl ⟨by rfl, ?_⟩) m0 ?_
        · intro w' hS'
          go_simp
        try simp only [List.getElem_toArray, List.getElem_cons_succ, List.getElem_cons_zero, Act.put, List.setIfInBounds_toArray, List.set_cons_zero, List.set_cons_succ]
        refine wpAnyH_take (i := 5) (v := .bool true) rfl (by kernel_rfl) (by kernel_rfl) (by kernel_rfl) (fun _ _ _ h => h) (Or.inl ⟨by rfl, ?_⟩) m0 ?_
        · intro w' hS'
          go_simp
        try simp only [List.getElem_toArray, List.getElem_cons_succ, List.getElem_cons_zero, Act.put, List.setIfInBounds_toArray, List.set_cons_zero, List.set_cons_succ]
        refine wpAnyH_take (i := 6) (v := .bool true) rfl (by kernel_rfl) (by kernel_rfl) (by kernel_rfl) (fun _ _ _ h => h) (Or.inl ⟨by rfl, ?_⟩) m0 ?_
        · intro w' hS'
          go_simp
        try simp only [List.getElem_toArray, List.getElem_cons_succ, List.getElem_cons_zero, Act.put, List.setIfInBounds_toArray, List.set_cons_zero, List.set_cons_succ]
        refine wpAnyH_take (i := 7) (v := undef) rfl (by kernel_rfl) (by kernel_rfl) (by kernel_rfl) (fun _ _ _ h => h) (Or.inr ⟨by rfl, rfl⟩) m0 ?_
        try simp only [List.getElem_toArray, List.getElem_cons_succ, List.getElem_cons_zero, Act.put, List.setIfInBounds_toArray, List.set_cons_zero, List.set_cons_succ]
        refine wpAnyH_take (i := 8) (v := undef) rfl (by kernel_rfl) (by kernel_rfl) (by kernel_rfl) (fun _ _ _ h => h) (Or.inr ⟨by rfl, rfl⟩) m0 ?_
        try simp only [List.getElem_toArray, List.getElem_cons_succ, List.getElem_cons_zero, Act.put, List.setIfInBounds_toArray, List.set_cons_zero, List.set_cons_succ]
        refine wpAnyH_take (i := 9) (v := undef) rfl (by kernel_rfl) (by kernel_rfl) (by kernel_rfl) (fun _ _ _ h => h) (Or.inr ⟨by rfl, rfl⟩) m0 ?_
        try simp only [List.getElem_toArray, List.getElem_cons_succ, List.getElem_cons_zero, Act.put, List.setIfInBounds_toArray, List.set_cons_zero, List.set_cons_succ]
        refine wpAnyH_take (i := 10) (v := undef) rfl (by kernel_rfl) (by kernel_rfl) (by kernel_rfl) (fun _ _ _ h => h) (Or.inr ⟨by rfl, rfl⟩) m0 ?_
        try simp only [List.getElem_toArray, List.getElem_cons_succ, List.getElem_cons_zero, Act.put, List.setIfInBounds_toArray, List.set_cons_zero, List.set_cons_succ]
        refine wpAnyH_take (i := 11) (v := .bool true) rfl (by kernel_rfl) (by kernel_rfl) (by kernel_rfl) (fun _ _ _ h => h) (Or.inl ⟨by rfl, ?_⟩) m0 ?_
        · intro w' hS'
          go_simp
        try simp only [List.getElem_toArray, List.getElem_cons_succ, List.getElem_cons_zero, Act.put, List.setIfInBounds_toArray, List.set_cons_zero, List.set_cons_succ]
        refine wpAnyH_take (i := 12) (v := .bool true) rfl (by kernel_rfl) (by kernel_rfl) (by kernel_rfl) (fun _ _ _ h => h) (Or.inl ⟨by rfl, ?_⟩) m0 ?_
        · intro w' hS'
          go_simp
        try simp only [List.getElem_toArray, List.getElem_cons_succ, List.getElem_cons_zero, Act.put, List.setIfInBounds_toArray, List.set_cons_zero, List.set_cons_succ]
        refine wpAnyH_take (i := 13) (v := undef) rfl (by kernel_rfl) (by kernel_rfl) (by kernel_rfl) (fun _ _ _ h => h) (Or.inr ⟨by rfl, rfl⟩) m0 ?_
        try simp only [List.getElem_toArray, List.getElem_cons_succ, List.getElem_cons_zero, Act.put, List.setIfInBounds_toArray, List.set_cons_zero, List.set_cons_succ]
        refine wpAnyH_take (i := 14) (v := undef) rfl (by kernel_rfl) (by kernel_rfl) (by kernel_rfl) (fun _ _ _ h => h) (Or.inr ⟨by rfl, rfl⟩) m0 ?_
        try simp only [List.getElem_toArray, List.getElem_cons_succ, List.getElem_cons_zero, Act.put, List.setIfInBounds_toArray, List.set_cons_zero, List.set_cons_succ]
        refine wpAnyH_take (i := 15) (v := undef) rfl (by kernel_rfl) (by kernel_rfl) (by kernel_rfl) (fun _ _ _ h => h) (Or.inr ⟨by rfl, rfl⟩) m0 ?_
        try simp only [List.getElem_toArray, List.getElem_cons_succ, List.getElem_cons_zero, Act.put, List.setIfInBounds_toArray, List.set_cons_zero, List.set_cons_succ]
        refine wpAnyH_take (i := 16) (v := undef) rfl (by kernel_rfl) (by kernel_rfl) (by kernel_rfl) (fun _ _ _ h => h) (Or.inr ⟨by rfl, rfl⟩) m0 ?_
        try simp only [List.getElem_toArray, List.getElem_cons_succ, List.getElem_cons_zero, Act.put, List.setIfInBounds_toArray, List.set_cons_zero, List.set_cons_succ]
        refine wpAnyH_take (i := 17) (v := undef) rfl (by kernel_rfl) (by kernel_rfl) (by kernel_rfl) (fun _ _ _ h => h) (Or.inr ⟨by rfl, rfl⟩) m0 ?_
        try simp only [List.getElem_toArray, List.getElem_cons_succ, List.getElem_cons_zero, Act.put, List.setIfInBounds_toArray, List.set_cons_zero, List.set_cons_succ]
        refine wpAnyH_take (i := 18) (v := undef) rfl (by kernel_rfl) (by kernel_rfl) (by kernel_rfl) (fun _ _ _ h => h) (Or.inr ⟨by rfl, rfl⟩) m0 ?_
        try simp only [List.getElem_toArray, List.getElem_cons_succ, List.getElem_cons_zero, Act.put, List.setIfInBounds_toArray, List.set_cons_zero, List.set_cons_succ]
        refine wpAnyH_take (i := 19) (v := undef) rfl (by kernel_rfl) (by kernel_rfl) (by kernel_rfl) (fun _ _ _ h => h) (Or.inr ⟨by rfl, rfl⟩) m0 ?_
        try simp only [List.getElem_toArray, List.getElem_cons_succ, List.getElem_cons_zero, Act.put, List.setIfInBounds_toArray, List.set_cons_zero, List.set_cons_succ]
        refine wpAnyH_take (i := 20) (v := undef) rfl (by kernel_rfl) (by kernel_rfl) (by kernel_rfl) (fun _ _ _ h => h) (Or.inr ⟨by rfl, rfl⟩) m0 ?_
        try simp only [List.getElem_toArray, List.getElem_cons_succ, List.getElem_cons_zero, Act.put, List.setIfInBounds_toArray, List.set_cons_zero, List.set_cons_succ]
        refine wpAnyH_take (i := 21) (v := .bool true) rfl (by kernel_rfl) (by kernel_rfl) (by kernel_rfl) (fun _ _ _ h => h) (Or.inl ⟨by rfl, ?_⟩) m0 ?_
        · intro w' hS'
          go_simp
        try simp only [List.getElem_toArray, List.getElem_cons_succ, List.getElem_cons_zero, Act.put, List.setIfInBounds_toArray, List.set_cons_zero, List.set_cons_succ]
        refine wpAnyH_done (by kernel_rfl) ?_ _
        go_wp2_with fail
        exact bodyPost_ret (v := .tuple #[.agg #[.slice Aq1 u1.args.length cq1], .bool false]) (by simp [results, Try.results32, go_sem, zr]) rfl (by rw [hN.out]; first | exact ⟨u1, KPost.mk (gr_drew (gr_set hgf (.inr hrle) _)) ((TreeV.apart (i := 0) ht1 _).grown0 (gr_drew (gr_refl _ none))), hlA, fun k h => by cases h⟩ | exact ⟨u1, KPost.mk (gr_set (gr_drew hgf) (.inr hrle) _) (TreeV.apart (i := 0) (ht1.grown0 (gr_drew (gr_refl _ none))) _), hlA, fun k h => by cases h⟩)
      | some kn =>
        obtain rfl := he2 _ hn
        rw [hn] at hty
        cases u1 with
        | b =>
          have hN := Lib.hid (show (Tm.app m n).ty E = none from hty.out)
          have m0 : wq2.cell? ⟨bq1, 0, none⟩ = some (.slice Aq1 0 cq1) := m0
          clear hm hn he1 he2 hty
          refine wp_region_held (S := (fun w' => w'.cell? ⟨bq1, 0, none⟩ = some (.slice Aq1 0 cq1))) (by kernel_rfl) ?_
          refine wpAnyH_take (i := 0) (v := .bool true) rfl (by kernel_rfl) (by kernel_rfl) (by kernel_rfl) (fun _ _ _ h => h) (Or.inl ⟨by rfl, ?_⟩) m0 ?_
          · intro w' hS'
            go_simp
          try simp only [List.getElem_toArray, List.getElem_cons_zero, Act.put, List.setIfInBounds_toArray, List.set_cons_zero, List.set_cons_succ]
          refine wpAnyH_take (i := 1) (v := .bool false) rfl (by kernel_rfl) (by kernel_rfl) (by kernel_rfl) (fun _ _ _ h => h) (Or.inl ⟨by rfl, ?_⟩) m0 ?_
          · intro w' hS'
            go_simp
          try simp only [List.getElem_toArray, List.getElem_cons_succ, List.getElem_cons_zero, Act.put, List.setIfInBounds_toArray, List.set_cons_zero, List.set_cons_succ]
          refine wpAnyH_take (i := 2) (v := .bool false) rfl (by kernel_rfl) (by kernel_rfl) (by kernel_rfl) (fun _ _ _ h => h) (Or.inl ⟨by rfl, ?_⟩) m0 ?_
          · intro w' hS'
            go_simp
          try simp only [List.getElem_toArray, List.getElem_cons_succ, List.getElem_cons_zero, Act.put, List.setIfInBounds_toArray, List.set_cons_zero, List.set_cons_succ]
          refine wpAnyH_take (i := 3) (v := .bool true) rfl (by kernel_rfl) (by kernel_rfl) (by kernel_rfl) (fun _ _ _ h => h) (Or.inl ⟨by rfl, ?_⟩) m0 ?_
          · intro w' hS'
            go_simp
          try simp only [List.getElem_toArray, List.getElem_cons_succ, List.getElem_cons_zero, Act.put, List.setIfInBounds_toArray, List.set_cons_zero, List.set_cons_succ]
          refine wpAnyH_take (i := 4) (v := .bool false) rfl (by kernel_rfl) (by kernel_rfl) (by kernel_rfl) (fun _ _ _ h => h) (Or.inl ⟨by rfl, ?_⟩) m0 ?_
          · intro w' hS'
            go_simp
          try simp only [List.getElem_toArray, List.getElem_cons_succ, List.getElem_cons_zero, Act.put, List.setIfInBounds_toArray, List.set_cons_zero, List.set_cons_succ]
          refine wpAnyH_take (i := 5) (v := .bool false) rfl (by kernel_rfl) (by kernel_rfl) (by kernel_rfl) (fun _ _ _ h => h) (Or.inl ⟨by rfl, ?_⟩) m0 ?_
          · intro w' hS'
            go_simp
          try simp only [List.getElem_toArray, List.getElem_cons_succ, List.getElem_cons_zero, Act.put, List.setIfInBounds_toArray, List.set_cons_zero, List.set_cons_succ]
          refine wpAnyH_take (i := 6) (v := .bool false) rfl (by kernel_rfl) (by kernel_rfl) (by kernel_rfl) (fun _ _ _ h => h) (Or.inl ⟨by rfl, ?_⟩) m0 ?_
          · intro w' hS'
            go_simp
          try simp only [List.getElem_toArray, List.getElem_cons_succ, List.getElem_cons_zero, Act.put, List.setIfInBounds_toArray, List.set_cons_zero, List.set_cons_succ]
          refine wpAnyH_take (i := 7) (v := .pointer (some ⟨bq1, 0, none⟩)) rfl (by kernel_rfl) (by kernel_rfl) (by kernel_rfl) (fun _ _ _ h => h) (Or.inl ⟨by rfl, ?_⟩) m0 ?_
          · intro w' hS'
            go_simp
          try simp only [List.getElem_toArray, List.getElem_cons_succ, List.getElem_cons_zero, Act.put, List.setIfInBounds_toArray, List.set_cons_zero, List.set_cons_succ]
          refine wpAnyH_take (i := 8) (v := .slice Aq1 0 cq1) rfl (by kernel_rfl) (by kernel_rfl) (by kernel_rfl) (fun _ _ _ h => h) (Or.inl ⟨by rfl, ?_⟩) m0 ?_
          · intro w' hS'
            go_simp
          try simp only [List.getElem_toArray, List.getElem_cons_succ, List.getElem_cons_zero, Act.put, List.setIfInBounds_toArray, List.set_cons_zero, List.set_cons_succ]
          refine wpAnyH_take (i := 9) (v := .int .i64 0) rfl (by kernel_rfl) (by kernel_rfl) (by kernel_rfl) (fun _ _ _ h => h) (Or.inl ⟨by rfl, ?_⟩) m0 ?_
          · intro w' hS'
            go_simp
          try simp only [List.getElem_toArray, List.getElem_cons_succ, List.getElem_cons_zero, Act.put, List.setIfInBounds_toArray, List.set_cons_zero, List.set_cons_succ]
          refine wpAnyH_take (i := 10) (v := .bool true) rfl (by kernel_rfl) (by kernel_rfl) (by kernel_rfl) (fun _ _ _ h => h) (Or.inl ⟨by rfl, ?_⟩) m0 ?_
          · intro w' hS'
            go_simp
          try simp only [List.getElem_toArray, List.getElem_cons_succ, List.getElem_cons_zero, Act.put, List.setIfInBounds_toArray, List.set_cons_zero, List.set_cons_succ]
          refine wpAnyH_take (i := 11) (v := .bool true) rfl (by kernel_rfl) (by kernel_rfl) (by kernel_rfl) (fun _ _ _ h => h) (Or.inl ⟨by rfl, ?_⟩) m0 ?_
          · intro w' hS'
            go_simp
          try simp only [List.getElem_toArray, List.getElem_cons_succ, List.getElem_cons_zero, Act.put, List.setIfInBounds_toArray, List.set_cons_zero, List.set_cons_succ]
          refine wpAnyH_take (i := 12) (v := .bool true) rfl (by kernel_rfl) (by kernel_rfl) (by kernel_rfl) (fun _ _ _ h => h) (Or.inl ⟨by rfl, ?_⟩) m0 ?_
          · intro w' hS'
            go_simp
          try simp only [List.getElem_toArray, List.getElem_cons_succ, List.getElem_cons_zero, Act.put, List.setIfInBounds_toArray, List.set_cons_zero, List.set_cons_succ]
          refine wpAnyH_take (i := 13) (v := undef) rfl (by kernel_rfl) (by kernel_rfl) (by kernel_rfl) (fun _ _ _ h => h) (Or.inr ⟨by rfl, rfl⟩) m0 ?_
          try simp only [List.getElem_toArray, List.getElem_cons_succ, List.getElem_cons_zero, Act.put, List.setIfInBounds_toArray, List.set_cons_zero, List.set_cons_succ]
          refine wpAnyH_take (i := 14) (v := undef) rfl (by kernel_rfl) (by kernel_rfl) (by kernel_rfl) (fun _ _ _ h => h) (Or.inr ⟨by rfl, rfl⟩) m0 ?_
          try simp only [List.getElem_toArray, List.getElem_cons_succ, List.getElem_cons_zero, Act.put, List.setIfInBounds_toArray, List.set_cons_zero, List.set_cons_succ]
          refine wpAnyH_take (i := 15) (v := undef) rfl (by kernel_rfl) (by kernel_rfl) (by kernel_rfl) (fun _ _ _ h => h) (Or.inr ⟨by rfl, rfl⟩) m0 ?_
          try simp only [List.getElem_toArray, List.getElem_cons_succ, List.getElem_cons_zero, Act.put, List.setIfInBounds_toArray, List.set_cons_zero, List.set_cons_succ]
          refine wpAnyH_take (i := 16) (v := undef) rfl (by kernel_rfl) (by kernel_rfl) (by kernel_rfl) (fun _ _ _ h => h) (Or.inr ⟨by rfl, rfl⟩) m0 ?_
          try simp only [List.getElem_toArray, List.getElem_cons_succ, List.getElem_cons_zero, Act.put, List.setIfInBounds_toArray, List.set_cons_zero, List.set_cons_succ]
          refine wpAnyH_take (i := 17) (v := undef) rfl (by kernel_rfl) (by kernel_rfl) (by kernel_rfl) (fun _ _ _ h => h) (Or.inr ⟨by rfl, rfl⟩) m0 ?_
          try simp only [List.getElem_toArray, List.getElem_cons_succ, List.getElem_cons_zero, Act.put, List.setIfInBounds_toArray, List.set_cons_zero, List.set_cons_succ]
          refine wpAnyH_take (i := 18) (v := undef) rfl (by kernel_rfl) (by kernel_rfl) (by kernel_rfl) (fun _ _ _ h => h) (Or.inr ⟨by rfl, rfl⟩) m0 ?_
          try simp only [List.getElem_toArray, List.getElem_cons_succ, List.getElem_cons_zero, Act.put, List.setIfInBounds_toArray, List.set_cons_zero, List.set_cons_succ]
          refine wpAnyH_take (i := 19) (v := undef) rfl (by kernel_rfl) (by kernel_rfl) (by kernel_rfl) (fun _ _ _ h => h) (Or.inr ⟨by rfl, rfl⟩) m0 ?_
          try simp only [List.getElem_toArray, List.getElem_cons_succ, List.getElem_cons_zero, Act.put, List.setIfInBounds_toArray, List.set_cons_zero, List.set_cons_succ]
          refine wpAnyH_take (i := 20) (v := undef) rfl (by kernel_rfl) (by kernel_rfl) (by kernel_rfl) (fun _ _ _ h => h) (Or.inr ⟨by rfl, rfl⟩) m0 ?_
          try simp only [List.getElem_toArray, List.getElem_cons_succ, List.getElem_cons_zero, Act.put, List.setIfInBounds_toArray, List.set_cons_zero, List.set_cons_succ]
          refine wpAnyH_take (i := 21) (v := .bool true) rfl (by kernel_rfl) (by kernel_rfl) (by kernel_rfl) (fun _ _ _ h => h) (Or.inl ⟨by rfl, ?_⟩) m0 ?_
          · intro w' hS'
            go_simp
          try simp only [List.getElem_toArray, List.getElem_cons_succ, List.getElem_cons_zero, Act.put, List.setIfInBounds_toArray, List.set_cons_zero, List.set_cons_succ]
          refine wpAnyH_done (by kernel_rfl) ?_ _
          go_wp2_with fail
          exact bodyPost_ret (v := .tuple #[.agg #[.slice Aq1 0 cq1], .bool false]) (by simp [results, Try.results32, go_sem, zr, Ty.args]) rfl (by rw [hN.out]; first | exact ⟨.b, KPost.mk (gr_drew (gr_set hgf (.inr hrle) _)) ((TreeV.apart (i := 0) ht1 _).grown0 (gr_drew (gr_refl _ none))), hlA, fun k h => by cases h⟩ | exact ⟨.b, KPost.mk (gr_set (gr_drew hgf) (.inr hrle) _) (TreeV.apart (i := 0) (ht1.grown0 (gr_drew (gr_refl _ none))) _), hlA, fun k h => by cases h⟩)
        | arr a r =>
          have hln2 : (Ty.arr a r).args.length = r.args.length + 1 := rfl
          rw [hln2] at m0 ht1 hlA
          have h15m := Tm.ty_le m E _ hok hm
          have h15n := Tm.ty_le n E _ hok hn
          simp only [Ty.atoms] at h15m
          have hcap := ht1.cap
          rw [hln2] at hcap
          have ht1h := Lib.hid ht1
          obtain ⟨_, _, vs, hv, hS, hch⟩ := ht1.open_
          injection hv with hv1 _ hv3
          subst hv1 hv3
          obtain ⟨ga, oa, rfl, _, hca⟩ := hS (by omega)
          have hTl := Lib.hid (fun W (hW : wq2.grownBy W none) (A' : Option Addr) (h : cq1 ≠ 1 → A' = some ⟨ga, oa + 1, none⟩) => treeV_tail2 (ht1h.out.grown0 hW) A' h)
          have k0 := hca 0 (by omega)
          have hka := hch 0 a rfl
          obtain ⟨Aa, ca, _, hva, _, _⟩ := hka.open_
          rw [hva] at k0 hka
          rw [Nat.add_zero] at k0
          have t1 := Lib.hid (fun W (hW : wq2.grownBy W none) => l1Text_any a.atoms a Aa ca _ W (Nat.le_refl _) (by omega) (hka.grown0 hW))
          have t2 := Lib.hid (fun W (hW : wq2.grownBy W none) => l1Text_any u2.atoms u2 Aq2 cq2 _ W (Nat.le_refl _) (by omega) (htq2.grown0 hW))
          obtain ⟨N, hNe⟩ : ∃ N, N = r.args.length + 1 := ⟨_, rfl⟩
          rw [← hNe] at m0
          have hki := Lib.hid (fun W (hW : wq2.grownBy W none) => And.intro (cell_grown m0 hW) (And.intro (cell_grown k0 hW) (cell_grown n0 hW)))
          have hi0n : 0 < N := by omega
          have hi0 : (0 : Int) < (N : Int) := by omega
          have hi1 : (1 : Int) ≤ (N : Int) := by omega
          have hi2 : ((N : Int) == 0) = false := by rw [beq_eq_false_iff_ne]; omega
          have hNh := Lib.hid hNe
          clear hNe
          have hgD := gr_drew (gr_refl wq2 none)
          have hbt : (a.text == u2.text) = decide (a = u2) := by
            rw [Bool.eq_iff_iff, beq_iff_eq, decide_eq_true_eq]
            exact ⟨Ty.text_inj, congrArg Ty.text⟩
          have hlAh := Lib.hid hlA
          clear hS hch hca hva hka ht1 htq2 hlA hln2 hok hnm hF hsz h15m h15n hl1 hl2 hAL
          by_cases hak : a = u2
          · have hY := Lib.hid (show (Tm.app m n).ty E = some r by rw [hty.out]; exact if_pos hak)
            rw [decide_eq_true hak] at hbt
            have hbn : (a.text != u2.text) = false := by rw [bne, hbt]; rfl
            clear hm hn he1 he2 hty hak
            go_region_held3 (fun w' => w'.cell? ⟨bq1, 0, none⟩ = some (.slice (some ⟨ga, oa, none⟩) N cq1) ∧ w'.cell? ⟨ga, oa, none⟩ = some (.slice Aa a.args.length ca) ∧ w'.cell? ⟨bq2, 0, none⟩ = some (.slice Aq2 u2.args.length cq2))
              (first | exact hki.out _ hgD | exact hki.out _ (gr_trans hgD hgt1) | exact hki.out _ (gr_trans (gr_trans hgD hgt1) hgt2))
              (first
                | (go_at_call 20; refine (t2.out _ (gr_trans hgD hgt1)).mono ?_; rintro e w4 ⟨rfl, hgt2⟩)
                | (go_at_call 20; refine (t1.out _ hgD).mono ?_; rintro e w3 ⟨rfl, hgt1⟩))
            have hgD2 := gr_trans (gr_trans hgD hgt1) hgt2
            obtain ⟨m4, _, _⟩ := hki.out _ hgD2
            clear z0 z1 zl zx zp zl2 zr zf zl3
            obtain ⟨⟨z0, z1, zl, zx, zp, zl2, zr, zf, zl3⟩, _⟩ := hbkh.out _ (gr_trans hgq2 hgD2)
            have e1 : N - 1 = r.args.length := by have := hNh.out; omega
            have e1h := Lib.hid e1
            clear e1
            by_cases hc1 : cq1 = 1
            · subst hc1
              obtain rfl : N = 1 := by have := hNh.out; omega
              go_wp2_with fail
              refine bodyPost_ret (v := .tuple #[.agg #[.slice _ 0 0], .bool true]) (by simp [results, Try.results32, go_sem, zr]; rfl) rfl ?_
              rw [hY.out]
              exact ⟨r, ⟨gr_set (gr_trans hgf hgD2) (.inr hrle) _, _, 0, by rw [← e1h.out]; rfl, TreeV.apart (i := 0) (hTl.out w4 hgD2 _ (fun h => absurd rfl h)) _⟩, by have := hlAh.out; omega, fun k h => by cases h; rfl⟩
            · go_wp2_with fail
              refine bodyPost_ret (v := .tuple #[.agg #[.slice (some ⟨ga, oa + 1, none⟩) (N - 1) (cq1 - 1)], .bool true]) (by simp [results, Try.results32, go_sem, zr]) rfl ?_
              rw [hY.out]
              exact ⟨r, by rw [e1h.out]; exact KPost.mk (gr_set (gr_trans hgf hgD2) (.inr hrle) _) (TreeV.apart (i := 0) (hTl.out w4 hgD2 _ (fun _ => rfl)) _), by have := hlAh.out; omega, fun k h => by cases h; rfl⟩
          · have hN := Lib.hid (show (Tm.app m n).ty E = none by rw [hty.out]; exact if_neg hak)
            rw [decide_eq_false hak] at hbt
            have hbn : (a.text != u2.text) = true := by rw [bne, hbt]; rfl
            clear hm hn he1 he2 hty hak
            go_region_held3 (fun w' => w'.cell? ⟨bq1, 0, none⟩ = some (.slice (some ⟨ga, oa, none⟩) N cq1) ∧ w'.cell? ⟨ga, oa, none⟩ = some (.slice Aa a.args.length ca) ∧ w'.cell? ⟨bq2, 0, none⟩ = some (.slice Aq2 u2.args.length cq2))
              (first | exact hki.out _ hgD | exact hki.out _ (gr_trans hgD hgt1) | exact hki.out _ (gr_trans (gr_trans hgD hgt1) hgt2))
              (first
                | (go_at_call 20; refine (t2.out _ (gr_trans hgD hgt1)).mono ?_; rintro e w4 ⟨rfl, hgt2⟩)
                | (go_at_call 20; refine (t1.out _ hgD).mono ?_; rintro e w3 ⟨rfl, hgt1⟩))
            have hgD2 := gr_trans (gr_trans hgD hgt1) hgt2
            obtain ⟨m4, _, _⟩ := hki.out _ hgD2
            clear z0 z1 zl zx zp zl2 zr zf zl3
            obtain ⟨⟨z0, z1, zl, zx, zp, zl2, zr, zf, zl3⟩, _⟩ := hbkh.out _ (gr_trans hgq2 hgD2)
            go_wp2_with fail
            refine bodyPost_ret (v := .tuple #[.agg #[.slice (some ⟨ga, oa, none⟩) N cq1], .bool false]) (by simp [results, Try.results32, go_sem, zr]) rfl ?_
            rw [hN.out]
            exact ⟨.arr a r, by rw [hNh.out]; exact KPost.mk (gr_set (gr_trans hgf hgD2) (.inr hrle) _) (TreeV.apart (i := 0) (ht1h.out.grown0 hgD2) _), hlAh.out, fun k h => by cases h⟩
end Go.Proofs.Ytiaafacmfflfiaa
