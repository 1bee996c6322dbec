/- The reference's types of terms: functions. -/
import Derived.Test.YtiaafacmfflfiaaSKindB
namespace Go.Proofs.Ytiaafacmfflfiaa
open Go.RowKit

/-- Ways that end alike are gone on with as one. -/
theorem mergeL {P : Program} {c : Code} {Q : Exit → Act → World → Prop} {a : Act} {w : World} {C : Nat → World → Ty → Option Addr → Nat → Option Addr → Nat → Option Addr → Nat → Prop} (Pf : Nat → World → Ty → Option Addr → Nat → Prop) (h1 : (∀ b w u A c B d B' d', Pf b w u A c → C b w u A c B d B' d') → Code.wp P c Q a w) (h2 : ∀ b w u A c B d B' d', Pf b w u A c → C b w u A c B d B' d') : Code.wp P c Q a w := h1 h2
theorem Ty.ok_sx (k : Ty) : k.sx.ok := by
  induction k with
  | b => exact ⟨by decide, by intro c hc; simp at hc; subst hc; decide⟩
  | arr a c iha ihc => exact ⟨ihc, iha, ⟨by decide, by intro c hc; simp at hc; subst hc; decide⟩, trivial⟩
theorem Ty.dep_sx (k : Ty) : k.sx.dep ≤ k.atoms + 1 := by
  induction k with
  | b => decide
  | arr a c iha ihc => simp only [Ty.sx, Sx.dep, Ty.atoms] at *; omega
set_option maxRecDepth 100000 in
set_option maxHeartbeats 4000000 in
theorem kind_lam (x : List UInt8) (k : Ty) (b : Tm) (ihb : KIH b) : KIH (.lam x k b) := by
  intro E An At A cn ct c F w hF hE hok hnm hsz hwf hsm hx
  have hp1 := hx.part (i := 1) (u := (Sx.lf x)) rfl
  obtain ⟨g, o, A1, c1, rfl, x1, y1, hx1⟩ := hp1
  have hp2 := hx.part (i := 2) (u := k.sx) rfl
  obtain ⟨g', o', A2, c2, e', x2, y2, hx2⟩ := hp2
  cases e'
  have hp3 := hx.part (i := 3) (u := b.sx) rfl
  obtain ⟨g', o', A3, c3, e', x3, y3, hx3⟩ := hp3
  cases e'
  have hln : (Tm.lam x k b).sx.parts.length = 4 := rfl
  have hat : (Tm.lam x k b).sx.atom = [] := rfl
  rw [hln, hat]
  have hHd := Lib.hid (fun W (hW : w.grownBy W none) => l5Head_any (Tm.lam x k b).sx _ c Al W (hx.grown0 hW) (by rw [hln]; omega))
  rw [hln] at hHd
  simp only [Tm.wf, Bool.and_eq_true] at hwf
  simp only [Tm.small, Bool.and_eq_true] at hsm
  simp only [Tm.atoms] at hsz
  have hhd : hdOf (Tm.lam x k b).sx = lamW := rfl
  rw [hhd] at hHd
  have hg0 := gr_alloc (gr_alloc (World.grownBy_alloc w (.cells #[.slice An E.length cn, .slice At E.length ct] 70) none) (.cells #[.string ⟨#[]⟩, .slice (some ⟨g, o, none⟩) 4 c] 37)) (.cells #[.slice none 0 0] 43)
  have hb := ((Blk.new w 70 #[.slice An E.length cn, .slice At E.length ct]).alloc (.cells #[.string ⟨#[]⟩, .slice (some ⟨g, o, none⟩) 4 c] 37)).alloc (.cells #[.slice none 0 0] 43)
  have hc := (Blk.new (w.alloc (.cells #[.slice An E.length cn, .slice At E.length ct] 70)) 37 #[.string ⟨#[]⟩, .slice (some ⟨g, o, none⟩) 4 c]).alloc (.cells #[.slice none 0 0] 43)
  have hr := Blk.new ((w.alloc (.cells #[.slice An E.length cn, .slice At E.length ct] 70)).alloc (.cells #[.string ⟨#[]⟩, .slice (some ⟨g, o, none⟩) 4 c] 37)) 43 #[.slice none 0 0]
  rw [World.size_alloc] at hc
  rw [World.size_alloc, World.size_alloc] at hr
  have hbk := Lib.hid (fun (W : World) (hW : (((w.alloc (.cells #[.slice An E.length cn, .slice At E.length ct] 70)).alloc (.cells #[.string ⟨#[]⟩, .slice (some ⟨g, o, none⟩) 4 c] 37)).alloc (.cells #[.slice none 0 0] 43)).grownBy W none) =>
    (⟨⟨(hb.grown0 hW).cell 0, (hb.grown0 hW).cell 1, (hb.grown0 hW).lt, (hc.grown0 hW).cell 0, (hc.grown0 hW).cell 1, (hc.grown0 hW).lt, (hr.grown0 hW).cell 0, (hr.grown0 hW).free 0, (hr.grown0 hW).lt⟩, cell_grown x1 (gr_trans hg0 hW), cell_grown y1 (gr_trans hg0 hW), cell_grown x2 (gr_trans hg0 hW), cell_grown y2 (gr_trans hg0 hW), cell_grown x3 (gr_trans hg0 hW), cell_grown y3 (gr_trans hg0 hW)⟩ :
      (W.cell? ⟨w.heap.size, 0, none⟩ = some (.slice An E.length cn) ∧ W.cell? ⟨w.heap.size, 1, none⟩ = some (.slice At E.length ct) ∧ w.heap.size < W.heap.size ∧ W.cell? ⟨w.heap.size + 1, 0, none⟩ = some (.string ⟨#[]⟩) ∧ W.cell? ⟨w.heap.size + 1, 1, none⟩ = some (.slice (some ⟨g, o, none⟩) 4 c) ∧ w.heap.size + 1 < W.heap.size ∧
      W.cell? ⟨w.heap.size + 1 + 1, 0, none⟩ = some (.slice none 0 0) ∧ W.frozen? ⟨w.heap.size + 1 + 1, 0, none⟩ = false ∧ w.heap.size + 1 + 1 < W.heap.size) ∧
      W.cell? ⟨g, o + 2 * 1, none⟩ = some (.string ⟨x.toArray⟩) ∧ W.cell? ⟨g, o + 2 * 1 + 1, none⟩ = some (.slice A1 0 c1) ∧ W.cell? ⟨g, o + 2 * 2, none⟩ = some (.string ⟨k.sx.atom.toArray⟩) ∧ W.cell? ⟨g, o + 2 * 2 + 1, none⟩ = some (.slice A2 k.sx.parts.length c2) ∧ W.cell? ⟨g, o + 2 * 3, none⟩ = some (.string ⟨b.sx.atom.toArray⟩) ∧ W.cell? ⟨g, o + 2 * 3 + 1, none⟩ = some (.slice A3 b.sx.parts.length c3)))
  have hg0h := Lib.hid hg0
  have h15 : k.atoms ≤ 15 := by simpa using hsm.1
  have hdk := k.dep_sx
  have hlk := k.length_text
  have hT2 := Lib.hid (fun W (hW : w.grownBy W none) => l5Text_any 1000 k.sx A2 c2 Al W (by omega) k.ok_sx (by rw [Ty.text_sx]; omega) (hx2.grown0 hW))
  rw [Ty.text_sx] at hT2
  have hTy := Lib.hid (fun W => l1Type_any k.text W (by omega))
  have hRd := Lib.hid (Ty.read_text h15)
  have hEm := Lib.hid (fun W (hW : (((w.alloc (.cells #[.slice An E.length cn, .slice At E.length ct] 70)).alloc (.cells #[.string ⟨#[]⟩, .slice (some ⟨g, o, none⟩) 4 c] 37)).alloc (.cells #[.slice none 0 0] 43)).grownBy W none) => ((hE.apart (w.heap.size + 1 + 1) (by omega)).grown0 (gr_trans hg0 hW)))
  have hIb := Lib.hid (fun W (hW : (((w.alloc (.cells #[.slice An E.length cn, .slice At E.length ct] 70)).alloc (.cells #[.string ⟨#[]⟩, .slice (some ⟨g, o, none⟩) 4 c] 37)).alloc (.cells #[.slice none 0 0] 43)).grownBy W none) An' At' cn' ct' G (hG : ∀ b, W.heap.size ≤ b → G b) (hEW : EnvS W G An' At' ((x, k) :: E)) => ihb ((x, k) :: E) An' At' A3 cn' ct' c3 G W hG hEW
    (by intro p hp; rcases List.mem_cons.1 hp with rfl | hp; exact h15; exact hok p hp) (by intro p hp; rcases List.mem_cons.1 hp with rfl | hp; exact hwf.1; exact hnm p hp) (by simp only [List.length_cons]; omega) hwf.2 hsm.2 (hx3.grown0 (gr_trans hg0 hW)))
  have hrf := gr_refl (((w.alloc (.cells #[.slice An E.length cn, .slice At E.length ct] 70)).alloc (.cells #[.string ⟨#[]⟩, .slice (some ⟨g, o, none⟩) 4 c] 37)).alloc (.cells #[.slice none 0 0] 43)) none
  obtain ⟨⟨z0, z1, zl, zx, zp, zl2, zr, zf, zl3⟩, _⟩ := hbk.out _ hrf
  have hH0 := Lib.hid (hHd.out _ hg0)
  have hkp := Lib.hid (fun W hW => And.intro (hbk.out W hW).1.1 (And.intro (hbk.out W hW).1.2.1 (hbk.out W hW).2))
  clear x1 y1 hx1 x2 y2 hx2 x3 y3 hx3 hx hb hc hr hE ihb hg0 hHd hat hhd
  go_enter Try.func32, Try.ntmps32
  go_wp2_with fail
  refine hH0.out.mono ?_
  rintro e w1 ⟨rfl, hg1⟩
  clear z0 z1 zl zx zp zl2 zr zf zl3
  obtain ⟨⟨z0, z1, zl, zx, zp, zl2, zr, zf, zl3⟩, _⟩ := hbk.out _ hg1
  go_wp2_with fail
  clear z0 z1 zl zx zp zl2 zr zf zl3
  have hAL : (((w.alloc (.cells #[.slice An E.length cn, .slice At E.length ct] 70)).alloc (.cells #[.string ⟨#[]⟩, .slice (some ⟨g, o, none⟩) 4 c] 37)).alloc (.cells #[.slice none 0 0] 43)).heap.size = w.heap.size + 3 := by simp
  generalize hALg : ((w.alloc (.cells #[.slice An E.length cn, .slice At E.length ct] 70)).alloc (.cells #[.string ⟨#[]⟩, .slice (some ⟨g, o, none⟩) 4 c] 37)).alloc (.cells #[.slice none 0 0] 43) = WW at *
  clear hALg
  refine (hT2.out _ (gr_trans hg0h.out hg1)).mono ?_
  rintro e w2 ⟨rfl, hg2⟩
  go_wp2_with fail
  refine (hTy.out _).mono ?_
  rintro e w3 ⟨hg3, hm⟩
  rw [hRd.out] at hm
  obtain ⟨Ak, ck, rfl, htk⟩ := hm
  have hg13 := gr_trans hg1 (gr_trans hg2 hg3)
  obtain ⟨⟨z0, z1, zl, zx, zp, zl2, zr, zf, zl3⟩, q0, q1, _, _, q4, q5⟩ := hbk.out _ hg13
  have hga := gr_alloc hg13 (.cells #[.slice Ak k.args.length ck] 43)
  have hba := Blk.new w3 43 #[.slice Ak k.args.length ck]
  have hs2 := (gr_trans hg1 hg2).size
  have hG0 : ∀ b, w.heap.size + 3 ≤ b → F b ∧ b ≠ w.heap.size + 1 + 1 := fun b hb => ⟨hF b (by omega), by omega⟩
  have hta := (htk.mono (fun b hb _ => hG0 b (Nat.le_trans (by omega) hb))).grown0 (World.grownBy_alloc w3 (.cells #[.slice Ak k.args.length ck] 43) none)
  go_wp2_with fail
  generalize w3.alloc (.cells #[.slice Ak k.args.length ck] 43) = wa at *
  generalize w3.heap.size = ba at *
  clear z0 z1 zl zx zp zl2 zr zf zl3 q0 q1 q4 q5 hg1 hg2 hg3 hg13 htk hs2 hT2 hTy hRd
  have hEa := hEm.out _ hga
  have hsa := hga.size
  have hWith := Lib.hid (fun W (hW : wa.grownBy W none) y (hy1 : ∀ b, (F b ∧ b ≠ w.heap.size + 1 + 1) → b < wa.heap.size → b ≠ y) (hyl : y < W.heap.size) => l5With_any E x k An At Ak cn ct ck (fun b => (F b ∧ b ≠ w.heap.size + 1 + 1) ∧ b ≠ y) W
    (fun b hb' => ⟨hG0 b (by have := hW.size; omega), by omega⟩) ((hEa.mono (fun b hb hl => ⟨hb, hy1 b hb hl⟩)).grown0 hW) ((hta.mono (fun b hb hl => ⟨hb, hy1 b hb hl⟩)).grown0 hW) (by omega))
  have hkL := Lib.hid (fun W (hW : wa.grownBy W none) => And.intro (hbk.out W (gr_trans hga hW)).1.1 (And.intro (hbk.out W (gr_trans hga hW)).1.2.1 (And.intro ((hba.grown0 hW).cell 0) (hbk.out W (gr_trans hga hW)).2)))
  have hrl := (hbk.out _ hga).1.2.2.2.2.2.2.2.2
  have hgd := gr_drew (gr_refl wa none)
  have hbal := hba.lt
  apply mergeL (fun bq wq u A c => wa.grownBy wq none ∧ Blk wq bq 43 #[.slice A (Ty.args u).length c] ∧ TreeV wq (fun b => F b ∧ b ≠ w.heap.size + 1 + 1) (.slice A (Ty.args u).length c) u ∧ w.heap.size + 3 ≤ bq ∧ u.args.length ≤ 15 + b.atoms ∧ ∀ t, b.ty ((x, k) :: E) = some t → u = t)
  · intro cont
    go_region_held3 (fun W => W.cell? ⟨w.heap.size, 0, none⟩ = some (.slice An E.length cn) ∧ W.cell? ⟨w.heap.size, 1, none⟩ = some (.slice At E.length ct) ∧ W.cell? ⟨ba, 0, none⟩ = some (.slice Ak k.args.length ck) ∧ W.cell? ⟨g, o + 2 * 1, none⟩ = some (.string ⟨x.toArray⟩) ∧ W.cell? ⟨g, o + 2 * 1 + 1, none⟩ = some (.slice A1 0 c1) ∧ W.cell? ⟨g, o + 2 * 2, none⟩ = some (.string ⟨k.sx.atom.toArray⟩) ∧ W.cell? ⟨g, o + 2 * 2 + 1, none⟩ = some (.slice A2 k.sx.parts.length c2) ∧ W.cell? ⟨g, o + 2 * 3, none⟩ = some (.string ⟨b.sx.atom.toArray⟩) ∧ W.cell? ⟨g, o + 2 * 3 + 1, none⟩ = some (.slice A3 b.sx.parts.length c3))
      (first | exact hkL.out _ hgd | exact hkL.out _ (gr_alloc hgd _) | exact hkL.out _ hg4 | exact hkL.out _ (gr_alloc hg4 _) | exact hkL.out _ hg5 | exact hkL.out _ (gr_alloc hg5 _) | exact hkL.out _ (gr_set hg5 (.inr (Nat.le_refl _)) _) | exact hkL.out _ (gr_set hg5 (.inr hg4.size) _))
      (first
        | (go_at_call 32; refine (hIb.out w4 (gr_trans hga hg4) An' At' cn' ct' _ hG4 hE4).mono ?_; rintro e w5 ⟨u, ⟨hg45, Aq, cq, rfl, htm⟩, hl, he⟩; have hg5 := gr_trans hg4 hg45; try (have hbx := hby.grown0 hg45; have b0 := hbx.cell 0; have b1 := hbx.free 0; have b2 := hbx.lt; simp only [List.getElem?_toArray, List.getElem?_cons_zero] at b0))
        | (go_at_call 32; refine (hIb.out _ (gr_alloc (gr_trans hga hg4) _) An' At' cn' ct' (fun b => (F b ∧ b ≠ w.heap.size + 1 + 1) ∧ b ≠ w4.heap.size) (fun b hb' => ⟨hG0 b (by have := (gr_alloc hg4 (.cells #[.slice none 0 0] 43)).size; omega), by rw [World.size_alloc] at hb'; omega⟩) ((hE4.mono (fun b hb hl => ⟨hb.1, by omega⟩)).grown0 (World.grownBy_alloc w4 (.cells #[.slice none 0 0] 43) none))).mono ?_; rintro e w5 ⟨u, ⟨hg45, Aq, cq, rfl, htm⟩, hl, he⟩; have hg5 := gr_trans (gr_alloc hg4 (.cells #[.slice none 0 0] 43)) hg45; have hbx := (Blk.new w4 43 #[.slice none 0 0]).grown0 hg45; have b0 := hbx.cell 0; have b1 := hbx.free 0; have b2 := hbx.lt; simp only [List.getElem?_toArray, List.getElem?_cons_zero] at b0)
        | (go_at_call 47; refine (hWith.out _ hgd (w.heap.size + 1 + 1) (fun b hb _ => hb.2) hrl).mono ?_; rintro e w4 ⟨An', cn', At', ct', rfl, hE4, hg34⟩; have hg4 := gr_trans hgd hg34; have hG4 : ∀ b, w4.heap.size ≤ b → (F b ∧ b ≠ w.heap.size + 1 + 1) ∧ b ≠ w.heap.size + 1 + 1 := fun b hb => ⟨hG0 b (by have := hg4.size; omega), by have := hg4.size; omega⟩)
        | (go_at_call 47; refine (hWith.out _ (gr_alloc hgd _) wa.heap.size (fun b _ hl => by omega) (by rw [World.size_alloc]; exact Nat.lt_succ_self _)).mono ?_; rintro e w4 ⟨An', cn', At', ct', rfl, hE4, hg34⟩; have hg4 := gr_trans (gr_alloc hgd _) hg34; have hby : Blk w4 wa.heap.size 43 #[.slice none 0 0] := (Blk.new wa.drew 43 #[.slice none 0 0]).grown0 hg34; have hG4 : ∀ b, w4.heap.size ≤ b → (F b ∧ b ≠ w.heap.size + 1 + 1) ∧ b ≠ wa.heap.size := fun b hb => ⟨hG0 b (by have := hg4.size; omega), by have := hby.lt; omega⟩))
    all_goals first
      | (have hgq := gr_set hg5 (p := ⟨wa.heap.size, 0, none⟩) (.inr (Nat.le_refl _)) (.slice Aq (Ty.args u).length cq)
         have hbq : Blk (w5.setCell ⟨wa.heap.size, 0, none⟩ (.slice Aq (Ty.args u).length cq)) wa.heap.size 43 #[.slice Aq (Ty.args u).length cq] := by simpa using hbx.set 0 (.slice Aq (Ty.args u).length cq)
         have htq : TreeV (w5.setCell ⟨wa.heap.size, 0, none⟩ (.slice Aq (Ty.args u).length cq)) (fun b => F b ∧ b ≠ w.heap.size + 1 + 1) (.slice Aq (Ty.args u).length cq) u := TreeV.apart (i := 0) htm _
         have hle : w.heap.size + 3 ≤ wa.heap.size := by omega
         clear b0 b1 b2 hbx hby hbal hsa hWith
         generalize w5.setCell ⟨wa.heap.size, 0, none⟩ (.slice Aq (Ty.args u).length cq) = wq at *
         generalize wa.heap.size = bq at *
         exact cont bq wq u Aq cq An' cn' At' ct' ⟨hgq, hbq, htq, hle, hl, he⟩)
      | (have hgq := gr_set hg5 (p := ⟨w4.heap.size, 0, none⟩) (.inr hg4.size) (.slice Aq (Ty.args u).length cq)
         have hbq : Blk (w5.setCell ⟨w4.heap.size, 0, none⟩ (.slice Aq (Ty.args u).length cq)) w4.heap.size 43 #[.slice Aq (Ty.args u).length cq] := by simpa using hbx.set 0 (.slice Aq (Ty.args u).length cq)
         have htq : TreeV (w5.setCell ⟨w4.heap.size, 0, none⟩ (.slice Aq (Ty.args u).length cq)) (fun b => F b ∧ b ≠ w.heap.size + 1 + 1) (.slice Aq (Ty.args u).length cq) u := TreeV.apart (i := 0) htm _
         have hle : w.heap.size + 3 ≤ w4.heap.size := by have := hg4.size; omega
         clear b0 b1 b2 hbx hG4
         generalize w5.setCell ⟨w4.heap.size, 0, none⟩ (.slice Aq (Ty.args u).length cq) = wq at *
         generalize w4.heap.size = bq at *
         exact cont bq wq u Aq cq An' cn' At' ct' ⟨hgq, hbq, htq, hle, hl, he⟩)
      | (have hgq := gr_alloc hg5 (.cells #[.slice Aq (Ty.args u).length cq] 43)
         have hbq := Blk.new w5 43 #[.slice Aq (Ty.args u).length cq]
         have htq := (htm.mono (fun _ hb _ => hb.1)).grown0 (World.grownBy_alloc w5 (.cells #[.slice Aq (Ty.args u).length cq] 43) none)
         have hle : w.heap.size + 3 ≤ w5.heap.size := by have := hg5.size; omega
         generalize w5.alloc (.cells #[.slice Aq (Ty.args u).length cq] 43) = wq at *
         generalize w5.heap.size = bq at *
         exact cont bq wq u Aq cq An' cn' At' ct' ⟨hgq, hbq, htq, hle, hl, he⟩)
  · rintro bq wq u Aq cq _ _ _ _ ⟨hgq, hbq, htq, hbn, hl, he⟩
    have m0 := (hba.grown0 hgq).cell 0
    have n0 := hbq.cell 0
    simp only [List.getElem?_toArray, List.getElem?_cons_zero] at m0 n0
    have m1 := (hba.grown0 hgq).lt
    have n1 := hbq.lt
    have hgx := gr_trans hga hgq
    have hgf := gr_trans hg0h.out hgx
    have htqh := Lib.hid htq
    obtain ⟨_, _, vs, hv, hS, hch⟩ := htq.open_
    injection hv with hv1 _ hv3
    subst hv1 hv3
    have hchh := Lib.hid hch
    have hone := Lib.hid (show ∀ q, q < u.args.length → (vs q).oneCell' = true by
      intro q hq
      obtain ⟨Aq', cq', vq, e, _⟩ := (hch q u.args[q] (List.getElem?_eq_getElem hq)).open_
      rw [e]
      rfl)
    have hown : (wq.alloc (.cells #[.slice Ak k.args.length ck] 43)).ownsRow wq.heap.size 43 1 (.slice (some ⟨wq.heap.size, 0, none⟩) 1 1) 1 [.slice Ak k.args.length ck] :=
      ⟨rfl, .inr ⟨wq.heap.size, 1, #[.slice Ak k.args.length ck], rfl, Nat.le_refl _, heap_alloc_new _ _, Nat.le_refl _, by unfold maxLen; omega, rfl, rfl⟩⟩
    have hgn := World.grownBy_alloc wq (.cells #[.slice Ak k.args.length ck] 43) none
    have hSn := Lib.hid (hS.grown0 hgn)
    have hownh := Lib.hid hown
    obtain ⟨⟨z0, z1, zl, zx, zp, zl2, zr, zf, zl3⟩, _⟩ := hbk.out _ hgx
    clear hch hS hown htq
    go_wp2_with (at_builtin; refine wpList_app rfl _ _ 41 rfl wq.heap.size 43 (.agg #[.slice none 0 0]) 24 Try.underlying41 info_tree1 rfl _ 1 1 _ rfl hownh.out Aq u.args.length cq _ rfl _ hSn.out hone.out (by unfold maxLen; omega) (by omega) (by simp) ?_; intro A' cap w6 hown6 hg6 hat6)
    have hgq6 : wq.grownBy w6 none := gr_trans_new (g := wq.heap.size) hgn hg6 (Nat.le_refl _)
    have hszq := hgx.size
    have hT := treeV_arr (F := fun b => F b ∧ b ≠ w.heap.size + 1 + 1) hown6 (fun b hb => hG0 b (by omega)) (hta.grown0 (gr_trans hgq hgq6)) (fun i t h => (hchh.out i t h).grown0 hgq6)
    have hgz := gr_alloc hgq6 (.cells #[.slice A' (1 + u.args.length) cap] 43)
    have hbz := Blk.new w6 43 #[.slice A' (1 + u.args.length) cap]
    have hTz := hT.grown0 (World.grownBy_alloc w6 (.cells #[.slice A' (1 + u.args.length) cap] 43) none)
    have hnn : (Ty.arr k u).args.length = 1 + u.args.length := by simp [Ty.args]; omega
    rw [hnn] at hTz
    have hlA : 1 + u.args.length ≤ 15 + (Tm.lam x k b).atoms := by simp only [Tm.atoms]; omega
    have hbo : w6.heap.size ≠ w.heap.size + 1 + 1 := by have := hgq6.size; omega
    have hrle : w.heap.size ≤ w.heap.size + 1 + 1 := by omega
    have hty := Lib.hid (show (Tm.lam x k b).ty E = tyLam k (b.ty ((x, k) :: E)) from if_pos h15)
    clear hown6 hg6 hat6 hT hownh hSn hone hchh hgn m0 n0 m1 n1 hbq hba htqh z0 z1 zl zx zp zl2 zr zf zl3
    generalize w6.alloc (.cells #[.slice A' (1 + u.args.length) cap] 43) = wz at *
    generalize w6.heap.size = bo at *
    generalize 1 + u.args.length = N at *
    have hnnh := Lib.hid hnn
    obtain ⟨⟨z0, z1, zl, zx, zp, zl2, zr, zf, zl3⟩, _⟩ := hbk.out _ (gr_trans hgx hgz)
    have hgfz := gr_trans hgf hgz
    have b0 := hbz.cell 0
    simp only [List.getElem?_toArray, List.getElem?_cons_zero] at b0
    have b1 := hbz.lt
    have hkz := Lib.hid (fun W (hW : wz.grownBy W none) => (show W.cell? ⟨bo, 0, none⟩ = some (.slice A' N cap) from (hbz.grown0 hW).cell 0))
    have hkr := Lib.hid (fun W (hW : wz.grownBy W none) v => (show (W.setCell ⟨w.heap.size + 1 + 1, 0, none⟩ v).cell? ⟨bo, 0, none⟩ = some (.slice A' N cap) from ((hbz.grown0 hW).other (p := ⟨w.heap.size + 1 + 1, 0, none⟩) hbo v).cell 0))
    have hgD := gr_drew (gr_refl wz none)
    have hbkh := hbk
    clear hbk hnn
    cases hu : b.ty ((x, k) :: E) with
    | none =>
      rw [hu] at hty
      have hN := Lib.hid (show (Tm.lam x k b).ty E = none from hty.out)
      clear hu he hty
      have hSD := hkz.out _ hgD
      refine wp_region_held (S := (fun w' => w'.cell? ⟨bo, 0, none⟩ = some (.slice A' N cap))) (by kernel_rfl) ?_
      refine wpAnyH_take (i := 0) (v := .agg #[.slice A' N cap]) rfl (by kernel_rfl) (by kernel_rfl) (by kernel_rfl) (fun _ _ _ h => h) (Or.inl ⟨by rfl, ?_⟩) hSD ?_
      · intro w' hS'
        go_simp
      try simp only [List.getElem_toArray, List.getElem_cons_zero, Act.put, List.setIfInBounds_toArray, List.set_cons_zero, List.set_cons_succ]
      refine wpAnyH_take (i := 1) (v := .bool false) rfl (by kernel_rfl) (by kernel_rfl) (by kernel_rfl) (fun _ _ _ h => h) (Or.inl ⟨by rfl, ?_⟩) hSD ?_
      · intro w' hS'
        go_simp
      try simp only [List.getElem_toArray, List.getElem_cons_succ, List.getElem_cons_zero, Act.put, List.setIfInBounds_toArray, List.set_cons_zero, List.set_cons_succ]
      refine wpAnyH_take (i := 2) (v := .bool false) rfl (by kernel_rfl) (by kernel_rfl) (by kernel_rfl) (fun _ _ _ h => h) (Or.inl ⟨by rfl, ?_⟩) hSD ?_
      · intro w' hS'
        go_simp
      try simp only [List.getElem_toArray, List.getElem_cons_succ, List.getElem_cons_zero, Act.put, List.setIfInBounds_toArray, List.set_cons_zero, List.set_cons_succ]
      refine wpAnyH_take (i := 3) (v := undef) rfl (by kernel_rfl) (by kernel_rfl) (by kernel_rfl) (fun _ _ _ h => h) (Or.inr ⟨by rfl, rfl⟩) hSD ?_
      try simp only [List.getElem_toArray, List.getElem_cons_succ, List.getElem_cons_zero, Act.put, List.setIfInBounds_toArray, List.set_cons_zero, List.set_cons_succ]
      refine wpAnyH_take (i := 4) (v := undef) rfl (by kernel_rfl) (by kernel_rfl) (by kernel_rfl) (fun _ _ _ h => h) (Or.inr ⟨by rfl, rfl⟩) hSD ?_
      try simp only [List.getElem_toArray, List.getElem_cons_succ, List.getElem_cons_zero, Act.put, List.setIfInBounds_toArray, List.set_cons_zero, List.set_cons_succ]
      refine wpAnyH_take (i := 5) (v := undef) rfl (by kernel_rfl) (by kernel_rfl) (by kernel_rfl) (fun _ _ _ h => h) (Or.inr ⟨by rfl, rfl⟩) hSD ?_
      try simp only [List.getElem_toArray, List.getElem_cons_succ, List.getElem_cons_zero, Act.put, List.setIfInBounds_toArray, List.set_cons_zero, List.set_cons_succ]
      refine wpAnyH_take (i := 6) (v := .bool false) rfl (by kernel_rfl) (by kernel_rfl) (by kernel_rfl) (fun _ _ _ h => h) (Or.inl ⟨by rfl, ?_⟩) hSD ?_
      · intro w' hS'
        go_simp
      try simp only [List.getElem_toArray, List.getElem_cons_succ, List.getElem_cons_zero, Act.put, List.setIfInBounds_toArray, List.set_cons_zero, List.set_cons_succ]
      refine wpAnyH_ready (rs := [7]) (by kernel_rfl) (by simp) ?_
      refine AllReadyH.cons rfl (fun K hK => ?_) AllReadyH.nil
      simp only [List.getElem_toArray, List.getElem_cons_succ, List.getElem_cons_zero]
      rw [if_pos (by rfl)]
      go_simp
      refine hK.out _ _ (hkr.out _ hgD _) (fun hHeld => ?_)
      clear hK K
      refine wpAnyH_take (i := 8) (v := .bool false) rfl (by kernel_rfl) (by kernel_rfl) (by kernel_rfl) (fun _ _ _ h => h) (Or.inl ⟨by rfl, ?_⟩) hHeld ?_
      · intro w' hS'
        go_simp
      try simp only [List.getElem_toArray, List.getElem_cons_succ, List.getElem_cons_zero, Act.put, List.setIfInBounds_toArray, List.set_cons_zero, List.set_cons_succ]
      refine wpAnyH_done (by kernel_rfl) ?_ _
      go_wp2_with fail
      refine bodyPost_ret (v := .tuple #[.agg #[.slice A' N cap], .bool false]) (by simp [results, Try.results32, go_sem, zr]) rfl ?_
      rw [hN.out]
      first
        | exact ⟨.arr k u, ⟨gr_set (gr_drew hgfz) (.inr hrle) _, A', cap, by rw [hnnh.out]; rfl, by rw [hnnh.out]; exact TreeV.apart (i := 0) (hTz.grown0 (gr_drew (gr_refl _ none))) _⟩, by rw [hnnh.out]; exact hlA, fun t h => by cases h⟩
        | exact ⟨.arr k u, ⟨gr_drew (gr_set hgfz (.inr hrle) _), A', cap, by rw [hnnh.out]; rfl, by rw [hnnh.out]; exact (TreeV.apart (i := 0) hTz _).grown0 (gr_drew (gr_refl _ none))⟩, by rw [hnnh.out]; exact hlA, fun t h => by cases h⟩
    | some t =>
      obtain rfl := he _ hu
      rw [hu] at hty
      have hu15 := b.ty_le ((x, k) :: E) _ (by intro p hp; rcases List.mem_cons.1 hp with rfl | hp; exact h15; exact hok p hp) hu
      have hSz := Lib.hid (fun W (hW : wz.grownBy W none) => l1Size_any (Ty.arr k u).atoms (Ty.arr k u) A' cap _ W (Nat.le_refl _) (by simp only [Ty.atoms]; omega) (by rw [hnnh.out]; exact hTz.grown0 hW))
      rw [hnnh.out] at hSz
      have hRes := Lib.hid (show (Tm.lam x k b).ty E = if (Ty.arr k u).atoms ≤ 15 then some (.arr k u) else none from hty.out)
      have hTzh := Lib.hid hTz
      clear hu he hty hTz hok hnm hF hsz h15 hu15 hlk hdk
      generalize (Ty.arr k u).atoms = na at *
      go_region_held3 (fun w' => w'.cell? ⟨bo, 0, none⟩ = some (.slice A' N cap))
        (first | exact hkr.out _ (gr_trans hgD hg8) _ | exact hkz.out _ (gr_trans hgD hg8) | exact hkz.out _ hgD)
        (first
          | (go_at_call 48; refine (hSz.out _ hgD).mono ?_; rintro e w8 ⟨rfl, hg8⟩; clear z0 z1 zl zx zp zl2 zr zf zl3; obtain ⟨⟨z0, z1, zl, zx, zp, zl2, zr, zf, zl3⟩, _⟩ := hbkh.out _ (gr_trans (gr_trans hgx hgz) (gr_trans hgD hg8))))
      go_wp2_with fail
      refine bodyPost_ret (v := .tuple #[.agg #[.slice A' N cap], .bool (decide ((na : Int) ≤ 15))]) (by simp [results, Try.results32, go_sem, zr]) rfl ?_
      have hI : ((Tm.lam x k b).ty E).isSome = decide ((na : Int) ≤ 15) := by
        rw [hRes.out]
        by_cases h : na ≤ 15
        · rw [if_pos h, decide_eq_true (by omega : (na : Int) ≤ 15)]; rfl
        · rw [if_neg h, decide_eq_false (by omega : ¬ (na : Int) ≤ 15)]; rfl
      exact ⟨.arr k u, ⟨gr_set (gr_trans hgfz (gr_trans hgD hg8)) (.inr hrle) _, A', cap, by rw [hnnh.out, hI], by rw [hnnh.out]; exact TreeV.apart (i := 0) (hTzh.out.grown0 (gr_trans hgD hg8)) _⟩, by rw [hnnh.out]; exact hlA, fun t h => by
        rw [hRes.out] at h
        split at h
        · cases h; rfl
        · cases h⟩
end Go.Proofs.Ytiaafacmfflfiaa
