/- PROVED: 'laws.FnExactPlayPart' returns true for every input, and leaves its input as it was. No conditions. -/
import Derived.Test.YtefkfloggicmoaaPlayPart2
import Derived.Test.YtefkfloggicmoaaRow
namespace Go.Proofs.Ytefkfloggicmoaa
open Go.RowKit

set_option maxHeartbeats 2000000 in
theorem FnExactPlayPart_walk (s : List UInt8) (p : Pl) (A : Option Addr) (cA : Nat) (B : Option Addr) (cB : Nat) (w : World) (_hr : (⟨⟨s⟩⟩ : ByteArray).size ≤ maxLen) (h : IsPlay w p A B) :
    Calls Try.prog 10 #[.string ⟨s.toArray⟩, .agg #[.slice A p.ms.length cA, .slice B p.ps.length cB]] w fun e w' => e = .returned (.bool true) ∧ w.grownBy w' none := by
  have hr2 : s.length ≤ maxLen := _hr
  unfold maxLen at hr2
  have hbx := Blk.new w 25 #[.slice A p.ms.length cA, .slice B p.ps.length cB]
  have hg0 := World.grownBy_alloc w (.cells #[.slice A p.ms.length cA, .slice B p.ps.length cB] 25) none
  by_cases hl : s.length > 1048576
  · go_enter Try.func10, Try.ntmps10
    go_wp2_with fail
    go_ret
    exact ⟨rfl, hg0⟩
  · have hS := Lib.hid (szPlay_any p A cA B cB _ (isPlay_grown h hg0))
    go_enter Try.func10, Try.ntmps10
    go_wp2_with fail
    refine hS.out.mono ?_
    rintro e w1 ⟨r, rfl, hsm, hg1⟩
    have hsmh := Lib.hid hsm
    clear hsm
    have hbk := Lib.hid (fun (W : World) (hW : (w.alloc (.cells #[.slice A p.ms.length cA, .slice B p.ps.length cB] 25)).grownBy W none) => show W.cell? ⟨w.heap.size, 0, none⟩ = some (.slice A p.ms.length cA) ∧ W.cell? ⟨w.heap.size, 1, none⟩ = some (.slice B p.ps.length cB) ∧ w.heap.size < W.heap.size from
      ⟨(hbx.grown0 hW).cell 0, (hbx.grown0 hW).cell 1, (hbx.grown0 hW).lt⟩)
    obtain ⟨d0, d1, dlt⟩ := hbk.out w1 hg1
    have hg01 := gr_trans hg0 hg1
    by_cases h0 : r < 0
    · go_wp2_with fail
      go_ret
      exact ⟨rfl, hg01⟩
    · have hsp := hsmh.out (by omega)
      have hspl := hsp.1.1
      have hspr := hsp.2
      have hsph := Lib.hid hsp
      have hT := Lib.hid (fun (W : World) (hW : w.grownBy W none) => toPlay_any p A cA B cB Al W (h.pls.grown0 hW) hspl hspr)
      have hV := Lib.hid (fun (W : World) (A2 : Option Addr) (a2 : Nat) (B2 : Option Addr) (b2 : Nat) (G : Nat → Prop) (hG : PlS W G p A2 B2) => playPart_any s p A2 a2 B2 b2 G W (by omega) hG hsph.out)
      have hVS := Lib.hid (fun (W : World) (A2 : Option Addr) (a2 : Nat) (B2 : Option Addr) (b2 : Nat) (G : Nat → Prop) (hG : PlS W G p A2 B2) => sPlayPart_any s p A2 a2 B2 b2 G W (by omega) hG hsph.out)
      unfold PartPost at hV hVS
      obtain ⟨hvl1, hvl2⟩ := partOf_length s p
      have ht : (visOf s p != visOf s p) = false := by simp
      clear hsp hsmh
      generalize partOf s p = V at *
      generalize visOf s p = x at *
      go_wp2_with fail
      refine (hT.out w1 hg01).mono ?_
      rintro e w2 ⟨A2, a2, B2, b2, rfl, hO2, hg2⟩
      go_wp2_with fail
      refine (hVS.out w2 A2 a2 B2 b2 _ hO2.sl).mono ?_
      rintro e w3 ⟨⟨AW, aW, BW, bW, rfl, hOW⟩, hg3⟩
      have hWb := Blk.new w3 28 #[.slice AW V.ms.length aW, .slice BW V.ps.length bW]
      have hgW := World.grownBy_alloc w3 (.cells #[.slice AW V.ms.length aW, .slice BW V.ps.length bW] 28) none
      have hg13 := gr_trans hg1 (gr_trans hg2 (gr_trans hg3 hgW))
      obtain ⟨e0, e1, elt⟩ := hbk.out _ hg13
      go_wp2_with fail
      refine (hT.out _ (gr_trans hg0 hg13)).mono ?_
      rintro e w4 ⟨A4, a4, B4, b4, rfl, hO4, hg4⟩
      have hX := Blk.new w4 28 #[.slice A4 p.ms.length a4, .slice B4 p.ps.length b4]
      have hgX := World.grownBy_alloc w4 (.cells #[.slice A4 p.ms.length a4, .slice B4 p.ps.length b4] 28) none
      have hO4X := hO4.keep hgX
      go_wp2_with fail
      refine (hV.out _ A4 a4 B4 b4 _ hO4X.sl).mono ?_
      rintro e w5 ⟨⟨AG, aG, BG, bG', rfl, hOG⟩, hg5⟩
      have hGb := Blk.new w5 28 #[.slice AG V.ms.length aG, .slice BG V.ps.length bG']
      have hgG := World.grownBy_alloc w5 (.cells #[.slice AG V.ms.length aG, .slice BG V.ps.length bG'] 28) none
      have hOGG := hOG.keep hgG
      have hg4G := gr_trans hg4 (gr_trans hgX (gr_trans hg5 hgG))
      have hOWG := (hOW.keep hgW).keep hg4G
      have hWbG := hWb.grown0 hg4G
      have wc0 := hWbG.cell 0
      have wc1 := hWbG.cell 1
      have wlt := hWbG.lt
      simp only [List.getElem?_toArray, List.getElem?_cons_zero, List.getElem?_cons_succ] at wc0 wc1
      have hEq := Lib.hid (eqPlay_any V V AG aG BG bG' AW aW BW bW _ _ _ hOGG.sl hOWG.sl (by omega) (by omega) (by omega) (by omega))
      go_wp2_with fail
      refine hEq.out.mono ?_
      rintro e w6 ⟨rfl, hg6⟩
      rw [plEq_self]
      have hX6 := hX.grown0 (gr_trans hg5 (gr_trans hgG hg6))
      have hG6b := hGb.grown0 hg6
      have hW6b := hWbG.grown0 hg6
      have hg16 := gr_trans hg13 (gr_trans hg4G hg6)
      have hX6i := (hO4.plIn).keep0 (gr_trans hgX (gr_trans hg5 (gr_trans hgG hg6)))
      have hG6i := (hOG.plIn).keep0 (gr_trans hgG hg6)
      have hW6i := (hOW.plIn).keep0 (gr_trans hgW (gr_trans hg4G hg6))
      have hgd : w6.grownBy w6.drew none := gr_drew (gr_refl _ _)
      have hkp := Lib.hid (fun (W : World) (hW : w6.grownBy W none) => show W.cell? ⟨w4.heap.size, 0, none⟩ = some (.slice A4 p.ms.length a4) ∧ W.cell? ⟨w4.heap.size, 1, none⟩ = some (.slice B4 p.ps.length b4) ∧ W.cell? ⟨w.heap.size, 0, none⟩ = some (.slice A p.ms.length cA) ∧ W.cell? ⟨w.heap.size, 1, none⟩ = some (.slice B p.ps.length cB) from
        ⟨(hX6.grown0 hW).cell 0, (hX6.grown0 hW).cell 1, (hbk.out W (gr_trans hg16 hW)).1, (hbk.out W (gr_trans hg16 hW)).2.1⟩)
      obtain ⟨x0, x1, f0, f1⟩ := hkp.out w6 (gr_refl _ _)
      have xlt := hX6.lt
      have flt := (hbk.out w6 hg16).2.2
      have hT6 := Lib.hid (hT.out w6.drew (gr_trans hg0 (gr_trans hg16 hgd)))
      go_wp2_with fail
      go_region_held3 (fun w' => w'.cell? ⟨w4.heap.size, 0, none⟩ = some (.slice A4 p.ms.length a4) ∧ w'.cell? ⟨w4.heap.size, 1, none⟩ = some (.slice B4 p.ps.length b4) ∧ w'.cell? ⟨w.heap.size, 0, none⟩ = some (.slice A p.ms.length cA) ∧ w'.cell? ⟨w.heap.size, 1, none⟩ = some (.slice B p.ps.length cB))
        (first | go_keep | exact hkp.out _ hg68 | exact hkp.out _ hg67)
        (first
          | (go_at_call 15; refine hT6.out.mono ?_; rintro e w7 ⟨A7, a7, B7, b7, rfl, hO7, hg7⟩; have hg67 := gr_trans hgd hg7; have hS7 := (hX6i.keep0 hg67).1.sl)
          | (go_at_call 17; refine (eqPlay_any p p _ _ _ _ _ _ _ _ _ _ _ hS7 hO7.sl hspl hspr hspl hspr).mono ?_; rintro e w8 ⟨rfl, hg8⟩; have hg68 := gr_trans hg67 hg8))
      rw [plEq_self]
      obtain ⟨y0, y1, _, _⟩ := hkp.out w8 hg68
      have hX8b := hX6.grown0 hg68
      have hG8b := hG6b.grown0 hg68
      have hW8b := hW6b.grown0 hg68
      have hX8 := hX6i.keep0 hg68
      have hG8 := hG6i.keep0 hg68
      have hW8 := hW6i.keep0 hg68
      have hg18 := gr_trans hg16 hg68
      have hxb := hX8.2
      have ylt := hX8b.lt
      have hMh := Lib.hid (markPlay_any _ _ _ a4 b4 1 A4 B4 _ _ w8 hX8.1.1 hX8.1.2 (by omega) (by omega) (by omega) (by omega))
      have hsW := hgW.size
      rw [World.size_alloc] at hsW
      go_wp2_with fail
      refine hMh.out.mono ?_
      rintro e w9 ⟨rfl, hA9, hB9, v1, v2, k1, k2, k3⟩
      have hs3 : w3.heap.size + 1 ≤ w4.heap.size := by have := hg4.size; rw [World.size_alloc] at this; exact this
      have hs4 : w4.heap.size + 1 ≤ w5.heap.size := by have := hg5.size; rw [World.size_alloc] at this; exact this
      have bX : ∀ g, (Value.slice A4 p.ms.length a4).ownBlock = some g → w3.heap.size + 1 ≤ g ∧ g < w4.heap.size := fun g hg => by have := hxb.1 g hg; rw [World.size_alloc] at this; exact this
      have bX2 : ∀ g, (Value.slice B4 p.ps.length b4).ownBlock = some g → w3.heap.size + 1 ≤ g ∧ g < w4.heap.size := fun g hg => by have := hxb.2 g hg; rw [World.size_alloc] at this; exact this
      have hG9 := ((hG8.keep0 k1).keep k2 (fun g e => by have := bX g e; rw [World.size_alloc]; omega)).keep k3 (fun g e => by have := bX2 g e; rw [World.size_alloc]; omega)
      have hW9 := ((hW8.keep0 k1).keep k2 (fun g e => by have := bX g e; omega)).keep k3 (fun g e => by have := bX2 g e; omega)
      have hG9b := blk_keep (blk_keep (hG8b.grown0 k1) k2 bX (by omega)) k3 bX2 (by omega)
      have hW9b := blk_keep (blk_keep (hW8b.grown0 k1) k2 bX (by omega)) k3 bX2 (by omega)
      have hws : w.heap.size + 1 ≤ w3.heap.size := by have := (gr_trans hg1 (gr_trans hg2 hg3)).size; rw [World.size_alloc] at this; exact this
      have hg19 : (w.alloc (.cells #[.slice A p.ms.length cA, .slice B p.ps.length cB] 25)).grownBy w9 none := by
        have g1 := gr_trans hg18 k1
        refine ⟨k3.os.trans (k2.os.trans g1.os), k3.tape.trans (k2.tape.trans g1.tape), k3.output.trans (k2.output.trans g1.output), Nat.le_trans g1.size (Nat.le_trans k2.size k3.size), fun i hi _ => ?_⟩
        rw [World.size_alloc] at hi
        have hi1 : i < v1.heap.size := Nat.lt_of_lt_of_le (by rw [World.size_alloc]; exact hi) g1.size
        rw [k3.block i (Nat.lt_of_lt_of_le hi1 k2.size) (fun e => by have := bX2 i e.symm; omega), k2.block i hi1 (fun e => by have := bX i e.symm; omega)]
        exact g1.block i (by rw [World.size_alloc]; exact hi) (by simp)
      have gc0 := hG9b.cell 0
      have gc1 := hG9b.cell 1
      have vc0 := hW9b.cell 0
      have vc1 := hW9b.cell 1
      simp only [List.getElem?_toArray, List.getElem?_cons_zero, List.getElem?_cons_succ] at gc0 gc1 vc0 vc1
      have glt := hG9b.lt
      have vlt := hW9b.lt
      have hEq9 := Lib.hid (eqPlay_any V V AG aG BG bG' AW aW BW bW _ _ w9 hG9.1.sl hW9.1.sl (by omega) (by omega) (by omega) (by omega))
      go_wp2_with fail
      refine hEq9.out.mono ?_
      rintro e w10 ⟨rfl, hg10⟩
      rw [plEq_self]
      have hG10b := hG9b.grown0 hg10
      have hW10b := hW9b.grown0 hg10
      have hG10 := hG9.keep0 hg10
      have hW10 := hW9.keep0 hg10
      have hg110 := gr_trans hg19 hg10
      have gd0 := hG10b.cell 0
      have gd1 := hG10b.cell 1
      simp only [List.getElem?_toArray, List.getElem?_cons_zero, List.getElem?_cons_succ] at gd0 gd1
      have glt2 := hG10b.lt
      have bG : ∀ g, (Value.slice AG V.ms.length aG).ownBlock = some g → w4.heap.size + 1 ≤ g ∧ g < w5.heap.size := fun g hg => by have := hG10.2.1 g hg; rw [World.size_alloc] at this; exact this
      have bG2 : ∀ g, (Value.slice BG V.ps.length bG').ownBlock = some g → w4.heap.size + 1 ≤ g ∧ g < w5.heap.size := fun g hg => by have := hG10.2.2 g hg; rw [World.size_alloc] at this; exact this
      have hMg := Lib.hid (markPlay_any _ _ _ aG bG' 1 AG BG _ _ w10 hG10.1.1 hG10.1.2 (by omega) (by omega) (by omega) (by omega))
      go_wp2_with fail
      refine hMg.out.mono ?_
      rintro e w11 ⟨rfl, hA11, hB11, t1, t2, j1, j2, j3⟩
      have hW11 := ((hW10.keep0 j1).keep j2 (fun g e => by have := bG g e; omega)).keep j3 (fun g e => by have := bG2 g e; omega)
      have hW11b := blk_keep (blk_keep (hW10b.grown0 j1) j2 bG (by omega)) j3 bG2 (by omega)
      have hG11b := blk_keep (blk_keep (hG10b.grown0 j1) j2 bG (by omega)) j3 bG2 (by omega)
      have hg111 : (w.alloc (.cells #[.slice A p.ms.length cA, .slice B p.ps.length cB] 25)).grownBy w11 none := by
        have g1 := gr_trans hg110 j1
        refine ⟨j3.os.trans (j2.os.trans g1.os), j3.tape.trans (j2.tape.trans g1.tape), j3.output.trans (j2.output.trans g1.output), Nat.le_trans g1.size (Nat.le_trans j2.size j3.size), fun i hi _ => ?_⟩
        rw [World.size_alloc] at hi
        have hi1 : i < t1.heap.size := Nat.lt_of_lt_of_le (by rw [World.size_alloc]; exact hi) g1.size
        rw [j3.block i (Nat.lt_of_lt_of_le hi1 j2.size) (fun e => by have := bG2 i e.symm; omega), j2.block i hi1 (fun e => by have := bG i e.symm; omega)]
        exact g1.block i (by rw [World.size_alloc]; exact hi) (by simp)
      have hSA := (own_sl hA11).1
      have hSB := (own_sli hB11).1
      rw [marks_length] at hSA
      rw [imarks_length] at hSB
      have gf0 := hG11b.cell 0
      have gf1 := hG11b.cell 1
      simp only [List.getElem?_toArray, List.getElem?_cons_zero, List.getElem?_cons_succ] at gf0 gf1
      have glt3 := hG11b.lt
      have hH := Lib.hid (fun (W : World) (hW : w11.grownBy W none) => heldPlay_any _ _ aG bG' 1 AG BG _ _ W (hSA.grown0 hW) (hSB.grown0 hW) (by omega) (by omega) (by omega) (by omega))
      go_wp2_with fail
      refine (hH.out w11 (gr_refl _ _)).mono ?_
      rintro e w12 ⟨rfl, hg12⟩
      have hg112 := gr_trans hg111 hg12
      obtain ⟨z0, z1, zlt⟩ := hbk.out w12 hg112
      go_wp2_with fail
      refine (hT.out w12 (gr_trans hg0 hg112)).mono ?_
      rintro e w13 ⟨AD, aD, BD, bD, rfl, hOD, hg13'⟩
      go_wp2_with fail
      refine (hV.out w13 AD aD BD bD _ hOD.sl).mono ?_
      rintro e w14 ⟨⟨AH, aH, BH, bH, rfl, hOH⟩, hg14⟩
      have hgH := World.grownBy_alloc w14 (.cells #[.slice AH V.ms.length aH, .slice BH V.ps.length bH] 28) none
      have hgt := gr_trans hg12 (gr_trans hg13' (gr_trans hg14 hgH))
      have hW14b := hW11b.grown0 hgt
      have hG14b := hG11b.grown0 hgt
      have h40 := hW14b.cell 0
      have h41 := hW14b.cell 1
      simp only [List.getElem?_toArray, List.getElem?_cons_zero, List.getElem?_cons_succ] at h40 h41
      have h4lt := hW14b.lt
      have hEq14 := Lib.hid (eqPlay_any V V AH aH BH bH AW aW BW bW _ _ _ (hOH.keep hgH).sl (hW11.keep0 hgt).1.sl (by omega) (by omega) (by omega) (by omega))
      go_wp2_with fail
      refine hEq14.out.mono ?_
      rintro e w15 ⟨rfl, hg15⟩
      rw [plEq_self]
      have hG15b := hG14b.grown0 hg15
      have h50 := hG15b.cell 0
      have h51 := hG15b.cell 1
      simp only [List.getElem?_toArray, List.getElem?_cons_zero, List.getElem?_cons_succ] at h50 h51
      have h5lt := hG15b.lt
      go_wp2_with fail
      refine (hH.out w15 (gr_trans hgt hg15)).mono ?_
      rintro e w16 ⟨rfl, hg16'⟩
      go_wp2_with fail
      go_ret
      exact ⟨rfl, gr_trans hg0 (gr_trans hg111 (gr_trans (gr_trans hgt hg15) hg16'))⟩

section
open Go.ChangeShapes Go.WideShapes Go.ChangeAt Go.RowKit
open Go.ChangeMaps (open_string shut_string)
set_option maxRecDepth 100000 in
theorem FnExactPlayPart_lifted (os : Os) (started : os.Started) (H : Type) (enc : TypeId × Value → H) :
    ReturnsInHanded {} Try.checked os 10 .any (Rows.fnExactPlayPartSpec.pre6 enc Try.prog Try.f10 Rows.fnExactPlayPartRow.domain false) (Rows.fnExactPlayPartSpec.post enc Try.prog Try.f10 false true false false) := by
  refine returnsInHanded_of_change (C := Try.checked) Try.own started (by kernel_rfl) Try.func10
    (ChangeSpec.witness6 (enc := enc) (C := Try.checked) false ⟨#[], #[.string ByteArray.empty, .agg #[.slice none 0 0, .slice none 0 0]], []⟩ 8 (by kernel_rfl) (by kernel_rfl) (by kernel_rfl) (by kernel_rfl)) ?_
  intro W base args ds gs before hval0 hW hcnd _
  have hval : ∀ (j : Nat) t v, Try.f10.params[j]? = some t → args[j]? = some v → Value.okWide Try.prog W .any base t v := hval0
  have hW' := hW
  obtain ⟨p, q, hA0, hV, rfl, hfz, hnd⟩ := hW
  have hA : DataW.TrodAll enc Try.prog W 0 (fun _ => true) true Try.f10.params.toList args.toList ds p := hA0
  rw [Try.params10] at hA hval
  obtain ⟨v0, vs0, d0, ds0, p0, q0, hargs, rfl, rfl, h0, r0⟩ := trodAll_cons hA
  obtain ⟨v1, vs1, d1, ds1, p1, q1, rfl, rfl, rfl, h1, r1⟩ := trodAll_cons r0
  obtain ⟨rfl, rfl, rfl⟩ := trodAll_nil r1
  obtain rfl : args = #[v0, v1] := by cases args; simp_all
  obtain ⟨rfl, rfl⟩ := trodVars_none hV
  obtain ⟨⟨⟨a0⟩⟩, rfl, rfl, rfl, w0⟩ := open_string Try.underlying9 (hval 0 9 v0 rfl rfl) h0
  have k1 := h1
  have lt1 : ∀ x ∈ p1, x.block < W.heap.size := by obtain ⟨m, hm⟩ := k1; exact DataW.trod_lt m _ _ _ hm
  obtain ⟨P1, A1, cA1, B1, cB1, rfl, w1⟩ := open_play (hval 1 25 v1 rfl rfl) h1
  clear hA0 hval0
  refine (FnExactPlayPart_walk a0 P1 A1 cA1 B1 cB1 W w0 w1).mono fun e W' ⟨he, hg⟩ => ?_
  subst he
  have bel := below_gr hg
  exact ⟨_, rfl, _, _, _, [], _, [], hW', trodAll_mk1 (shut_bool Try.underlying4 _), (trodAll_cons_mk (shut_string Try.underlying9 w0) (trodAll_cons_mk (Below.trod Try.laidOut (by kernel_rfl) (of_decide_eq_true (by kernel_rfl)) k1 bel lt1) trodAll_mk0)), rfl, bel.frame _, fun h => by cases h⟩
end

/-- The statement. -/
theorem FnExactPlayPart_holds : Rows.FnExactPlayPartSaid :=
  OpenClaim.holds_of_wide 10 Try.f10 rfl rfl rfl rfl rfl rfl rfl ⟨rfl, rfl, rfl, rfl, rfl⟩ rfl rfl rfl rfl rfl (by kernel_rfl) Try.func10 (by kernel_rfl)
    (of_decide_eq_true (by kernel_rfl)) (by unfold Func.isWrapper; first | (rw [if_pos (by decide +kernel)]; kernel_rfl) | (rw [if_neg (by decide +kernel)]; exact ⟨rfl, rfl⟩))
    (fun os started H enc _ => FnExactPlayPart_lifted os started H enc)
end Go.Proofs.Ytefkfloggicmoaa
