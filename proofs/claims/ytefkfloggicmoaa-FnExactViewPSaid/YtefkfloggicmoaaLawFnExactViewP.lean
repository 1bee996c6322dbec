/- PROVED: 'laws.FnExactViewP' returns true for every input, and leaves its input as it was. No conditions. -/
import Derived.Test.YtefkfloggicmoaaPlayApi
import Derived.Test.YtefkfloggicmoaaPlayMem
import Derived.Test.YtefkfloggicmoaaRow
namespace Go.Proofs.Ytefkfloggicmoaa
open Go.RowKit

set_option maxHeartbeats 2000000 in
theorem FnExactViewP_walk (s : List UInt8) (p : Pl) (A : Option Addr) (cA : Nat) (B : Option Addr) (cB : Nat) (w : World) (_hr : (⟨⟨s⟩⟩ : ByteArray).size ≤ maxLen) (h : IsPlay w p A B) :
    Calls Try.prog 8 #[.string ⟨s.toArray⟩, .agg #[.slice A p.ms.length cA, .slice B p.ps.length cB]] w fun e w' => e = .returned (.bool true) ∧ w.grownBy w' none := by
  have hr2 : s.length ≤ maxLen := _hr
  unfold maxLen at hr2
  have hbx := Blk.new w 25 #[.slice A p.ms.length cA, .slice B p.ps.length cB]
  have hg0 := World.grownBy_alloc w (.cells #[.slice A p.ms.length cA, .slice B p.ps.length cB] 25) none
  by_cases hl : s.length > 1048576
  · go_enter Try.func8, Try.ntmps8
    go_wp2_with fail
    go_ret
    exact ⟨rfl, hg0⟩
  · have hS := Lib.hid (szPlay_any p A cA B cB _ (isPlay_grown h hg0))
    go_enter Try.func8, Try.ntmps8
    go_wp2_with fail
    refine hS.out.mono ?_
    rintro e w1 ⟨r, rfl, hsm, hg1⟩
    have hsmh := Lib.hid hsm
    clear hsm
    have hbk := Lib.hid (fun (W : World) (hW : (w.alloc (.cells #[.slice A p.ms.length cA, .slice B p.ps.length cB] 25)).grownBy W none) => show W.cell? ⟨w.heap.size, 0, none⟩ = some (.slice A p.ms.length cA) ∧ W.cell? ⟨w.heap.size, 1, none⟩ = some (.slice B p.ps.length cB) ∧ w.heap.size < W.heap.size from
      ⟨(hbx.grown0 hW).cell 0, (hbx.grown0 hW).cell 1, (hbx.grown0 hW).lt⟩)
    obtain ⟨d0, d1, dlt⟩ := hbk.out w1 hg1
    have hg01 := gr_trans hg0 hg1
    by_cases h0 : r < 0
    · go_wp2_with fail
      go_ret
      exact ⟨rfl, hg01⟩
    · have hsp := hsmh.out (by omega)
      have hspl := hsp.1.1
      have hspr := hsp.2
      have hsph := Lib.hid hsp
      have hT := Lib.hid (fun (W : World) (hW : w.grownBy W none) => toPlay_any p A cA B cB Al W (h.pls.grown0 hW) hspl hspr)
      have hV := Lib.hid (fun (W : World) (A2 : Option Addr) (a2 : Nat) (B2 : Option Addr) (b2 : Nat) (G : Nat → Prop) (hG : PlS W G p A2 B2) => viewP_any s p A2 a2 B2 b2 G W (by omega) hG hsph.out)
      have hVS := Lib.hid (fun (W : World) (A2 : Option Addr) (a2 : Nat) (B2 : Option Addr) (b2 : Nat) (G : Nat → Prop) (hG : PlS W G p A2 B2) => sViewP_any s p A2 a2 B2 b2 G W (by omega) hG hsph.out)
      unfold ViewPost at hV hVS
      have hvl := viewL_length s p false
      have ht : (playOf s p != playOf s p) = false := by simp
      clear hsp hsmh
      generalize viewL s p false = V at *
      generalize playOf s p = x at *
      go_wp2_with fail
      refine (hT.out w1 hg01).mono ?_
      rintro e w2 ⟨A2, a2, B2, b2, rfl, hO2, hg2⟩
      go_wp2_with fail
      refine (hVS.out w2 A2 a2 B2 b2 _ hO2.sl).mono ?_
      rintro e w3 ⟨⟨AW, cW, rfl, hownW⟩, hg3⟩
      have hg13 := gr_trans hg1 (gr_trans hg2 hg3)
      obtain ⟨e0, e1, elt⟩ := hbk.out w3 hg13
      go_wp2_with fail
      refine (hT.out w3 (gr_trans hg0 hg13)).mono ?_
      rintro e w4 ⟨A4, a4, B4, b4, rfl, hO4, hg4⟩
      have hX := Blk.new w4 28 #[.slice A4 p.ms.length a4, .slice B4 p.ps.length b4]
      have hgX := World.grownBy_alloc w4 (.cells #[.slice A4 p.ms.length a4, .slice B4 p.ps.length b4] 28) none
      have hO4X := hO4.keep hgX
      go_wp2_with fail
      refine (hV.out _ A4 a4 B4 b4 _ hO4X.sl).mono ?_
      rintro e w5 ⟨⟨AG, cG, rfl, hownG⟩, hg5⟩
      have hownW5 := own_keep hownW (gr_trans hg4 (gr_trans hgX hg5))
      go_wp2_with fail
      refine (eqIntS_any V V AG AW cG cW _ _ w5 (own_sli hownG).1 (own_sli hownW5).1 (by omega) (by omega)).mono ?_
      rintro e w6 ⟨rfl, hg6⟩
      rw [beq_self_eq_true]
      have hX6 := hX.grown0 (gr_trans hg5 hg6)
      have x0 := hX6.cell 0
      have x1 := hX6.cell 1
      simp only [List.getElem?_toArray, List.getElem?_cons_zero, List.getElem?_cons_succ] at x0 x1
      have xlt := hX6.lt
      have hg16 := gr_trans hg13 (gr_trans hg4 (gr_trans hgX (gr_trans hg5 hg6)))
      obtain ⟨f0, f1, flt⟩ := hbk.out w6 hg16
      have hO6 := hO4X.keep (gr_trans hg5 hg6)
      have hS6 := hO6.sl
      have hownG6 := own_keep hownG hg6
      have hownW6 := own_keep hownW5 hg6
      have hgd : w6.grownBy w6.drew none := gr_drew (gr_refl _ _)
      have hkp := Lib.hid (fun (W : World) (hW : w6.grownBy W none) => show W.cell? ⟨w4.heap.size, 0, none⟩ = some (.slice A4 p.ms.length a4) ∧ W.cell? ⟨w4.heap.size, 1, none⟩ = some (.slice B4 p.ps.length b4) ∧ W.cell? ⟨w.heap.size, 0, none⟩ = some (.slice A p.ms.length cA) ∧ W.cell? ⟨w.heap.size, 1, none⟩ = some (.slice B p.ps.length cB) from
        ⟨(hX6.grown0 hW).cell 0, (hX6.grown0 hW).cell 1, (hbk.out W (gr_trans hg16 hW)).1, (hbk.out W (gr_trans hg16 hW)).2.1⟩)
      have hT6 := Lib.hid (hT.out w6.drew (gr_trans hg0 (gr_trans hg16 hgd)))
      clear hownG hownW5
      go_wp2_with fail
      go_region_held3 (fun w' => w'.cell? ⟨w4.heap.size, 0, none⟩ = some (.slice A4 p.ms.length a4) ∧ w'.cell? ⟨w4.heap.size, 1, none⟩ = some (.slice B4 p.ps.length b4) ∧ w'.cell? ⟨w.heap.size, 0, none⟩ = some (.slice A p.ms.length cA) ∧ w'.cell? ⟨w.heap.size, 1, none⟩ = some (.slice B p.ps.length cB))
        (first | go_keep | exact hkp.out _ hg68 | exact hkp.out _ hg67)
        (first
          | (go_at_call 15; refine hT6.out.mono ?_; rintro e w7 ⟨A7, a7, B7, b7, rfl, hO7, hg7⟩; have hg67 := gr_trans hgd hg7; have hS7 := hS6.grown0 hg67)
          | (go_at_call 17; refine (eqPlay_any p p _ _ _ _ _ _ _ _ _ _ _ hS7 hO7.sl hspl hspr hspl hspr).mono ?_; rintro e w8 ⟨rfl, hg8⟩; have hg68 := gr_trans hg67 hg8))
      rw [plEq_self]
      have hX8 := hX6.grown0 hg68
      obtain ⟨y0, y1, _, _⟩ := hkp.out w8 hg68
      have hO8 := hO6.keep hg68
      have hownG8 := own_keep hownG6 hg68
      have hownW8 := own_keep hownW6 hg68
      have hg18 := gr_trans hg16 hg68
      have hM := markPlay_any w3.heap.size _ _ a4 b4 1 A4 B4 _ _ w8 hO8.1 hO8.2 (by omega) (by omega) (by omega) (by omega)
      have hMh := Lib.hid hM
      clear hM
      go_wp2_with fail
      refine hMh.out.mono ?_
      rintro e w9 ⟨rfl, hA9, hB9, v1, v2, k1, k2, k3⟩
      have hG9 := own_keep2 (own_keep2 (own_keep hownG8 k1) k2 (fun g hg _ => own_ne (own_keep hownG8 k1) (own_keep hO8.1 k1) (by decide) hg)) k3 (fun g hg _ he => by
        have h1 := own_base hownG8 hg
        obtain ⟨_, h2⟩ := own_ty hO4.2 he.symm
        have h3 := h2.lt
        simp at h1
        omega)
      have hW9 := own_keep2 (own_keep2 (own_keep hownW8 k1) k2 (fun g hg _ => own_ne (own_keep hownW8 k1) (own_keep hO8.1 k1) (by decide) hg)) k3 (fun g hg _ he => by
        have h1 := own_base hO4.2 he.symm
        obtain ⟨_, h2⟩ := own_ty hownW hg
        have h3 := h2.lt
        omega)
      have hg3s := hg13.size
      have hg19 : (w.alloc (.cells #[.slice A p.ms.length cA, .slice B p.ps.length cB] 25)).grownBy w9 none := by
        have g1 := gr_trans hg18 k1
        have g2 := gr_own g1 (own_weak (own_keep hO8.1 k1) hg3s) k2
        have hB2 := own_keep2 (own_keep hO8.2 k1) k2 (fun g hg _ => own_ne (own_keep hO8.2 k1) (own_keep hO8.1 k1) (by decide) hg)
        exact gr_own g2 (own_weak hB2 hg3s) k3
      go_wp2_with fail
      refine (eqIntS_any V V AG AW cG cW _ _ w9 (own_sli hG9).1 (own_sli hW9).1 (by omega) (by omega)).mono ?_
      rintro e w10 ⟨rfl, hg10⟩
      rw [beq_self_eq_true]
      have hG10 := own_keep hG9 hg10
      have hW10 := own_keep hW9 hg10
      have hg110 := gr_trans hg19 hg10
      go_wp2_with fail
      refine (markIntS_any _ _ cG 1 AG _ w10 hG10 (by omega) (by omega) (by omega)).mono ?_
      rintro e w11 ⟨rfl, hG11, hg11⟩
      have hgs4 := (gr_trans hg4 hgX).size
      have hg111 := gr_own hg110 (own_weak hG10 (by have := (gr_trans hg13 (gr_trans hg4 hgX)).size; exact this)) hg11
      have hW11 := own_keep2 hW10 hg11 (fun g hg _ he => by
        have h1 := own_base hG10 he.symm
        obtain ⟨_, h2⟩ := own_ty hownW hg
        have h3 := h2.lt
        omega)
      have hS11 := (own_sli hG11).1
      rw [imarks_length] at hS11
      go_wp2_with fail
      refine (heldIntS_any _ cG 1 AG _ w11 hS11 (by omega) (by omega) (by omega)).mono ?_
      rintro e w12 ⟨rfl, hg12⟩
      have hg112 := gr_trans hg111 hg12
      obtain ⟨z0, z1, zlt⟩ := hbk.out w12 hg112
      go_wp2_with fail
      refine (hT.out w12 (gr_trans hg0 hg112)).mono ?_
      rintro e w13 ⟨AD, aD, BD, bD, rfl, hOD, hg13'⟩
      go_wp2_with fail
      refine (hV.out w13 AD aD BD bD _ hOD.sl).mono ?_
      rintro e w14 ⟨⟨AH, cH, rfl, hownH⟩, hg14⟩
      have hgt := gr_trans hg12 (gr_trans hg13' hg14)
      go_wp2_with fail
      refine (eqIntS_any V V AH AW cH cW _ _ w14 (own_sli hownH).1 (own_sli (own_keep hW11 hgt)).1 (by omega) (by omega)).mono ?_
      rintro e w15 ⟨rfl, hg15⟩
      rw [beq_self_eq_true]
      go_wp2_with fail
      refine (heldIntS_any _ cG 1 AG _ w15 (hS11.grown0 (gr_trans hgt hg15)) (by omega) (by omega) (by omega)).mono ?_
      rintro e w16 ⟨rfl, hg16'⟩
      go_wp2_with fail
      go_ret
      exact ⟨rfl, gr_trans hg0 (gr_trans hg111 (gr_trans (gr_trans hgt hg15) hg16'))⟩

section
open Go.ChangeShapes Go.WideShapes Go.ChangeAt Go.RowKit
open Go.ChangeMaps (open_string shut_string)
set_option maxRecDepth 100000 in
theorem FnExactViewP_lifted (os : Os) (started : os.Started) (H : Type) (enc : TypeId × Value → H) :
    ReturnsInHanded {} Try.checked os 8 .any (Rows.fnExactViewPSpec.pre6 enc Try.prog Try.f8 Rows.fnExactViewPRow.domain false) (Rows.fnExactViewPSpec.post enc Try.prog Try.f8 false true false false) := by
  refine returnsInHanded_of_change (C := Try.checked) Try.own started (by kernel_rfl) Try.func8
    (ChangeSpec.witness6 (enc := enc) (C := Try.checked) false ⟨#[], #[.string ByteArray.empty, .agg #[.slice none 0 0, .slice none 0 0]], []⟩ 8 (by kernel_rfl) (by kernel_rfl) (by kernel_rfl) (by kernel_rfl)) ?_
  intro W base args ds gs before hval0 hW hcnd _
  have hval : ∀ (j : Nat) t v, Try.f8.params[j]? = some t → args[j]? = some v → Value.okWide Try.prog W .any base t v := hval0
  have hW' := hW
  obtain ⟨p, q, hA0, hV, rfl, hfz, hnd⟩ := hW
  have hA : DataW.TrodAll enc Try.prog W 0 (fun _ => true) true Try.f8.params.toList args.toList ds p := hA0
  rw [Try.params8] at hA hval
  obtain ⟨v0, vs0, d0, ds0, p0, q0, hargs, rfl, rfl, h0, r0⟩ := trodAll_cons hA
  obtain ⟨v1, vs1, d1, ds1, p1, q1, rfl, rfl, rfl, h1, r1⟩ := trodAll_cons r0
  obtain ⟨rfl, rfl, rfl⟩ := trodAll_nil r1
  obtain rfl : args = #[v0, v1] := by cases args; simp_all
  obtain ⟨rfl, rfl⟩ := trodVars_none hV
  obtain ⟨⟨⟨a0⟩⟩, rfl, rfl, rfl, w0⟩ := open_string Try.underlying9 (hval 0 9 v0 rfl rfl) h0
  have k1 := h1
  have lt1 : ∀ x ∈ p1, x.block < W.heap.size := by obtain ⟨m, hm⟩ := k1; exact DataW.trod_lt m _ _ _ hm
  obtain ⟨P1, A1, cA1, B1, cB1, rfl, w1⟩ := open_play (hval 1 25 v1 rfl rfl) h1
  clear hA0 hval0
  refine (FnExactViewP_walk a0 P1 A1 cA1 B1 cB1 W w0 w1).mono fun e W' ⟨he, hg⟩ => ?_
  subst he
  have bel := below_gr hg
  exact ⟨_, rfl, _, _, _, [], _, [], hW', trodAll_mk1 (shut_bool Try.underlying4 _), (trodAll_cons_mk (shut_string Try.underlying9 w0) (trodAll_cons_mk (Below.trod Try.laidOut (by kernel_rfl) (of_decide_eq_true (by kernel_rfl)) k1 bel lt1) trodAll_mk0)), rfl, bel.frame _, fun h => by cases h⟩
end

/-- The statement. -/
theorem FnExactViewP_holds : Rows.FnExactViewPSaid :=
  OpenClaim.holds_of_wide 8 Try.f8 rfl rfl rfl rfl rfl rfl rfl ⟨rfl, rfl, rfl, rfl, rfl⟩ rfl rfl rfl rfl rfl (by kernel_rfl) Try.func8 (by kernel_rfl)
    (of_decide_eq_true (by kernel_rfl)) (by unfold Func.isWrapper; first | (rw [if_pos (by decide +kernel)]; kernel_rfl) | (rw [if_neg (by decide +kernel)]; exact ⟨rfl, rfl⟩))
    (fun os started H enc _ => FnExactViewP_lifted os started H enc)
end Go.Proofs.Ytefkfloggicmoaa
