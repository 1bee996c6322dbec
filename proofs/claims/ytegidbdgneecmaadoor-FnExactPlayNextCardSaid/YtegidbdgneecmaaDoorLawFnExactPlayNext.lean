/- PROVED: 'laws.FnExactPlayNext' returns true for every input, and leaves its input as it was. No conditions. -/
import Derived.Test.YtegidbdgneecmaaDoorNextMax
import Derived.Test.YtegidbdgneecmaaDoorPlayApi
import Derived.Test.YtegidbdgneecmaaDoorCards
import Derived.Test.YtegidbdgneecmaaDoorTie
import Derived.SevenTiedAt
import Derived.LaidMore
import Derived.Stop.Joined
import Derived.Test.YtegidbdgneecmaaDoorRow
namespace Go.Proofs.YtegidbdgneecmaaDoor
open Go.RowKit

set_option maxHeartbeats 2000000 in
theorem FnExactPlayNext_walk (s : List UInt8) (p : Pl) (A : Option Addr) (cA : Nat) (B : Option Addr) (cB : Nat) (w : World) (_hr : (⟨⟨s⟩⟩ : ByteArray).size ≤ maxLen) (h : IsPlay w p A B) :
    Calls Tryd.prog 3 #[.string ⟨s.toArray⟩, .agg #[.slice A p.ms.length cA, .slice B p.ps.length cB]] w fun e w' => e = .returned (.bool true) ∧ w.grownBy w' none := by
  have hr2 : s.length ≤ maxLen := _hr
  unfold maxLen at hr2
  have hbx := Blk.new w 25 #[.slice A p.ms.length cA, .slice B p.ps.length cB]
  have hg0 := World.grownBy_alloc w (.cells #[.slice A p.ms.length cA, .slice B p.ps.length cB] 25) none
  by_cases hl : s.length > 1048576
  · go_enter Tryd.func3, Tryd.ntmps3
    go_wp2_with fail
    go_ret
    exact ⟨rfl, hg0⟩
  · have hS := Lib.hid (szPlay_any p A cA B cB _ (isPlay_grown h hg0))
    go_enter Tryd.func3, Tryd.ntmps3
    go_wp2_with fail
    refine hS.out.mono ?_
    rintro e w1 ⟨r, rfl, hsm, hg1⟩
    have hsmh := Lib.hid hsm
    clear hsm
    have hbk := Lib.hid (fun (W : World) (hW : (w.alloc (.cells #[.slice A p.ms.length cA, .slice B p.ps.length cB] 25)).grownBy W none) => show W.cell? ⟨w.heap.size, 0, none⟩ = some (.slice A p.ms.length cA) ∧ W.cell? ⟨w.heap.size, 1, none⟩ = some (.slice B p.ps.length cB) ∧ w.heap.size < W.heap.size from
      ⟨(hbx.grown0 hW).cell 0, (hbx.grown0 hW).cell 1, (hbx.grown0 hW).lt⟩)
    obtain ⟨d0, d1, dlt⟩ := hbk.out w1 hg1
    have hg01 := gr_trans hg0 hg1
    by_cases h0 : r < 0
    · go_wp2_with fail
      go_ret
      exact ⟨rfl, hg01⟩
    · have hsp := hsmh.out (by omega)
      have hspl := hsp.1.1
      have hspr := hsp.2
      have hsph := Lib.hid hsp
      have hT := Lib.hid (fun (W : World) (hW : w.grownBy W none) => toPlay_any p A cA B cB Al W (h.pls.grown0 hW) hspl hspr)
      have hV := Lib.hid (fun (W : World) (A2 : Option Addr) (a2 : Nat) (B2 : Option Addr) (b2 : Nat) (G : Nat → Prop) (hG : PlS W G p A2 B2) => playNextJ_any s p A2 a2 B2 b2 G W (by omega) hG hsph.out)
      have hVS := Lib.hid (fun (W : World) (A2 : Option Addr) (a2 : Nat) (B2 : Option Addr) (b2 : Nat) (G : Nat → Prop) (hG : PlS W G p A2 B2) => sPlayNext_any s p A2 a2 B2 b2 G W (by omega) hG hsph.out)
      unfold NextBPost at hV
      unfold NextAPost at hVS
      have ht : (nextOk s p != nextOk s p) = false := by simp
      have hel : ∀ D : List PD, D.map PD.p = nextPl s p → ∀ j (hj : j < D.length), D[j].p.ms.length ≤ 60 ∧ D[j].p.ps.length ≤ 60 := fun D hD j hj => by
        have := legOf_len (next_el hD hj).1
        omega
      have hlen : ∀ D : List PD, D.map PD.p = nextPl s p → D.length ≤ 1500 := fun D hD => by
        have h1 := nextPl_length s p
        rw [← hD] at h1
        simpa using h1
      have helh := Lib.hid hel
      have hlenh := Lib.hid hlen
      clear hsp hsmh hel hlen
      generalize nextOk s p = x at *
      generalize nextPl s p = L at *
      go_wp2_with fail
      refine (hT.out w1 hg01).mono ?_
      rintro e w2 ⟨A2, a2, B2, b2, rfl, hO2, hg2⟩
      go_wp2_with fail
      refine (hVS.out w2 A2 a2 B2 b2 _ hO2.sl).mono ?_
      rintro e w3 ⟨AE, cE, E, rfl, hE, hEL, hg3⟩
      have hEp := Lib.hid hE.pin
      have hELh := Lib.hid hEL
      clear hE hEL
      have hg13 := gr_trans hg1 (gr_trans hg2 hg3)
      obtain ⟨e0, e1, elt⟩ := hbk.out _ hg13
      go_wp2_with fail
      refine (hT.out _ (gr_trans hg0 hg13)).mono ?_
      rintro e w4 ⟨A4, a4, B4, b4, rfl, hO4, hg4⟩
      have hX := Blk.new w4 30 #[.slice A4 p.ms.length a4, .slice B4 p.ps.length b4]
      have hgX := World.grownBy_alloc w4 (.cells #[.slice A4 p.ms.length a4, .slice B4 p.ps.length b4] 30) none
      have hO4X := hO4.keep hgX
      go_wp2_with fail
      refine (hV.out _ A4 a4 B4 b4 _ hO4X.sl).mono ?_
      rintro e w5 ⟨AD, cD, D, rfl, hD, hDL, hap, hg5⟩
      have hDp := Lib.hid hD.pin
      have hDLh := Lib.hid hDL
      have haph := Lib.hid hap
      have hDl2 := hlenh.out D hDL
      have hEl2 := hlenh.out E hELh.out
      clear hD hDL hap
      have hg45 := gr_trans hgX hg5
      have hg35 := gr_trans hg4 hg45
      have hEp5 := Lib.hid (hEp.out.keep0 hg35)
      have hEqD := Lib.hid (fun (W : World) (b1 b2 : Nat) (h : PDs W b1 (.slice AD D.length cD) D) (k : PDs W b2 (.slice AE E.length cE) E) => eqPlayS_eq D E AD cD AE cE b1 b2 W h k (by rw [hDLh.out, hELh.out]) (helh.out D hDLh.out))
      go_wp2_with fail
      refine (hEqD.out w5 _ _ hDp.out.1 hEp5.out.1).mono ?_
      rintro e w6 ⟨rfl, hg6⟩
      have hX6 := hX.grown0 (gr_trans hg5 hg6)
      have hg16 := gr_trans hg13 (gr_trans hg35 hg6)
      have hX6i := (hO4.plIn).keep0 (gr_trans hg45 hg6)
      have hgd : w6.grownBy w6.drew none := gr_drew (gr_refl _ _)
      have hkp := Lib.hid (fun (W : World) (hW : w6.grownBy W none) => show W.cell? ⟨w4.heap.size, 0, none⟩ = some (.slice A4 p.ms.length a4) ∧ W.cell? ⟨w4.heap.size, 1, none⟩ = some (.slice B4 p.ps.length b4) ∧ W.cell? ⟨w.heap.size, 0, none⟩ = some (.slice A p.ms.length cA) ∧ W.cell? ⟨w.heap.size, 1, none⟩ = some (.slice B p.ps.length cB) from
        ⟨(hX6.grown0 hW).cell 0, (hX6.grown0 hW).cell 1, (hbk.out W (gr_trans hg16 hW)).1, (hbk.out W (gr_trans hg16 hW)).2.1⟩)
      obtain ⟨x0, x1, f0, f1⟩ := hkp.out w6 (gr_refl _ _)
      have xlt := hX6.lt
      have flt := (hbk.out w6 hg16).2.2
      have hT6 := Lib.hid (hT.out w6.drew (gr_trans hg0 (gr_trans hg16 hgd)))
      go_wp2_with fail
      go_region_held3 (fun w' => w'.cell? ⟨w4.heap.size, 0, none⟩ = some (.slice A4 p.ms.length a4) ∧ w'.cell? ⟨w4.heap.size, 1, none⟩ = some (.slice B4 p.ps.length b4) ∧ w'.cell? ⟨w.heap.size, 0, none⟩ = some (.slice A p.ms.length cA) ∧ w'.cell? ⟨w.heap.size, 1, none⟩ = some (.slice B p.ps.length cB))
        (first | go_keep | exact hkp.out _ hg68 | exact hkp.out _ hg67)
        (first
          | (go_at_call 6; refine hT6.out.mono ?_; rintro e w7 ⟨A7, a7, B7, b7, rfl, hO7, hg7⟩; have hg67 := gr_trans hgd hg7; have hS7 := (hX6i.keep0 hg67).1.sl)
          | (go_at_call 9; refine (eqPlay_any p p _ _ _ _ _ _ _ _ _ _ _ hS7 hO7.sl hspl hspr hspl hspr).mono ?_; rintro e w8 ⟨rfl, hg8⟩; have hg68 := gr_trans hg67 hg8))
      rw [plEq_self]
      obtain ⟨y0, y1, _, _⟩ := hkp.out w8 hg68
      have hX8b := hX6.grown0 hg68
      have hX8 := hX6i.keep0 hg68
      have hD8 := Lib.hid ((hDp.out.keep0 hg6).keep0 hg68)
      have hE8 := Lib.hid ((hEp5.out.keep0 hg6).keep0 hg68)
      have hg18 := gr_trans hg16 hg68
      have hxb := hX8.2
      have ylt := hX8b.lt
      have hMh := Lib.hid (markPlay_any _ _ _ a4 b4 1 A4 B4 _ _ w8 hX8.1.1 hX8.1.2 (by omega) (by omega) (by omega) (by omega))
      have hs0 : w.heap.size + 1 ≤ w1.heap.size := by have := hg1.size; rw [World.size_alloc] at this; exact this
      have hs1 := hg2.size
      have hs2 := hg3.size
      have hs3 := hg4.size
      have hs4 : w4.heap.size + 1 ≤ w5.heap.size := by have := hg5.size; rw [World.size_alloc] at this; exact this
      have hs5 := hg6.size
      have hs6 := hg68.size
      rw [World.size_alloc] at hD8 hDp
      go_wp2_with fail
      refine hMh.out.mono ?_
      rintro e w9 ⟨rfl, hA9, hB9, v1, v2, k1, k2, k3⟩
      have bX : ∀ g, (Value.slice A4 p.ms.length a4).ownBlock = some g → w3.heap.size ≤ g ∧ g < w4.heap.size := fun g hg => hxb.1 g hg
      have bX2 : ∀ g, (Value.slice B4 p.ps.length b4).ownBlock = some g → w3.heap.size ≤ g ∧ g < w4.heap.size := fun g hg => hxb.2 g hg
      have hsk1 := k1.size
      have hsk2 := k2.size
      have hsk3 := k3.size
      have hD9 := Lib.hid (((hD8.out.keep0 k1).keep k2 (by omega) (fun g e => by have := bX g e; omega)).keep k3 (by omega) (fun g e => by have := bX2 g e; omega))
      have hE9 := Lib.hid (((hE8.out.keep0 k1).keep k2 (by omega) (fun g e => by have := bX g e; omega)).keep k3 (by omega) (fun g e => by have := bX2 g e; omega))
      have hg19 : (w.alloc (.cells #[.slice A p.ms.length cA, .slice B p.ps.length cB] 25)).grownBy w9 none := by
        have g1 := gr_trans hg18 k1
        refine ⟨k3.os.trans (k2.os.trans g1.os), k3.tape.trans (k2.tape.trans g1.tape), k3.output.trans (k2.output.trans g1.output), Nat.le_trans g1.size (Nat.le_trans k2.size k3.size), fun i hi _ => ?_⟩
        rw [World.size_alloc] at hi
        have hi1 : i < v1.heap.size := Nat.lt_of_lt_of_le (by rw [World.size_alloc]; exact hi) g1.size
        rw [k3.block i (Nat.lt_of_lt_of_le hi1 k2.size) (fun e => by have := bX2 i e.symm; omega), k2.block i hi1 (fun e => by have := bX i e.symm; omega)]
        exact g1.block i (by rw [World.size_alloc]; exact hi) (by simp)
      clear k1 k2 k3 hA9 hB9 bX bX2 hxb hX8 hX8b hX6i hX6 y0 y1 x0 x1 f0 f1
      go_wp2_with fail
      refine (hEqD.out w9 _ _ hD9.out.1 hE9.out.1).mono ?_
      rintro e w10 ⟨rfl, hg10⟩
      have hs10 := hg10.size
      have hD10 := Lib.hid (hD9.out.keep0 hg10)
      have hE10 := Lib.hid (hE9.out.keep0 hg10)
      have hg110 := gr_trans hg19 hg10
      have hof : ∀ j ≤ D.length, offs D 1 j ≤ 1 + 120 * j := fun j hj => offs_le (fun j hj => by have := helh.out D hDLh.out j hj; unfold PD.wt; omega) 1 j hj
      have hofl := hof D.length (Nat.le_refl _)
      have hof2 : ∀ j ≤ D.length, offs D 1 j ≤ 100000000 := fun j hj => by have := hof j hj; omega
      have hsz2 : ∀ j (hj : j < D.length), D[j].p.ms.length ≤ 1000 ∧ D[j].p.ps.length ≤ 1000 := fun j hj => by have := helh.out D hDLh.out j hj; omega
      have hMM := Lib.hid (markPlayS_any D AD cD (w4.heap.size + 1) (w4.heap.size + 1) 1 (cutW w10 (w4.heap.size + 1)) w10 hD10.out.1.1 hD10.out.1.mi haph.out (by rw [cutW_size (by omega)]; exact Nat.le_refl _) (cutW_gr (by omega)) (by omega) hof2 hsz2 (by omega))
      have hHH := Lib.hid (fun (W : World) (hW : W.ownsRow (w4.heap.size + 1) 30 2 (.slice AD D.length cD) D.length (D.flatMap PD.cells)) (hM : Marked W D 1) => heldPlayS_any D AD cD (w4.heap.size + 1) 1 W hW hM (by omega) hof2 hsz2 (by omega))
      have hq0 : 1 ≤ offs D 1 D.length := by unfold offs; omega
      generalize offs D 1 D.length = o at *
      have hq1 : ¬ ((o : Int) < 0) := by omega
      clear hof hof2 hsz2
      go_wp2_with fail
      refine hMM.out.mono ?_
      rintro e w11 ⟨rfl, hM11, hR11, hg11⟩
      have hE11 := Lib.hid (hE10.out.cut (n := w4.heap.size + 1) (by omega) (by omega) hg11)
      have hg111 := cut_trans hg110 (by rw [World.size_alloc]; omega) (by omega) hg11
      have hM11h := Lib.hid hM11.marked
      have hR11h := Lib.hid hR11
      clear hM11 hR11 hMM
      go_wp2_with fail
      refine (hHH.out w11 hR11h.out hM11h.out).mono ?_
      rintro e w12 ⟨rfl, hg12⟩
      have hg112 := gr_trans hg111 hg12
      obtain ⟨z0, z1, zlt⟩ := hbk.out w12 hg112
      go_wp2_with fail
      refine (hT.out w12 (gr_trans hg0 hg112)).mono ?_
      rintro e w13 ⟨AX, aX, BX, bX, rfl, hOX, hg13'⟩
      go_wp2_with fail
      refine (hV.out w13 AX aX BX bX _ hOX.sl).mono ?_
      rintro e w14 ⟨AF, cF, F, rfl, hF, hFL, _, hg14⟩
      have hFl2 := hlenh.out F hFL
      have hgt := gr_trans hg12 (gr_trans hg13' hg14)
      have hEq14 := Lib.hid (eqPlayS_eq F E AF cF AE cE _ _ w14 hF (hE11.out.keep0 hgt).1 (by rw [hFL, hELh.out]) (helh.out F hFL))
      clear hF hFL
      go_wp2_with fail
      refine hEq14.out.mono ?_
      rintro e w15 ⟨rfl, hg15⟩
      have hgu := gr_trans hgt hg15
      go_wp2_with fail
      refine (hHH.out w15 (own2_keep hR11h.out hgu (by simp)) (hM11h.out.grown0 hgu)).mono ?_
      rintro e w16 ⟨rfl, hg16'⟩
      go_wp2_with fail
      go_ret
      exact ⟨rfl, gr_trans hg0 (gr_trans hg111 (gr_trans hgu hg16'))⟩

section
open Go.ChangeShapes Go.WideShapes Go.ChangeAt Go.RowKit
open Go.ChangeMaps (open_string shut_string)
set_option maxRecDepth 100000 in
/-- The door's own heap meets the condition. -/
theorem FnExactPlayNext_door (os : Os) (args : Array Value) : laidMetH Tryd.prog Rows.fnExactPlayNextRow.laid ((World.doorLaid Tryd.prog 24 os).forCall (fun _ _ => 0) ⟨#[], args, []⟩).memory :=
  laidMetH_of_parts3 (fuel := 8) (laidMet_of_run' 8 (by kernel_rfl) (by kernel_rfl)) (by kernel_rfl) (by kernel_rfl)
set_option maxRecDepth 100000 in
theorem FnExactPlayNext_lifted (os : Os) (started : os.Started) (H : Type) (enc : TypeId × Value → H) :
    ReturnsInHanded {} Tryd.checked os 3 .any (fun w args => (Rows.fnExactPlayNextSpec.pre enc Tryd.prog Tryd.f3 [] false w args ∧ laidMetH Tryd.prog Rows.fnExactPlayNextRow.laid w) ∧ sizedMet enc Tryd.prog Tryd.f3 (OpenSpec.ofChange Rows.fnExactPlayNextSpec) false w args) (Rows.fnExactPlayNextSpec.post enc Tryd.prog Tryd.f3 false true false false) := by
  refine returnsInHanded_of_change_and (C := Tryd.checked) (X := fun w _ => laidMetH Tryd.prog Rows.fnExactPlayNextRow.laid w) (fun _ _ _ hh h => h.of_heap hh) Tryd.own started (by kernel_rfl) Tryd.func3
    (ChangeSpec.witness_shaped (enc := enc) (C := Tryd.checked) (os := os) (X := fun w _ => laidMetH Tryd.prog Rows.fnExactPlayNextRow.laid w) false (World.doorLaid Tryd.prog 24 os) #[.string ByteArray.empty, .agg #[.slice none 0 0, .slice none 0 0]] 8 rfl (World.shaped_of_RefB (by kernel_rfl) (by kernel_rfl)) (by kernel_rfl) (by kernel_rfl) (by kernel_rfl) (FnExactPlayNext_door os _)) ?_
  intro W base args ds gs before hval0 hW _ _ _ _
  have hval : ∀ (j : Nat) t v, Tryd.f3.params[j]? = some t → args[j]? = some v → Value.okWide Tryd.prog W .any base t v := hval0
  have hW' := hW
  obtain ⟨p, q, hA0, hV, rfl, hfz, hnd⟩ := hW
  have hA : DataW.TrodAll enc Tryd.prog W 0 (fun _ => true) true Tryd.f3.params.toList args.toList ds p := hA0
  rw [Tryd.params3] at hA hval
  obtain ⟨v0, vs0, d0, ds0, p0, q0, hargs, rfl, rfl, h0, r0⟩ := trodAll_cons hA
  obtain ⟨v1, vs1, d1, ds1, p1, q1, rfl, rfl, rfl, h1, r1⟩ := trodAll_cons r0
  obtain ⟨rfl, rfl, rfl⟩ := trodAll_nil r1
  obtain rfl : args = #[v0, v1] := by cases args; simp_all
  obtain ⟨rfl, rfl⟩ := trodVars_none hV
  obtain ⟨⟨⟨a0⟩⟩, rfl, rfl, rfl, w0⟩ := open_string Tryd.underlying9 (hval 0 9 v0 rfl rfl) h0
  have k1 := h1
  have lt1 : ∀ x ∈ p1, x.block < W.heap.size := by obtain ⟨m, hm⟩ := k1; exact DataW.trod_lt m _ _ _ hm
  obtain ⟨P1, A1, cA1, B1, cB1, rfl, w1⟩ := open_play (hval 1 25 v1 rfl rfl) h1
  clear hA0 hval0
  refine (FnExactPlayNext_walk a0 P1 A1 cA1 B1 cB1 W w0 w1).mono fun e W' ⟨he, hg⟩ => ?_
  subst he
  have bel := below_gr hg
  exact ⟨_, rfl, _, _, _, [], _, [], hW', trodAll_mk1 (shut_bool Tryd.underlying4 _), (trodAll_cons_mk (shut_string Tryd.underlying9 w0) (trodAll_cons_mk (Below.trod Tryd.laidOut (by kernel_rfl) (of_decide_eq_true (by kernel_rfl)) k1 bel lt1) trodAll_mk0)), rfl, bel.frame _, fun h => by cases h⟩
end

/-- The statement. -/
theorem FnExactPlayNext_holds : Rows.FnExactPlayNextSaid :=
  OpenClaim.holds_of_wide 3 Tryd.f3 rfl rfl rfl rfl rfl rfl rfl ⟨rfl, rfl, rfl, rfl, rfl⟩ rfl rfl rfl rfl rfl (by kernel_rfl) Tryd.func3 (by kernel_rfl)
    (of_decide_eq_true (by kernel_rfl)) (by unfold Func.isWrapper; first | (rw [if_pos (by decide +kernel)]; kernel_rfl) | (rw [if_neg (by decide +kernel)]; exact ⟨rfl, rfl⟩))
    (fun os started H enc _ => FnExactPlayNext_lifted os started H enc)

/-- The card: the row, its listed variables tied to the program's text. -/
theorem FnExactPlayNext_card : Rows.FnExactPlayNextCardSaid :=
  Claim7.holds_tied_plain_at .later [] Rows.fnExactPlayNextCard.laidKinds true Rows.fnExactPlayNextCard.stood.harness Rows.fnExactPlayNextCard.stood.looks
    FnExactPlayNext_holds (fun _ h => by cases h) (by kernel_rfl) (fun _ h => by cases h) fnExactPlayNext_row_tie rfl ⟨rfl, rfl⟩ (by kernel_rfl) rfl
    (fun f fn hf hfn => by
      obtain rfl : f = 3 := Option.some.inj ((show Tryd.prog.funcNamed "loop.example/innocentgames/laws.FnExactPlayNext" = some 3 by kernel_rfl).symm.trans hf) |>.symm
      obtain rfl : fn = Tryd.f3 := (Option.some.inj (Tryd.func3.symm.trans hfn)).symm
      exact ⟨by kernel_rfl, fun j t ht => by
        rw [Tryd.params3] at ht
        have hm : t ∈ [9, 25] := by simpa using Array.mem_of_getElem? ht
        have hall : ([9, 25].all fun u => !Tryd.prog.wantsStandIn u) = true := by kernel_rfl
        exact (show Tryd.prog.wantsStandIn t = false by simpa using List.all_eq_true.1 hall t hm)⟩)
    (by kernel_rfl)
end Go.Proofs.YtegidbdgneecmaaDoor
