/- PROVED: 'laws.FnExactPlayText' returns true for every input, and leaves its input as it was. No conditions. -/
import Derived.Test.YtefkfloggicmoaaDoorPlayTxt
import Derived.Test.YtefkfloggicmoaaDoorPlayMem
import Derived.Test.YtefkfloggicmoaaDoorCards
import Derived.Test.YtefkfloggicmoaaDoorTie
import Derived.SevenTiedAt
import Derived.LaidMore
import Derived.Stop.Joined
import Derived.Test.YtefkfloggicmoaaDoorRow
namespace Go.Proofs.YtefkfloggicmoaaDoor
open Go.RowKit

set_option maxHeartbeats 1000000 in
theorem FnExactPlayText_walk (s : List UInt8) (p : Pl) (A : Option Addr) (cA : Nat) (B : Option Addr) (cB : Nat) (w : World) (_hr : (⟨⟨s⟩⟩ : ByteArray).size ≤ maxLen) (h : IsPlay w p A B) :
    Calls Tryd.prog 4 #[.string ⟨s.toArray⟩, .agg #[.slice A p.ms.length cA, .slice B p.ps.length cB]] w fun e w' => e = .returned (.bool true) ∧ w.grownBy w' none := by
  have hr2 : s.length ≤ maxLen := _hr
  unfold maxLen at hr2
  have hbx := Blk.new w 25 #[.slice A p.ms.length cA, .slice B p.ps.length cB]
  have hg0 := World.grownBy_alloc w (.cells #[.slice A p.ms.length cA, .slice B p.ps.length cB] 25) none
  by_cases hl : s.length > 1048576
  · go_enter Tryd.func4, Tryd.ntmps4
    go_wp2_with fail
    go_ret
    exact ⟨rfl, hg0⟩
  · have hS := Lib.hid (szPlay_any p A cA B cB _ (isPlay_grown h hg0))
    go_enter Tryd.func4, Tryd.ntmps4
    go_wp2_with fail
    refine hS.out.mono ?_
    rintro e w1 ⟨r, rfl, hsm, hg1⟩
    have hsmh := Lib.hid hsm
    clear hsm
    have hbk := Lib.hid (fun (W : World) (hW : (w.alloc (.cells #[.slice A p.ms.length cA, .slice B p.ps.length cB] 25)).grownBy W none) => show W.cell? ⟨w.heap.size, 0, none⟩ = some (.slice A p.ms.length cA) ∧ W.cell? ⟨w.heap.size, 1, none⟩ = some (.slice B p.ps.length cB) ∧ w.heap.size < W.heap.size from
      ⟨(hbx.grown0 hW).cell 0, (hbx.grown0 hW).cell 1, (hbx.grown0 hW).lt⟩)
    obtain ⟨d0, d1, dlt⟩ := hbk.out w1 hg1
    have hg01 := gr_trans hg0 hg1
    by_cases h0 : r < 0
    · go_wp2_with fail
      go_ret
      exact ⟨rfl, hg01⟩
    · have hsp := hsmh.out (by omega)
      have hspl := hsp.1.1
      have hspr := hsp.2
      have hsph := Lib.hid hsp
      have hT := Lib.hid (fun (W : World) (hW : w.grownBy W none) => toPlay_any p A cA B cB Al W (h.pls.grown0 hW) hspl hspr)
      clear hsp hsmh
      go_wp2_with fail
      refine (hT.out w1 hg01).mono ?_
      rintro e w2 ⟨A2, a2, B2, b2, rfl, hO2, hg2⟩
      go_wp2_with fail
      refine (sPlayText_any s p A2 a2 B2 b2 _ w2 (by omega) hO2.sl hsph.out).mono ?_
      rintro e w3 ⟨rfl, hg3⟩
      have hg13 := gr_trans hg1 (gr_trans hg2 hg3)
      obtain ⟨e0, e1, elt⟩ := hbk.out w3 hg13
      go_wp2_with fail
      refine (hT.out w3 (gr_trans hg0 hg13)).mono ?_
      rintro e w4 ⟨A4, a4, B4, b4, rfl, hO4, hg4⟩
      go_wp2_with fail
      have hX := Blk.new w4 30 #[.slice A4 p.ms.length a4, .slice B4 p.ps.length b4]
      have hgX := World.grownBy_alloc w4 (.cells #[.slice A4 p.ms.length a4, .slice B4 p.ps.length b4] 30) none
      refine (playText_any s p A4 a4 B4 b4 _ _ (by omega) (hO4.sl.grown0 hgX) hsph.out).mono ?_
      rintro e w5 ⟨rfl, hg5⟩
      generalize textOf s p = tx at *
      have hX5 := hX.grown0 hg5
      have x0 := hX5.cell 0
      have x1 := hX5.cell 1
      simp only [List.getElem?_toArray, List.getElem?_cons_zero, List.getElem?_cons_succ] at x0 x1
      have xlt := hX5.lt
      have hg15 := gr_trans hg13 (gr_trans hg4 (gr_trans hgX hg5))
      obtain ⟨f0, f1, flt⟩ := hbk.out w5 hg15
      have hS5 := hO4.sl.grown0 (gr_trans hgX hg5)
      have hgd : w5.grownBy w5.drew none := gr_drew (gr_refl _ _)
      have hkp := Lib.hid (fun (W : World) (hW : w5.grownBy W none) => show W.cell? ⟨w4.heap.size, 0, none⟩ = some (.slice A4 p.ms.length a4) ∧ W.cell? ⟨w4.heap.size, 1, none⟩ = some (.slice B4 p.ps.length b4) ∧ W.cell? ⟨w.heap.size, 0, none⟩ = some (.slice A p.ms.length cA) ∧ W.cell? ⟨w.heap.size, 1, none⟩ = some (.slice B p.ps.length cB) from
        ⟨(hX5.grown0 hW).cell 0, (hX5.grown0 hW).cell 1, (hbk.out W (gr_trans hg15 hW)).1, (hbk.out W (gr_trans hg15 hW)).2.1⟩)
      have hT5 := Lib.hid (hT.out w5.drew (gr_trans hg0 (gr_trans hg15 hgd)))
      go_wp2_with fail
      go_region_held3 (fun w' => w'.cell? ⟨w4.heap.size, 0, none⟩ = some (.slice A4 p.ms.length a4) ∧ w'.cell? ⟨w4.heap.size, 1, none⟩ = some (.slice B4 p.ps.length b4) ∧ w'.cell? ⟨w.heap.size, 0, none⟩ = some (.slice A p.ms.length cA) ∧ w'.cell? ⟨w.heap.size, 1, none⟩ = some (.slice B p.ps.length cB))
        (first | go_keep | exact hkp.out _ hg57 | exact hkp.out _ hg56)
        (first
          | (go_at_call 7; refine hT5.out.mono ?_; rintro e w6 ⟨A6, a6, B6, b6, rfl, hO6, hg6⟩; have hg56 := gr_trans hgd hg6; have hS6 := hS5.grown0 hg56)
          | (go_at_call 10; refine (eqPlay_any p p _ _ _ _ _ _ _ _ _ _ _ hS6 hO6.sl hspl hspr hspl hspr).mono ?_; rintro e w7 ⟨rfl, hg7⟩; have hg57 := gr_trans hg56 hg7))
      rw [plEq_self]
      go_wp2_with fail
      go_ret
      exact ⟨rfl, gr_trans hg0 (gr_trans hg15 hg57)⟩

section
open Go.ChangeShapes Go.WideShapes Go.ChangeAt Go.RowKit
open Go.ChangeMaps (open_string shut_string)
set_option maxRecDepth 100000 in
/-- The door's own heap meets the condition. -/
theorem FnExactPlayText_door (os : Os) (args : Array Value) : laidMetH Tryd.prog Rows.fnExactPlayTextRow.laid ((World.doorLaid Tryd.prog 24 os).forCall (fun _ _ => 0) ⟨#[], args, []⟩).memory :=
  laidMetH_of_parts3 (fuel := 8) (laidMet_of_run' 8 (by kernel_rfl) (by kernel_rfl)) (by kernel_rfl) (by kernel_rfl)
set_option maxRecDepth 100000 in
theorem FnExactPlayText_lifted (os : Os) (started : os.Started) (H : Type) (enc : TypeId × Value → H) :
    ReturnsInHanded {} Tryd.checked os 4 .any (fun w args => (Rows.fnExactPlayTextSpec.pre enc Tryd.prog Tryd.f4 [] false w args ∧ laidMetH Tryd.prog Rows.fnExactPlayTextRow.laid w) ∧ sizedMet enc Tryd.prog Tryd.f4 (OpenSpec.ofChange Rows.fnExactPlayTextSpec) false w args) (Rows.fnExactPlayTextSpec.post enc Tryd.prog Tryd.f4 false true false false) := by
  refine returnsInHanded_of_change_and (C := Tryd.checked) (X := fun w _ => laidMetH Tryd.prog Rows.fnExactPlayTextRow.laid w) (fun _ _ _ hh h => h.of_heap hh) Tryd.own started (by kernel_rfl) Tryd.func4
    (ChangeSpec.witness_shaped (enc := enc) (C := Tryd.checked) (os := os) (X := fun w _ => laidMetH Tryd.prog Rows.fnExactPlayTextRow.laid w) false (World.doorLaid Tryd.prog 24 os) #[.string ByteArray.empty, .agg #[.slice none 0 0, .slice none 0 0]] 8 rfl (World.shaped_of_RefB (by kernel_rfl) (by kernel_rfl)) (by kernel_rfl) (by kernel_rfl) (by kernel_rfl) (FnExactPlayText_door os _)) ?_
  intro W base args ds gs before hval0 hW _ _ _ _
  have hval : ∀ (j : Nat) t v, Tryd.f4.params[j]? = some t → args[j]? = some v → Value.okWide Tryd.prog W .any base t v := hval0
  have hW' := hW
  obtain ⟨p, q, hA0, hV, rfl, hfz, hnd⟩ := hW
  have hA : DataW.TrodAll enc Tryd.prog W 0 (fun _ => true) true Tryd.f4.params.toList args.toList ds p := hA0
  rw [Tryd.params4] at hA hval
  obtain ⟨v0, vs0, d0, ds0, p0, q0, hargs, rfl, rfl, h0, r0⟩ := trodAll_cons hA
  obtain ⟨v1, vs1, d1, ds1, p1, q1, rfl, rfl, rfl, h1, r1⟩ := trodAll_cons r0
  obtain ⟨rfl, rfl, rfl⟩ := trodAll_nil r1
  obtain rfl : args = #[v0, v1] := by cases args; simp_all
  obtain ⟨rfl, rfl⟩ := trodVars_none hV
  obtain ⟨⟨⟨a0⟩⟩, rfl, rfl, rfl, w0⟩ := open_string Tryd.underlying9 (hval 0 9 v0 rfl rfl) h0
  have k1 := h1
  have lt1 : ∀ x ∈ p1, x.block < W.heap.size := by obtain ⟨m, hm⟩ := k1; exact DataW.trod_lt m _ _ _ hm
  obtain ⟨P1, A1, cA1, B1, cB1, rfl, w1⟩ := open_play (hval 1 25 v1 rfl rfl) h1
  clear hA0 hval0
  refine (FnExactPlayText_walk a0 P1 A1 cA1 B1 cB1 W w0 w1).mono fun e W' ⟨he, hg⟩ => ?_
  subst he
  have bel := below_gr hg
  exact ⟨_, rfl, _, _, _, [], _, [], hW', trodAll_mk1 (shut_bool Tryd.underlying4 _), (trodAll_cons_mk (shut_string Tryd.underlying9 w0) (trodAll_cons_mk (Below.trod Tryd.laidOut (by kernel_rfl) (of_decide_eq_true (by kernel_rfl)) k1 bel lt1) trodAll_mk0)), rfl, bel.frame _, fun h => by cases h⟩
end

/-- The statement. -/
theorem FnExactPlayText_holds : Rows.FnExactPlayTextSaid :=
  OpenClaim.holds_of_wide 4 Tryd.f4 rfl rfl rfl rfl rfl rfl rfl ⟨rfl, rfl, rfl, rfl, rfl⟩ rfl rfl rfl rfl rfl (by kernel_rfl) Tryd.func4 (by kernel_rfl)
    (of_decide_eq_true (by kernel_rfl)) (by unfold Func.isWrapper; first | (rw [if_pos (by decide +kernel)]; kernel_rfl) | (rw [if_neg (by decide +kernel)]; exact ⟨rfl, rfl⟩))
    (fun os started H enc _ => FnExactPlayText_lifted os started H enc)

/-- The card: the row, its listed variables tied to the program's text. -/
theorem FnExactPlayText_card : Rows.FnExactPlayTextCardSaid :=
  Claim7.holds_tied_plain_at .later [] Rows.fnExactPlayTextCard.laidKinds true Rows.fnExactPlayTextCard.stood.harness Rows.fnExactPlayTextCard.stood.looks
    FnExactPlayText_holds (fun _ h => by cases h) (by kernel_rfl) (fun _ h => by cases h) fnExactPlayText_row_tie rfl ⟨rfl, rfl⟩ (by kernel_rfl) rfl
    (fun f fn hf hfn => by
      obtain rfl : f = 4 := Option.some.inj ((show Tryd.prog.funcNamed "loop.example/innocentgames/laws.FnExactPlayText" = some 4 by kernel_rfl).symm.trans hf) |>.symm
      obtain rfl : fn = Tryd.f4 := (Option.some.inj (Tryd.func4.symm.trans hfn)).symm
      exact ⟨by kernel_rfl, fun j t ht => by
        rw [Tryd.params4] at ht
        have hm : t ∈ [9, 25] := by simpa using Array.mem_of_getElem? ht
        have hall : ([9, 25].all fun u => !Tryd.prog.wantsStandIn u) = true := by kernel_rfl
        exact (show Tryd.prog.wantsStandIn t = false by simpa using List.all_eq_true.1 hall t hm)⟩)
    (by kernel_rfl)
end Go.Proofs.YtefkfloggicmoaaDoor
