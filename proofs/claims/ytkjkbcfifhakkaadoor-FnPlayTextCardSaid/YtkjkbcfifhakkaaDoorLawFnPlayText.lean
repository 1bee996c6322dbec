/- PROVED: 'laws.FnPlayText' returns true for every input, and leaves its input as it was. No conditions. -/
import Derived.Test.YtkjkbcfifhakkaaDoorPlayApi
import Derived.Test.YtkjkbcfifhakkaaDoorPlayTxt
import Derived.Test.YtkjkbcfifhakkaaDoorPlayCut
import Derived.Test.YtkjkbcfifhakkaaDoorPlayDraw3
import Derived.Test.YtkjkbcfifhakkaaDoorCards
import Derived.Test.YtkjkbcfifhakkaaDoorTie
import Derived.SevenTiedAt
import Derived.LaidMore
import Derived.Stop.Joined
import Derived.Test.YtkjkbcfifhakkaaDoorRow
namespace Go.Proofs.YtkjkbcfifhakkaaDoor
open Go.RowKit

set_option maxHeartbeats 4000000 in
theorem FnPlayText_walk (A : Option Addr) (n c : Nat) (zs : List Int) (w : World) (h : IsRow .u8 w A n c zs) :
    Calls Tryd.prog 3 #[.slice A n c] w fun e w' => e = .returned (.bool true) ∧ w.grownBy w' none := by
  by_cases hl : n > 1048576
  · go_enter Tryd.func3, Tryd.ntmps3
    go_wp2_with fail
    go_ret
    exact ⟨rfl, gr_refl _ _⟩
  · go_enter Tryd.func3, Tryd.ntmps3
    go_wp2_with fail
    refine (drawPlayText_any A n c zs w h).mono ?_
    rintro e w1 ⟨r, p, PA, cA, PB, cB, rfl, hD, hg1⟩
    have hDh := Lib.hid hD
    have hr := hD.1
    have hp9 := hD.2.1
    have hq9 := hD.2.2.1
    clear hD
    have hgb := World.grownBy_alloc w1 (.cells #[.slice PA p.ms.length cA, .slice PB p.ps.length cB] 26) none
    have hb := Blk.new w1 26 #[.slice PA p.ms.length cA, .slice PB p.ps.length cB]
    have hS := hDh.out.2.2.2.2.1
    have hsmh := Lib.hid hDh.out.small
    go_wp2_with fail
    refine (playText_any r p PA cA PB cB _ _ (by omega) (hS.grown0 hgb) hsmh.out).mono ?_
    rintro e w2 ⟨rfl, hg2⟩
    have hb2 := hb.grown0 hg2
    have d0 := hb2.cell 0
    have d1 := hb2.cell 1
    have dlt := hb2.lt
    simp only [List.getElem?_toArray, List.getElem?_cons_zero, List.getElem?_cons_succ] at d0 d1
    go_wp2_with fail
    refine (sPlayText_any r p PA cA PB cB _ _ (by omega) ((hS.grown0 hgb).grown0 hg2) hsmh.out).mono ?_
    rintro e w3 ⟨rfl, hg3⟩
    have hgb3 := gr_trans hgb (gr_trans hg2 hg3)
    have hg03 := gr_trans hg1 hgb3
    cases hv : playOf r p with
    | false =>
      have hR : textOf r p = [] := by unfold textOf; rw [hv]; rfl
      rw [hR]
      clear hv hR
      go_wp2_with fail
      go_ret
      exact ⟨rfl, hg03⟩
    | true =>
      obtain ⟨hR, hRl⟩ := textOf_le hv
      rw [hR]
      obtain ⟨t, htr, hok, hat⟩ := playOf_some hv
      have hvh := Lib.hid hv
      have hokh := Lib.hid hok
      have hll := Lib.hid (Pl.ok_iff.1 hok).2.1
      have hbk := Lib.hid (fun (W : World) (hW : w3.grownBy W none) => show W.cell? ⟨w1.heap.size, 0, none⟩ = some (.slice PA p.ms.length cA) ∧ W.cell? ⟨w1.heap.size, 1, none⟩ = some (.slice PB p.ps.length cB) ∧ w1.heap.size < W.heap.size from
        ⟨((hb2.grown0 hg3).grown0 hW).cell 0, ((hb2.grown0 hg3).grown0 hW).cell 1, ((hb2.grown0 hg3).grown0 hW).lt⟩)
      have hSh := Lib.hid (fun (W : World) (hW : w3.grownBy W none) => hS.grown0 (gr_trans hgb3 hW))
      have hg3h := Lib.hid hg03
      simp only [hll.out] at hbk
      clear hv htr hok hS hb hgb hgb3 hb2 d0 d1 dlt hg03 hg1 hg2 hg3 h hq9
      obtain ⟨d0, d1, dlt⟩ := hbk.out w3 (gr_refl _ _)
      by_cases hn0 : p.ms.length = 0
      · have he : p.ptext p.ms.length = [] := by rw [hn0]; rfl
        rw [he]
        go_wp2_with fail
        go_ret
        exact ⟨rfl, hg3h.out⟩
      · by_cases hn1 : p.ms.length = 1
        · have he : p.ptext p.ms.length = [113] := by rw [hn1, Pl.ptext_one]; exact (Pl.ok_zero hokh.out (by omega)).1
          rw [he]
          have hV := Lib.hid (playValid_any r p PA cA PB cB _ w3 (by omega) (hSh.out w3 (gr_refl _ _)) hsmh.out)
          simp only [hvh.out, hll.out] at hV
          have h2 : (p.ms.length : Int) < 2 := by omega
          have hn1h := Lib.hid hn1
          clear hn1 hn0 he hR
          go_wp2_with fail
          refine hV.out.mono ?_
          rintro e w4 ⟨rfl, hg4⟩
          go_wp2_with fail
          go_ret
          exact ⟨rfl, gr_trans hg3h.out hg4⟩
        · obtain ⟨m, hm⟩ : ∃ m, p.ms.length = m + 1 := ⟨p.ms.length - 1, by omega⟩
          have hsu := Pl.ptext_succ p (by omega : 0 < m)
          have hC := cutPlay_any p PA cA PB cB _ m w3 (hSh.out w3 (gr_refl _ _)) (by omega) hll.out (by omega) hDh.out.2.2.2.2.2.1 hDh.out.2.2.2.2.2.2
          rw [hll.out, show (m : Int) = (p.ms.length : Int) - 1 by omega] at hC
          have hCh := Lib.hid hC
          have hok1 := playOf_cut hvh.out m
          have hsm1 := Lib.hid (SmallP.cut hsmh.out m)
          have hlc : (p.cut m).ms.length = m := by simp [Pl.cut]; omega
          have htx : textOf r (p.cut m) = p.ptext m := by
            rw [(textOf_le hok1).1, hlc]
            exact Pl.ptext_same (Pl.same_cut p m)
          have hT := Lib.hid (fun (W : World) (A' : Option Addr) (cA' : Nat) (B' : Option Addr) (cB' : Nat) (G : Nat → Prop) (hS : PlS W G (p.cut m) A' B') => playText_any r (p.cut m) A' cA' B' cB' G W (by omega) hS hsm1.out)
          simp only [htx] at hT
          have hV := Lib.hid (fun (W : World) (hW : w3.grownBy W none) => playValid_any r p PA cA PB cB _ W (by omega) (hSh.out W hW) hsmh.out)
          simp only [hvh.out, hll.out] at hV
          have htxe : p.ptext p.ms.length = p.ptext m ++ 32 :: p.word m := by rw [hm]; exact hsu
          obtain ⟨tx, htxd⟩ : ∃ tx, tx = p.ptext p.ms.length := ⟨_, rfl⟩
          rw [← htxd] at htxe hRl ⊢
          have hne : ¬ tx = [] := by rw [htxe]; simp
          have hne2 : (tx == []) = false := by rw [beq_eq_false_iff_ne]; exact hne
          have hne3 : tx.isEmpty = false := by rw [htxe]; simp
          have hlt : (p.ptext m).length < tx.length := by rw [htxe]; simp
          have hex : (⟨tx.toArray⟩ : ByteArray).extract 0 (p.ptext m).length = ⟨(p.ptext m).toArray⟩ := by rw [extract_ba, htxe]; simp
          have h2 : ¬ (p.ms.length : Int) < 2 := by omega
          have h3 : 1 ≤ (p.ms.length : Int) := by omega
          have hmh := Lib.hid hm
          have hn0h := Lib.hid hn0
          have hn1h := Lib.hid hn1
          clear hC hok1 hlc htx hsu htxe htxd hm hn0 hn1 hR
          generalize p.ptext m = lx at *
          generalize p.cut m = pc at *
          go_wp2_with fail
          refine hCh.out.mono ?_
          rintro e w4 ⟨A', cA', B', cB', rfl, hO, hg4⟩
          have hT4 := Lib.hid (hT.out w4 A' cA' B' cB' _ hO.sl)
          go_wp2_with fail
          refine hT4.out.mono ?_
          rintro e w5 ⟨rfl, hg5⟩
          clear d0 d1 dlt
          have hg45 := gr_trans hg4 hg5
          obtain ⟨d0, d1, dlt⟩ := hbk.out w5 hg45
          have hV5 := Lib.hid (hV.out w5 hg45)
          have hl0 : 0 ≤ (lx.length : Int) := by omega
          have hl1 : (lx.length : Int) < (tx.length : Int) := by omega
          have hl2 : (lx.length : Int) ≤ (tx.length : Int) := by omega
          go_wp2_with fail
          refine hV5.out.mono ?_
          rintro e w6 ⟨rfl, hg6⟩
          go_wp2_with fail
          go_ret
          exact ⟨rfl, gr_trans hg3h.out (gr_trans hg45 hg6)⟩

section
open Go.ChangeShapes Go.WideShapes Go.ChangeAt Go.RowKit
open Go.ChangeMaps (open_string shut_string)
set_option maxRecDepth 100000 in
/-- The door's own heap meets the condition. -/
theorem FnPlayText_door (os : Os) (args : Array Value) : laidMetH Tryd.prog Rows.fnPlayTextRow.laid ((World.doorLaid Tryd.prog 24 os).forCall (fun _ _ => 0) ⟨#[], args, []⟩).memory :=
  laidMetH_of_parts3 (fuel := 8) (laidMet_of_run' 8 (by kernel_rfl) (by kernel_rfl)) (by kernel_rfl) (by kernel_rfl)
set_option maxRecDepth 100000 in
theorem FnPlayText_lifted (os : Os) (started : os.Started) (H : Type) (enc : TypeId × Value → H) :
    ReturnsInHanded {} Tryd.checked os 3 .any (fun w args => (Rows.fnPlayTextSpec.pre enc Tryd.prog Tryd.f3 [] false w args ∧ laidMetH Tryd.prog Rows.fnPlayTextRow.laid w) ∧ sizedMet enc Tryd.prog Tryd.f3 (OpenSpec.ofChange Rows.fnPlayTextSpec) false w args) (Rows.fnPlayTextSpec.post enc Tryd.prog Tryd.f3 false true false false) := by
  refine returnsInHanded_of_change_and (C := Tryd.checked) (X := fun w _ => laidMetH Tryd.prog Rows.fnPlayTextRow.laid w) (fun _ _ _ hh h => h.of_heap hh) Tryd.own started (by kernel_rfl) Tryd.func3
    (ChangeSpec.witness_shaped (enc := enc) (C := Tryd.checked) (os := os) (X := fun w _ => laidMetH Tryd.prog Rows.fnPlayTextRow.laid w) false (World.doorLaid Tryd.prog 24 os) #[.slice none 0 0] 8 rfl (World.shaped_of_RefB (by kernel_rfl) (by kernel_rfl)) (by kernel_rfl) (by kernel_rfl) (by kernel_rfl) (FnPlayText_door os _)) ?_
  intro W base args ds gs before hval0 hW _ _ _ _
  have hval : ∀ (j : Nat) t v, Tryd.f3.params[j]? = some t → args[j]? = some v → Value.okWide Tryd.prog W .any base t v := hval0
  have hW' := hW
  obtain ⟨p, q, hA0, hV, rfl, hfz, hnd⟩ := hW
  have hA : DataW.TrodAll enc Tryd.prog W 0 (fun _ => true) true Tryd.f3.params.toList args.toList ds p := hA0
  rw [Tryd.params3] at hA hval
  obtain ⟨v0, vs0, d0, ds0, p0, q0, hargs, rfl, rfl, h0, r0⟩ := trodAll_cons hA
  obtain ⟨rfl, rfl, rfl⟩ := trodAll_nil r0
  obtain rfl : args = #[v0] := by cases args; simp_all
  obtain ⟨rfl, rfl⟩ := trodVars_none hV
  obtain ⟨A0, n0, c0, rfl⟩ := okWide_slice Tryd.underlying22 (hval 0 22 v0 rfl rfl)
  have k0 := h0
  have lt0 : ∀ x ∈ p0, x.block < W.heap.size := by obtain ⟨m, hm⟩ := k0; exact DataW.trod_lt m _ _ _ hm
  obtain ⟨z0, w0⟩ : ∃ zs, IsRow .u8 W A0 n0 c0 zs := by
    obtain ⟨fuel, hf⟩ := h0
    rcases open_ints Tryd.underlying22 Tryd.underlying5 (by kernel_rfl) hf with ⟨hcs, _⟩ | ⟨x, l, c, zs, hcs, _, hl, hm, hz, _, hcell, hwz⟩
    · simp [Value.cells] at hcs
      obtain ⟨rfl, rfl, rfl⟩ := hcs
      exact ⟨[], .inl ⟨rfl, rfl, rfl, rfl⟩⟩
    · simp [Value.cells] at hcs
      obtain ⟨rfl, rfl, rfl⟩ := hcs
      exact ⟨zs, .inr ⟨_, rfl, hl, hm, by simpa using hz, hcell, hwz⟩⟩
  clear hA0 hval0
  refine (FnPlayText_walk A0 n0 c0 z0 W w0).mono fun e W' ⟨he, hg⟩ => ?_
  subst he
  have bel := below_gr hg
  exact ⟨_, rfl, _, _, _, [], _, [], hW', trodAll_mk1 (shut_bool Tryd.underlying4 _), (trodAll_cons_mk (Below.trod Tryd.laidOut (by kernel_rfl) (of_decide_eq_true (by kernel_rfl)) k0 bel lt0) trodAll_mk0), rfl, bel.frame _, fun h => by cases h⟩
end

/-- The statement. -/
theorem FnPlayText_holds : Rows.FnPlayTextSaid :=
  OpenClaim.holds_of_wide 3 Tryd.f3 rfl rfl rfl rfl rfl rfl rfl ⟨rfl, rfl, rfl, rfl, rfl⟩ rfl rfl rfl rfl rfl (by kernel_rfl) Tryd.func3 (by kernel_rfl)
    (of_decide_eq_true (by kernel_rfl)) (by unfold Func.isWrapper; first | (rw [if_pos (by decide +kernel)]; kernel_rfl) | (rw [if_neg (by decide +kernel)]; exact ⟨rfl, rfl⟩))
    (fun os started H enc _ => FnPlayText_lifted os started H enc)

/-- The card: the row, its listed variables tied to the program's text. -/
theorem FnPlayText_card : Rows.FnPlayTextCardSaid :=
  Claim7.holds_tied_plain_at .later [] Rows.fnPlayTextCard.laidKinds true Rows.fnPlayTextCard.stood.harness Rows.fnPlayTextCard.stood.looks
    FnPlayText_holds (fun _ h => by cases h) (by kernel_rfl) (fun _ h => by cases h) fnPlayText_row_tie rfl ⟨rfl, rfl⟩ (by kernel_rfl) rfl
    (fun f fn hf hfn => by
      obtain rfl : f = 3 := Option.some.inj ((show Tryd.prog.funcNamed "loop.example/innocentgames/laws.FnPlayText" = some 3 by kernel_rfl).symm.trans hf) |>.symm
      obtain rfl : fn = Tryd.f3 := (Option.some.inj (Tryd.func3.symm.trans hfn)).symm
      exact ⟨by kernel_rfl, fun j t ht => by
        rw [Tryd.params3] at ht
        have hm : t ∈ [22] := by simpa using Array.mem_of_getElem? ht
        have hall : ([22].all fun u => !Tryd.prog.wantsStandIn u) = true := by kernel_rfl
        exact (show Tryd.prog.wantsStandIn t = false by simpa using List.all_eq_true.1 hall t hm)⟩)
    (by kernel_rfl)
end Go.Proofs.YtkjkbcfifhakkaaDoor
