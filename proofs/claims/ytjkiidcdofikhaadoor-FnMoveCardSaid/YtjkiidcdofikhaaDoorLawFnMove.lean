/- PROVED: 'laws.FnMove' returns true for every input, and leaves its input as it was. No conditions. -/
import Derived.Test.YtjkiidcdofikhaaDoorArena
import Derived.Test.YtjkiidcdofikhaaDoorMoves
import Derived.Test.YtjkiidcdofikhaaDoorDraw4
import Derived.Test.YtjkiidcdofikhaaDoorCards
import Derived.Test.YtjkiidcdofikhaaDoorTie
import Derived.SevenTiedAt
import Derived.LaidMore
import Derived.Stop.Joined
import Derived.Test.YtjkiidcdofikhaaDoorRow
namespace Go.Proofs.YtjkiidcdofikhaaDoor
open Go.RowKit

set_option maxHeartbeats 1000000 in
theorem FnMove_walk (A : Option Addr) (n c : Nat) (zs : List Int) (w : World) (h : IsRow .u8 w A n c zs) :
    Calls Tryd.prog 5 #[.slice A n c] w fun e w' => e = .returned (.bool true) ∧ w.grownBy w' none := by
  by_cases hl : n > 1048576
  · go_enter Tryd.func5, Tryd.ntmps5
    go_wp2_with fail
    go_ret
    exact ⟨rfl, gr_refl _ _⟩
  · go_enter Tryd.func5, Tryd.ntmps5
    go_wp2_with fail
    refine (drawMoveValid_any A n c zs w h).mono ?_
    rintro e w1 ⟨s, m, hs, hm, rfl, hg1⟩
    go_wp2_with fail
    refine (moveValid_any s m w1 (by omega) (by omega)).mono ?_
    rintro e w2 ⟨rfl, hg2⟩
    go_wp2_with fail
    refine (sMoveValid_any s m w2 (by omega) (by omega)).mono ?_
    rintro e w3 ⟨rfl, hg3⟩
    have hg03 := gr_trans hg1 (gr_trans hg2 hg3)
    cases hv : moveOf s m with
    | false =>
      clear hv
      go_wp2_with fail
      go_ret
      exact ⟨rfl, hg03⟩
    | true =>
      have hA := Lib.hid (arenaMoves_any s w3 (by omega))
      have hP := Lib.hid (fun W => movePlayer_any s m W (by omega) (by omega))
      unfold ArenaPost at hA
      obtain ⟨t, htr, hmv⟩ : ∃ t, Ty.read s = some t ∧ isMove t m = true := by
        unfold moveOf at hv
        cases hr : Ty.read s with
        | none => rw [hr] at hv; cases hv
        | some t => rw [hr] at hv; exact ⟨t, rfl, hv⟩
      have hc : hasT (arenaL s) m = true := by
        unfold hasT arenaL
        rw [htr, List.contains_iff_mem]
        exact (mem_movesT (Ty.read_some htr).2 m).2 hmv
      have hsome : (Ty.read s).isSome = true := by rw [htr]; rfl
      obtain ⟨a, p, rfl⟩ := moveOf_cons hv
      have hpl : playerOf s (a :: p) = if byOpp a p then [79] else [80] := by unfold playerOf; rw [hv]; rfl
      simp only [hpl] at hP
      simp only [hsome] at hA
      have hlen := arenaL_len s
      have hch := Lib.hid hc
      clear hv htr hmv hc hsome hpl
      generalize arenaL s = xs at *
      go_wp2_with fail
      refine hA.out.mono ?_
      rintro e w4 ⟨⟨A1, c1, rfl, hown⟩, hg4⟩
      cases hb : byOpp a p with
      | true =>
        simp only [hb, if_true] at hP
        clear hb
        go_wp2_with fail
        refine (hP.out w4).mono ?_
        rintro e w5 ⟨rfl, hg5⟩
        have hT := hasText_any xs (a :: p) A1 c1 _ w5 (own_sl (own_keep hown hg5)).1 (by omega)
        rw [hch.out] at hT
        have hTh := Lib.hid hT
        clear hT
        go_wp2_with fail
        refine hTh.out.mono ?_
        rintro e w' ⟨rfl, rfl⟩
        go_wp2_with fail
        go_ret
        exact ⟨rfl, gr_trans hg03 (gr_trans hg4 hg5)⟩
      | false =>
        simp only [hb, Bool.false_eq_true, if_false] at hP
        clear hb
        go_wp2_with fail
        refine (hP.out w4).mono ?_
        rintro e w5 ⟨rfl, hg5⟩
        have hT := hasText_any xs (a :: p) A1 c1 _ w5 (own_sl (own_keep hown hg5)).1 (by omega)
        rw [hch.out] at hT
        have hTh := Lib.hid hT
        clear hT
        go_wp2_with fail
        refine hTh.out.mono ?_
        rintro e w' ⟨rfl, rfl⟩
        go_wp2_with fail
        go_ret
        exact ⟨rfl, gr_trans hg03 (gr_trans hg4 hg5)⟩

section
open Go.ChangeShapes Go.WideShapes Go.ChangeAt Go.RowKit
open Go.ChangeMaps (open_string shut_string)
set_option maxRecDepth 100000 in
/-- The door's own heap meets the condition. -/
theorem FnMove_door (os : Os) (args : Array Value) : laidMetH Tryd.prog Rows.fnMoveRow.laid ((World.doorLaid Tryd.prog 62 os).forCall (fun _ _ => 0) ⟨#[], args, []⟩).memory :=
  laidMetH_of_parts3 (fuel := 8) (laidMet_of_run' 8 (by kernel_rfl) (by kernel_rfl)) (by kernel_rfl) (by kernel_rfl)
set_option maxRecDepth 100000 in
theorem FnMove_lifted (os : Os) (started : os.Started) (H : Type) (enc : TypeId × Value → H) :
    ReturnsInHanded {} Tryd.checked os 5 .any (fun w args => (Rows.fnMoveSpec.pre enc Tryd.prog Tryd.f5 [] false w args ∧ laidMetH Tryd.prog Rows.fnMoveRow.laid w) ∧ sizedMet enc Tryd.prog Tryd.f5 (OpenSpec.ofChange Rows.fnMoveSpec) false w args) (Rows.fnMoveSpec.post enc Tryd.prog Tryd.f5 false true false false) := by
  refine returnsInHanded_of_change_and (C := Tryd.checked) (X := fun w _ => laidMetH Tryd.prog Rows.fnMoveRow.laid w) (fun _ _ _ hh h => h.of_heap hh) Tryd.own started (by kernel_rfl) Tryd.func5
    (ChangeSpec.witness_shaped (enc := enc) (C := Tryd.checked) (os := os) (X := fun w _ => laidMetH Tryd.prog Rows.fnMoveRow.laid w) false (World.doorLaid Tryd.prog 62 os) #[.slice none 0 0] 8 rfl (World.shaped_of_RefB (by kernel_rfl) (by kernel_rfl)) (by kernel_rfl) (by kernel_rfl) (by kernel_rfl) (FnMove_door os _)) ?_
  intro W base args ds gs before hval0 hW _ _ _ _
  have hval : ∀ (j : Nat) t v, Tryd.f5.params[j]? = some t → args[j]? = some v → Value.okWide Tryd.prog W .any base t v := hval0
  have hW' := hW
  obtain ⟨p, q, hA0, hV, rfl, hfz, hnd⟩ := hW
  have hA : DataW.TrodAll enc Tryd.prog W 0 (fun _ => true) true Tryd.f5.params.toList args.toList ds p := hA0
  rw [Tryd.params5] at hA hval
  obtain ⟨v0, vs0, d0, ds0, p0, q0, hargs, rfl, rfl, h0, r0⟩ := trodAll_cons hA
  obtain ⟨rfl, rfl, rfl⟩ := trodAll_nil r0
  obtain rfl : args = #[v0] := by cases args; simp_all
  obtain ⟨rfl, rfl⟩ := trodVars_none hV
  obtain ⟨A0, n0, c0, rfl⟩ := okWide_slice Tryd.underlying28 (hval 0 28 v0 rfl rfl)
  have k0 := h0
  have lt0 : ∀ x ∈ p0, x.block < W.heap.size := by obtain ⟨m, hm⟩ := k0; exact DataW.trod_lt m _ _ _ hm
  obtain ⟨z0, w0⟩ : ∃ zs, IsRow .u8 W A0 n0 c0 zs := by
    obtain ⟨fuel, hf⟩ := h0
    rcases open_ints Tryd.underlying28 Tryd.underlying5 (by kernel_rfl) hf with ⟨hcs, _⟩ | ⟨x, l, c, zs, hcs, _, hl, hm, hz, _, hcell, hwz⟩
    · simp [Value.cells] at hcs
      obtain ⟨rfl, rfl, rfl⟩ := hcs
      exact ⟨[], .inl ⟨rfl, rfl, rfl, rfl⟩⟩
    · simp [Value.cells] at hcs
      obtain ⟨rfl, rfl, rfl⟩ := hcs
      exact ⟨zs, .inr ⟨_, rfl, hl, hm, by simpa using hz, hcell, hwz⟩⟩
  clear hA0 hval0
  refine (FnMove_walk A0 n0 c0 z0 W w0).mono fun e W' ⟨he, hg⟩ => ?_
  subst he
  have bel := below_gr hg
  exact ⟨_, rfl, _, _, _, [], _, [], hW', trodAll_mk1 (shut_bool Tryd.underlying4 _), (trodAll_cons_mk (Below.trod Tryd.laidOut (by kernel_rfl) (of_decide_eq_true (by kernel_rfl)) k0 bel lt0) trodAll_mk0), rfl, bel.frame _, fun h => by cases h⟩
end

/-- The statement. -/
theorem FnMove_holds : Rows.FnMoveSaid :=
  OpenClaim.holds_of_wide 5 Tryd.f5 rfl rfl rfl rfl rfl rfl rfl ⟨rfl, rfl, rfl, rfl, rfl⟩ rfl rfl rfl rfl rfl (by kernel_rfl) Tryd.func5 (by kernel_rfl)
    (of_decide_eq_true (by kernel_rfl)) (by unfold Func.isWrapper; first | (rw [if_pos (by decide +kernel)]; kernel_rfl) | (rw [if_neg (by decide +kernel)]; exact ⟨rfl, rfl⟩))
    (fun os started H enc _ => FnMove_lifted os started H enc)

/-- The card: the row, its listed variables tied to the program's text. -/
theorem FnMove_card : Rows.FnMoveCardSaid :=
  Claim7.holds_tied_plain_at .later [] Rows.fnMoveCard.laidKinds true Rows.fnMoveCard.stood.harness Rows.fnMoveCard.stood.looks
    FnMove_holds (fun _ h => by cases h) (by kernel_rfl) (fun _ h => by cases h) fnMove_row_tie rfl ⟨rfl, rfl⟩ (by kernel_rfl) rfl
    (fun f fn hf hfn => by
      obtain rfl : f = 5 := Option.some.inj ((show Tryd.prog.funcNamed "loop.example/innocentgames/laws.FnMove" = some 5 by kernel_rfl).symm.trans hf) |>.symm
      obtain rfl : fn = Tryd.f5 := (Option.some.inj (Tryd.func5.symm.trans hfn)).symm
      exact ⟨by kernel_rfl, fun j t ht => by
        rw [Tryd.params5] at ht
        have hm : t ∈ [28] := by simpa using Array.mem_of_getElem? ht
        have hall : ([28].all fun u => !Tryd.prog.wantsStandIn u) = true := by kernel_rfl
        exact (show Tryd.prog.wantsStandIn t = false by simpa using List.all_eq_true.1 hall t hm)⟩)
    (by kernel_rfl)
end Go.Proofs.YtjkiidcdofikhaaDoor
