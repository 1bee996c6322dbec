/- PROVED: 'laws.FnExactStrategyValid' returns true for every input, and leaves its input as it was. No conditions. -/
import Derived.Test.YtlehnlfgjadleaaDoorIStrat
import Derived.Test.YtlehnlfgjadleaaDoorLaid
import Derived.Test.YtlehnlfgjadleaaDoorCards
import Derived.Test.YtlehnlfgjadleaaDoorTie
import Derived.SevenTiedAt
import Derived.LaidMore
import Derived.Stop.Joined
import Derived.Test.YtlehnlfgjadleaaDoorRow
namespace Go.Proofs.YtlehnlfgjadleaaDoor
open Go.RowKit

set_option maxHeartbeats 400000 in
theorem FnExactStrategyValid_walk (r l : List UInt8) (w : World) (_hr : (⟨⟨r⟩⟩ : ByteArray).size ≤ maxLen) (_hl : (⟨⟨l⟩⟩ : ByteArray).size ≤ maxLen) (hL : LaidW w w.heap.size) :
    Calls Tryd.prog 4 #[.string ⟨r.toArray⟩, .string ⟨l.toArray⟩] w fun e w' => e = .returned (.bool true) ∧ w.grownBy w' none := by
  have hr2 : r.length ≤ maxLen := _hr
  have hl2 : l.length ≤ maxLen := _hl
  unfold maxLen at hr2 hl2
  by_cases hr : r.length > 1048576
  · go_enter Tryd.func4, Tryd.ntmps4
    go_wp2_with fail
    go_ret
    exact ⟨rfl, gr_refl _ _⟩
  · by_cases hl : l.length > 1048576
    · go_enter Tryd.func4, Tryd.ntmps4
      go_wp2_with fail
      go_ret
      exact ⟨rfl, gr_refl _ _⟩
    · have hS := Lib.hid (sStrategyValid_any r l w (by omega) (by omega))
      have hI := Lib.hid (fun W (hW : w.grownBy W none) => strategyValid_any r l W w.heap.size (by omega) (by omega) (hL.grown0 hW))
      generalize (strat r l).isSome = x at *
      go_enter Tryd.func4, Tryd.ntmps4
      go_wp2_with fail
      refine hS.out.mono ?_
      rintro e w1 ⟨rfl, hg1⟩
      go_wp2_with fail
      refine (hI.out w1 hg1).mono ?_
      rintro e w2 ⟨rfl, hg2⟩
      have hb : (x != x) = false := by cases x <;> rfl
      go_wp2_with fail
      all_goals go_ret
      all_goals exact ⟨rfl, gr_trans hg1 hg2⟩

section
open Go.ChangeShapes Go.WideShapes Go.ChangeAt Go.RowKit
open Go.ChangeMaps (open_string shut_string)
set_option maxRecDepth 100000 in
/-- The door's own heap meets the condition. -/
theorem FnExactStrategyValid_door (os : Os) (args : Array Value) : laidMetH Tryd.prog Rows.fnExactStrategyValidRow.laid ((World.doorLaid Tryd.prog 62 os).forCall (fun _ _ => 0) ⟨#[], args, []⟩).memory :=
  laidMetH_of_parts3 (fuel := 8) (laidMet_of_run' 8 (by kernel_rfl) (by kernel_rfl)) (by kernel_rfl) (by kernel_rfl)
set_option maxRecDepth 100000 in
theorem FnExactStrategyValid_lifted (os : Os) (started : os.Started) (H : Type) (enc : TypeId × Value → H) :
    ReturnsInHanded {} Tryd.checked os 4 .any (fun w args => (Rows.fnExactStrategyValidSpec.pre enc Tryd.prog Tryd.f4 [] false w args ∧ laidMetH Tryd.prog Rows.fnExactStrategyValidRow.laid w) ∧ sizedMet enc Tryd.prog Tryd.f4 (OpenSpec.ofChange Rows.fnExactStrategyValidSpec) false w args) (Rows.fnExactStrategyValidSpec.post enc Tryd.prog Tryd.f4 false true false false) := by
  refine returnsInHanded_of_change_and (C := Tryd.checked) (X := fun w _ => laidMetH Tryd.prog Rows.fnExactStrategyValidRow.laid w) (fun _ _ _ hh h => h.of_heap hh) Tryd.own started (by kernel_rfl) Tryd.func4
    (ChangeSpec.witness_shaped (enc := enc) (C := Tryd.checked) (os := os) (X := fun w _ => laidMetH Tryd.prog Rows.fnExactStrategyValidRow.laid w) false (World.doorLaid Tryd.prog 62 os) #[.string ByteArray.empty, .string ByteArray.empty] 8 rfl (World.shaped_of_RefB (by kernel_rfl) (by kernel_rfl)) (by kernel_rfl) (by kernel_rfl) (by kernel_rfl) (FnExactStrategyValid_door os _)) ?_
  intro W base args ds gs before hval0 hW _ _ hX _
  have hval : ∀ (j : Nat) t v, Tryd.f4.params[j]? = some t → args[j]? = some v → Value.okWide Tryd.prog W .any base t v := hval0
  have hW' := hW
  obtain ⟨p, q, hA0, hV, rfl, hfz, hnd⟩ := hW
  have hA : DataW.TrodAll enc Tryd.prog W 0 (fun _ => true) true Tryd.f4.params.toList args.toList ds p := hA0
  rw [Tryd.params4] at hA hval
  obtain ⟨v0, vs0, d0, ds0, p0, q0, hargs, rfl, rfl, h0, r0⟩ := trodAll_cons hA
  obtain ⟨v1, vs1, d1, ds1, p1, q1, rfl, rfl, rfl, h1, r1⟩ := trodAll_cons r0
  obtain ⟨rfl, rfl, rfl⟩ := trodAll_nil r1
  obtain rfl : args = #[v0, v1] := by cases args; simp_all
  obtain ⟨rfl, rfl⟩ := trodVars_none hV
  obtain ⟨⟨⟨a0⟩⟩, rfl, rfl, rfl, w0⟩ := open_string Tryd.underlying9 (hval 0 9 v0 rfl rfl) h0
  obtain ⟨⟨⟨a1⟩⟩, rfl, rfl, rfl, w1⟩ := open_string Tryd.underlying9 (hval 1 9 v1 rfl rfl) h1
  clear hA0 hval0
  simp only [List.append_nil] at hW'
  refine (FnExactStrategyValid_walk a0 a1 W w0 w1 (laidW_of (laidH_of hX))).mono fun e W' ⟨he, hg⟩ => ?_
  subst he
  exact ⟨_, rfl, post_grown (pa := []) (pv := []) hW' (fun _ _ _ => (trodAll_cons_mk (shut_bool Tryd.underlying4 _) trodAll_mk0)) (fun sp _ => (trodAll_cons_mk (shut_string Tryd.underlying9 w0) (trodAll_cons_mk (shut_string Tryd.underlying9 w1) trodAll_mk0))) (fun _ _ => rfl) rfl
    (below_gr hg) (ok_one (by kernel_rfl) rfl (okWide_bool_mk Tryd.underlying4 _))⟩
end

/-- The statement. -/
theorem FnExactStrategyValid_holds : Rows.FnExactStrategyValidSaid :=
  OpenClaim.holds_of_wide 4 Tryd.f4 rfl rfl rfl rfl rfl rfl rfl ⟨rfl, rfl, rfl, rfl, rfl⟩ rfl rfl rfl rfl rfl (by kernel_rfl) Tryd.func4 (by kernel_rfl)
    (of_decide_eq_true (by kernel_rfl)) (by unfold Func.isWrapper; first | (rw [if_pos (by decide +kernel)]; kernel_rfl) | (rw [if_neg (by decide +kernel)]; exact ⟨rfl, rfl⟩))
    (fun os started H enc _ => FnExactStrategyValid_lifted os started H enc)

/-- The card: the row, its listed variables tied to the program's text. -/
theorem FnExactStrategyValid_card : Rows.FnExactStrategyValidCardSaid :=
  Claim7.holds_tied_plain_at .later [] Rows.fnExactStrategyValidCard.laidKinds true Rows.fnExactStrategyValidCard.stood.harness Rows.fnExactStrategyValidCard.stood.looks
    FnExactStrategyValid_holds (fun _ h => by cases h) (by kernel_rfl) (fun _ h => by cases h) fnExactStrategyValid_row_tie rfl ⟨rfl, rfl⟩ (by kernel_rfl) rfl
    (fun f fn hf hfn => by
      obtain rfl : f = 4 := Option.some.inj ((show Tryd.prog.funcNamed "loop.example/innocentgames/laws.FnExactStrategyValid" = some 4 by kernel_rfl).symm.trans hf) |>.symm
      obtain rfl : fn = Tryd.f4 := (Option.some.inj (Tryd.func4.symm.trans hfn)).symm
      exact ⟨by kernel_rfl, fun j t ht => by
        rw [Tryd.params4] at ht
        have hm : t ∈ [9, 9] := by simpa using Array.mem_of_getElem? ht
        have hall : ([9, 9].all fun u => !Tryd.prog.wantsStandIn u) = true := by kernel_rfl
        exact (show Tryd.prog.wantsStandIn t = false by simpa using List.all_eq_true.1 hall t hm)⟩)
    (by kernel_rfl)
end Go.Proofs.YtlehnlfgjadleaaDoor
