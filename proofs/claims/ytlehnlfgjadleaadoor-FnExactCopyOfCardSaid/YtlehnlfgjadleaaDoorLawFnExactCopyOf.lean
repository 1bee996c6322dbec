/- PROVED: 'laws.FnExactCopyOf' returns true for every input, and leaves its input as it was. No conditions. -/
import Derived.Test.YtlehnlfgjadleaaDoorSCopy
import Derived.Test.YtlehnlfgjadleaaDoorICopyOf
import Derived.Test.YtlehnlfgjadleaaDoorCards
import Derived.Test.YtlehnlfgjadleaaDoorTie
import Derived.SevenTiedAt
import Derived.LaidMore
import Derived.Stop.Joined
import Derived.Test.YtlehnlfgjadleaaDoorRow
namespace Go.Proofs.YtlehnlfgjadleaaDoor
open Go.RowKit

set_option maxHeartbeats 400000 in
theorem FnExactCopyOf_walk (r : List UInt8) (w : World) (_hr : (⟨⟨r⟩⟩ : ByteArray).size ≤ maxLen) :
    Calls Tryd.prog 3 #[.string ⟨r.toArray⟩] w fun e w' => e = .returned (.bool true) ∧ w.grownBy w' none := by
  have hr2 : r.length ≤ maxLen := _hr
  unfold maxLen at hr2
  by_cases hr : r.length > 1048576
  · go_enter Tryd.func3, Tryd.ntmps3
    go_wp2_with fail
    go_ret
    exact ⟨rfl, gr_refl _ _⟩
  · have hS := Lib.hid (sCopyOf_any r w (by omega))
    have hI := Lib.hid (fun W => copyOfS_any r W (by omega))
    cases hX : cpy r with
    | none =>
      rw [hX] at hS hI
      unfold CRet at hS hI
      clear hX
      go_enter Tryd.func3, Tryd.ntmps3
      go_wp2_with fail
      refine hS.out.mono ?_
      rintro e w1 ⟨hg1, rfl⟩
      go_wp2_with fail
      refine (hI.out w1).mono ?_
      rintro e w2 ⟨hg2, rfl⟩
      go_wp2_with fail
      go_ret
      exact ⟨rfl, gr_trans hg1 hg2⟩
    | some b =>
      rw [hX] at hS hI
      unfold CRet at hS hI
      clear hX
      generalize b.text = l at *
      go_enter Tryd.func3, Tryd.ntmps3
      go_wp2_with fail
      refine hS.out.mono ?_
      rintro e w1 ⟨hg1, rfl⟩
      go_wp2_with fail
      refine (hI.out w1).mono ?_
      rintro e w2 ⟨hg2, rfl⟩
      go_wp2_with fail
      all_goals go_ret
      all_goals exact ⟨rfl, gr_trans hg1 hg2⟩

section
open Go.ChangeShapes Go.WideShapes Go.ChangeAt Go.RowKit
open Go.ChangeMaps (open_string shut_string)
set_option maxRecDepth 100000 in
/-- The door's own heap meets the condition. -/
theorem FnExactCopyOf_door (os : Os) (args : Array Value) : laidMetH Tryd.prog Rows.fnExactCopyOfRow.laid ((World.doorLaid Tryd.prog 62 os).forCall (fun _ _ => 0) ⟨#[], args, []⟩).memory :=
  laidMetH_of_parts3 (fuel := 8) (laidMet_of_run' 8 (by kernel_rfl) (by kernel_rfl)) (by kernel_rfl) (by kernel_rfl)
set_option maxRecDepth 100000 in
theorem FnExactCopyOf_lifted (os : Os) (started : os.Started) (H : Type) (enc : TypeId × Value → H) :
    ReturnsInHanded {} Tryd.checked os 3 .any (fun w args => (Rows.fnExactCopyOfSpec.pre enc Tryd.prog Tryd.f3 [] false w args ∧ laidMetH Tryd.prog Rows.fnExactCopyOfRow.laid w) ∧ sizedMet enc Tryd.prog Tryd.f3 (OpenSpec.ofChange Rows.fnExactCopyOfSpec) false w args) (Rows.fnExactCopyOfSpec.post enc Tryd.prog Tryd.f3 false true false false) := by
  refine returnsInHanded_of_change_and (C := Tryd.checked) (X := fun w _ => laidMetH Tryd.prog Rows.fnExactCopyOfRow.laid w) (fun _ _ _ hh h => h.of_heap hh) Tryd.own started (by kernel_rfl) Tryd.func3
    (ChangeSpec.witness_shaped (enc := enc) (C := Tryd.checked) (os := os) (X := fun w _ => laidMetH Tryd.prog Rows.fnExactCopyOfRow.laid w) false (World.doorLaid Tryd.prog 62 os) #[.string ByteArray.empty] 8 rfl (World.shaped_of_RefB (by kernel_rfl) (by kernel_rfl)) (by kernel_rfl) (by kernel_rfl) (by kernel_rfl) (FnExactCopyOf_door os _)) ?_
  intro W base args ds gs before hval0 hW _ _ _ _
  have hval : ∀ (j : Nat) t v, Tryd.f3.params[j]? = some t → args[j]? = some v → Value.okWide Tryd.prog W .any base t v := hval0
  have hW' := hW
  obtain ⟨p, q, hA0, hV, rfl, hfz, hnd⟩ := hW
  have hA : DataW.TrodAll enc Tryd.prog W 0 (fun _ => true) true Tryd.f3.params.toList args.toList ds p := hA0
  rw [Tryd.params3] at hA hval
  obtain ⟨v0, vs0, d0, ds0, p0, q0, hargs, rfl, rfl, h0, r0⟩ := trodAll_cons hA
  obtain ⟨rfl, rfl, rfl⟩ := trodAll_nil r0
  obtain rfl : args = #[v0] := by cases args; simp_all
  obtain ⟨rfl, rfl⟩ := trodVars_none hV
  obtain ⟨⟨⟨a0⟩⟩, rfl, rfl, rfl, w0⟩ := open_string Tryd.underlying9 (hval 0 9 v0 rfl rfl) h0
  clear hA0 hval0
  simp only [List.append_nil] at hW'
  refine (FnExactCopyOf_walk a0 W w0).mono fun e W' ⟨he, hg⟩ => ?_
  subst he
  exact ⟨_, rfl, post_grown (pa := []) (pv := []) hW' (fun _ _ _ => (trodAll_cons_mk (shut_bool Tryd.underlying4 _) trodAll_mk0)) (fun sp _ => (trodAll_cons_mk (shut_string Tryd.underlying9 w0) trodAll_mk0)) (fun _ _ => rfl) rfl
    (below_gr hg) (ok_one (by kernel_rfl) rfl (okWide_bool_mk Tryd.underlying4 _))⟩
end

/-- The statement. -/
theorem FnExactCopyOf_holds : Rows.FnExactCopyOfSaid :=
  OpenClaim.holds_of_wide 3 Tryd.f3 rfl rfl rfl rfl rfl rfl rfl ⟨rfl, rfl, rfl, rfl, rfl⟩ rfl rfl rfl rfl rfl (by kernel_rfl) Tryd.func3 (by kernel_rfl)
    (of_decide_eq_true (by kernel_rfl)) (by unfold Func.isWrapper; first | (rw [if_pos (by decide +kernel)]; kernel_rfl) | (rw [if_neg (by decide +kernel)]; exact ⟨rfl, rfl⟩))
    (fun os started H enc _ => FnExactCopyOf_lifted os started H enc)

/-- The card: the row, its listed variables tied to the program's text. -/
theorem FnExactCopyOf_card : Rows.FnExactCopyOfCardSaid :=
  Claim7.holds_tied_plain_at .later [] Rows.fnExactCopyOfCard.laidKinds true Rows.fnExactCopyOfCard.stood.harness Rows.fnExactCopyOfCard.stood.looks
    FnExactCopyOf_holds (fun _ h => by cases h) (by kernel_rfl) (fun _ h => by cases h) fnExactCopyOf_row_tie rfl ⟨rfl, rfl⟩ (by kernel_rfl) rfl
    (fun f fn hf hfn => by
      obtain rfl : f = 3 := Option.some.inj ((show Tryd.prog.funcNamed "loop.example/innocentgames/laws.FnExactCopyOf" = some 3 by kernel_rfl).symm.trans hf) |>.symm
      obtain rfl : fn = Tryd.f3 := (Option.some.inj (Tryd.func3.symm.trans hfn)).symm
      exact ⟨by kernel_rfl, fun j t ht => by
        rw [Tryd.params3] at ht
        have hm : t ∈ [9] := by simpa using Array.mem_of_getElem? ht
        have hall : ([9].all fun u => !Tryd.prog.wantsStandIn u) = true := by kernel_rfl
        exact (show Tryd.prog.wantsStandIn t = false by simpa using List.all_eq_true.1 hall t hm)⟩)
    (by kernel_rfl)
end Go.Proofs.YtlehnlfgjadleaaDoor
