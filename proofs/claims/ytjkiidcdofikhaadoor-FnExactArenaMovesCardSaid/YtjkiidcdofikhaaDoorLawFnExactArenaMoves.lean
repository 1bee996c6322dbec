/- PROVED: 'laws.FnExactArenaMoves' returns true for every input, and leaves its input as it was. No conditions. -/
import Derived.Test.YtjkiidcdofikhaaDoorArena
import Derived.Test.YtjkiidcdofikhaaDoorLists
import Derived.Test.YtjkiidcdofikhaaDoorCards
import Derived.Test.YtjkiidcdofikhaaDoorTie
import Derived.SevenTiedAt
import Derived.LaidMore
import Derived.Stop.Joined
import Derived.Test.YtjkiidcdofikhaaDoorRow
namespace Go.Proofs.YtjkiidcdofikhaaDoor
open Go.RowKit

set_option maxHeartbeats 1000000 in
theorem FnExactArenaMoves_walk (r : List UInt8) (w : World) (_hr : (⟨⟨r⟩⟩ : ByteArray).size ≤ maxLen) :
    Calls Tryd.prog 3 #[.string ⟨r.toArray⟩] w fun e w' => e = .returned (.bool true) ∧ w.grownBy w' none := by
  have hr2 : r.length ≤ maxLen := _hr
  unfold maxLen at hr2
  by_cases hl : r.length > 1048576
  · go_enter Tryd.func3, Tryd.ntmps3
    go_wp2_with fail
    go_ret
    exact ⟨rfl, gr_refl _ _⟩
  · go_enter Tryd.func3, Tryd.ntmps3
    go_wp2_with fail
    refine (sArenaMoves_any r w (by omega)).mono ?_
    rintro e w1 ⟨hp1, hg1⟩
    unfold ArenaPost at hp1
    obtain ⟨A0, c0, rfl, hown0⟩ := hp1
    go_wp2_with fail
    refine (arenaMoves_any r w1 (by omega)).mono ?_
    rintro e w2 ⟨hp2, hg2⟩
    unfold ArenaPost at hp2
    obtain ⟨A1, c1, rfl, hown1⟩ := hp2
    have hT := Lib.hid (fun W => arenaMoves_any r W (by omega))
    unfold ArenaPost at hT
    have hx := arenaL_len r
    generalize arenaL r = xs at *
    have ht : ((Ty.read r).isSome != (Ty.read r).isSome) = false := by simp
    generalize (Ty.read r).isSome = b at *
    have hown0' := own_keep hown0 hg2
    go_wp2_with fail
    refine (eqStringS_any xs xs A1 A0 c1 c0 _ _ w2 (own_sl hown1).1 (own_sl hown0').1 (by omega) (by omega)).mono ?_
    rintro e w3 ⟨rfl, hg3⟩
    rw [beq_self_eq_true]
    have hown1c := own_keep hown1 hg3
    have hown0c := own_keep hown0' hg3
    go_wp2_with fail
    refine (markStringS_any _ _ c1 1 A1 _ w3 hown1c (by omega) (by omega) (by omega)).mono ?_
    rintro e w4 ⟨rfl, hown4, hg4⟩
    have hg4w := gr_own (gr_trans (gr_trans hg1 hg2) hg3) (own_weak hown1c hg1.size) hg4
    have hown04 := own_keep2 hown0c hg4 (by
      intro g hg _ he
      have h1 := hown0.lt g hg
      have h2 := own_base hown1c he.symm
      omega)
    have hS4 := (own_sl hown4).1
    rw [marks_length] at hS4
    go_wp2_with fail
    refine (heldStringS_any _ c1 1 A1 _ w4 hS4 (by omega) (by omega) (by omega)).mono ?_
    rintro e w5 ⟨rfl, hg5⟩
    go_wp2_with fail
    refine (hT.out w5).mono ?_
    rintro e w6 ⟨⟨A2, c2, rfl, hown2⟩, hg6⟩
    go_wp2_with fail
    refine (eqStringS_any xs xs A2 A0 c2 c0 _ _ w6 (own_sl hown2).1 (own_sl (own_keep hown04 (gr_trans hg5 hg6))).1 (by omega) (by omega)).mono ?_
    rintro e w7 ⟨rfl, hg7⟩
    rw [beq_self_eq_true]
    go_wp2_with fail
    refine (heldStringS_any _ c1 1 A1 _ w7 (hS4.grown0 (gr_trans (gr_trans hg5 hg6) hg7)) (by omega) (by omega) (by omega)).mono ?_
    rintro e w8 ⟨rfl, hg8⟩
    go_wp2_with fail
    go_ret
    exact ⟨rfl, gr_trans (gr_trans (gr_trans (gr_trans hg4w hg5) hg6) hg7) hg8⟩

section
open Go.ChangeShapes Go.WideShapes Go.ChangeAt Go.RowKit
open Go.ChangeMaps (open_string shut_string)
set_option maxRecDepth 100000 in
/-- The door's own heap meets the condition. -/
theorem FnExactArenaMoves_door (os : Os) (args : Array Value) : laidMetH Tryd.prog Rows.fnExactArenaMovesRow.laid ((World.doorLaid Tryd.prog 62 os).forCall (fun _ _ => 0) ⟨#[], args, []⟩).memory :=
  laidMetH_of_parts3 (fuel := 8) (laidMet_of_run' 8 (by kernel_rfl) (by kernel_rfl)) (by kernel_rfl) (by kernel_rfl)
set_option maxRecDepth 100000 in
theorem FnExactArenaMoves_lifted (os : Os) (started : os.Started) (H : Type) (enc : TypeId × Value → H) :
    ReturnsInHanded {} Tryd.checked os 3 .any (fun w args => (Rows.fnExactArenaMovesSpec.pre enc Tryd.prog Tryd.f3 [] false w args ∧ laidMetH Tryd.prog Rows.fnExactArenaMovesRow.laid w) ∧ sizedMet enc Tryd.prog Tryd.f3 (OpenSpec.ofChange Rows.fnExactArenaMovesSpec) false w args) (Rows.fnExactArenaMovesSpec.post enc Tryd.prog Tryd.f3 false true false false) := by
  refine returnsInHanded_of_change_and (C := Tryd.checked) (X := fun w _ => laidMetH Tryd.prog Rows.fnExactArenaMovesRow.laid w) (fun _ _ _ hh h => h.of_heap hh) Tryd.own started (by kernel_rfl) Tryd.func3
    (ChangeSpec.witness_shaped (enc := enc) (C := Tryd.checked) (os := os) (X := fun w _ => laidMetH Tryd.prog Rows.fnExactArenaMovesRow.laid w) false (World.doorLaid Tryd.prog 62 os) #[.string ByteArray.empty] 8 rfl (World.shaped_of_RefB (by kernel_rfl) (by kernel_rfl)) (by kernel_rfl) (by kernel_rfl) (by kernel_rfl) (FnExactArenaMoves_door os _)) ?_
  intro W base args ds gs before hval0 hW _ _ _ _
  have hval : ∀ (j : Nat) t v, Tryd.f3.params[j]? = some t → args[j]? = some v → Value.okWide Tryd.prog W .any base t v := hval0
  have hW' := hW
  obtain ⟨p, q, hA0, hV, rfl, hfz, hnd⟩ := hW
  have hA : DataW.TrodAll enc Tryd.prog W 0 (fun _ => true) true Tryd.f3.params.toList args.toList ds p := hA0
  rw [Tryd.params3] at hA hval
  obtain ⟨v0, vs0, d0, ds0, p0, q0, hargs, rfl, rfl, h0, r0⟩ := trodAll_cons hA
  obtain ⟨rfl, rfl, rfl⟩ := trodAll_nil r0
  obtain rfl : args = #[v0] := by cases args; simp_all
  obtain ⟨rfl, rfl⟩ := trodVars_none hV
  obtain ⟨⟨⟨a0⟩⟩, rfl, rfl, rfl, w0⟩ := open_string Tryd.underlying9 (hval 0 9 v0 rfl rfl) h0
  clear hA0 hval0
  simp only [List.append_nil] at hW'
  refine (FnExactArenaMoves_walk a0 W w0).mono fun e W' ⟨he, hg⟩ => ?_
  subst he
  exact ⟨_, rfl, post_grown (pa := []) (pv := []) hW' (fun _ _ _ => (trodAll_cons_mk (shut_bool Tryd.underlying4 _) trodAll_mk0)) (fun sp _ => (trodAll_cons_mk (shut_string Tryd.underlying9 w0) trodAll_mk0)) (fun _ _ => rfl) rfl
    (below_gr hg) (ok_one (by kernel_rfl) rfl (okWide_bool_mk Tryd.underlying4 _))⟩
end

/-- The statement. -/
theorem FnExactArenaMoves_holds : Rows.FnExactArenaMovesSaid :=
  OpenClaim.holds_of_wide 3 Tryd.f3 rfl rfl rfl rfl rfl rfl rfl ⟨rfl, rfl, rfl, rfl, rfl⟩ rfl rfl rfl rfl rfl (by kernel_rfl) Tryd.func3 (by kernel_rfl)
    (of_decide_eq_true (by kernel_rfl)) (by unfold Func.isWrapper; first | (rw [if_pos (by decide +kernel)]; kernel_rfl) | (rw [if_neg (by decide +kernel)]; exact ⟨rfl, rfl⟩))
    (fun os started H enc _ => FnExactArenaMoves_lifted os started H enc)

/-- The card: the row, its listed variables tied to the program's text. -/
theorem FnExactArenaMoves_card : Rows.FnExactArenaMovesCardSaid :=
  Claim7.holds_tied_plain_at .later [] Rows.fnExactArenaMovesCard.laidKinds true Rows.fnExactArenaMovesCard.stood.harness Rows.fnExactArenaMovesCard.stood.looks
    FnExactArenaMoves_holds (fun _ h => by cases h) (by kernel_rfl) (fun _ h => by cases h) fnExactArenaMoves_row_tie rfl ⟨rfl, rfl⟩ (by kernel_rfl) rfl
    (fun f fn hf hfn => by
      obtain rfl : f = 3 := Option.some.inj ((show Tryd.prog.funcNamed "loop.example/innocentgames/laws.FnExactArenaMoves" = some 3 by kernel_rfl).symm.trans hf) |>.symm
      obtain rfl : fn = Tryd.f3 := (Option.some.inj (Tryd.func3.symm.trans hfn)).symm
      exact ⟨by kernel_rfl, fun j t ht => by
        rw [Tryd.params3] at ht
        have hm : t ∈ [9] := by simpa using Array.mem_of_getElem? ht
        have hall : ([9].all fun u => !Tryd.prog.wantsStandIn u) = true := by kernel_rfl
        exact (show Tryd.prog.wantsStandIn t = false by simpa using List.all_eq_true.1 hall t hm)⟩)
    (by kernel_rfl)
end Go.Proofs.YtjkiidcdofikhaaDoor
