/- PROVED: 'laws.FnExactTermType' returns true for every input, and leaves its input as it was. No conditions. -/
import Derived.Test.YtiaafacmfflfiaaTermTy
import Derived.Test.YtiaafacmfflfiaaSTermTy
import Derived.Test.YtiaafacmfflfiaaRow
namespace Go.Proofs.Ytiaafacmfflfiaa
open Go.RowKit

set_option maxHeartbeats 400000 in
theorem FnExactTermType_walk (r : List UInt8) (w : World) (_hr : (⟨⟨r⟩⟩ : ByteArray).size ≤ maxLen) :
    Calls Try.prog 4 #[.string ⟨r.toArray⟩] w fun e w' => e = .returned (.bool true) ∧ w.grownBy w' none := by
  have hr2 : r.length ≤ maxLen := _hr
  unfold maxLen at hr2
  by_cases hl : r.length > 1048576
  · go_enter Try.func4, Try.ntmps4
    go_wp2_with fail
    go_ret
    exact ⟨rfl, gr_refl _ _⟩
  · have hS := Lib.hid (sTermType_any r w (by omega))
    have hI := Lib.hid (fun W => termType_any r W (by omega))
    cases hT : tyOf r with
    | none =>
      rw [hT] at hS hI
      simp only [tyRet] at hS hI
      clear hT
      go_enter Try.func4, Try.ntmps4
      go_wp2_with fail
      refine hS.out.mono ?_
      rintro e w1 ⟨rfl, hg1⟩
      go_wp2_with fail
      refine (hI.out w1).mono ?_
      rintro e w2 ⟨rfl, hg2⟩
      go_wp2_with fail
      all_goals go_ret
      all_goals exact ⟨rfl, gr_trans hg1 hg2⟩
    | some k =>
      rw [hT] at hS hI
      simp only [tyRet] at hS hI
      clear hT
      generalize k.text = x at *
      go_enter Try.func4, Try.ntmps4
      go_wp2_with fail
      refine hS.out.mono ?_
      rintro e w1 ⟨rfl, hg1⟩
      go_wp2_with fail
      refine (hI.out w1).mono ?_
      rintro e w2 ⟨rfl, hg2⟩
      go_wp2_with fail
      all_goals go_ret
      all_goals exact ⟨rfl, gr_trans hg1 hg2⟩

section
open Go.ChangeShapes Go.WideShapes Go.ChangeAt Go.RowKit
open Go.ChangeMaps (open_string shut_string)
set_option maxRecDepth 100000 in
theorem FnExactTermType_lifted (os : Os) (started : os.Started) (H : Type) (enc : TypeId × Value → H) :
    ReturnsInHanded {} Try.checked os 4 .any (Rows.fnExactTermTypeSpec.pre6 enc Try.prog Try.f4 Rows.fnExactTermTypeRow.domain false) (Rows.fnExactTermTypeSpec.post enc Try.prog Try.f4 false true false false) := by
  refine returnsInHanded_of_change (C := Try.checked) Try.own started (by kernel_rfl) Try.func4
    (ChangeSpec.witness6 (enc := enc) (C := Try.checked) false ⟨#[], #[.string ByteArray.empty], []⟩ 8 (by kernel_rfl) (by kernel_rfl) (by kernel_rfl) (by kernel_rfl)) ?_
  intro W base args ds gs before hval0 hW hcnd _
  have hval : ∀ (j : Nat) t v, Try.f4.params[j]? = some t → args[j]? = some v → Value.okWide Try.prog W .any base t v := hval0
  have hW' := hW
  obtain ⟨p, q, hA0, hV, rfl, hfz, hnd⟩ := hW
  have hA : DataW.TrodAll enc Try.prog W 0 (fun _ => true) true Try.f4.params.toList args.toList ds p := hA0
  rw [Try.params4] at hA hval
  obtain ⟨v0, vs0, d0, ds0, p0, q0, hargs, rfl, rfl, h0, r0⟩ := trodAll_cons hA
  obtain ⟨rfl, rfl, rfl⟩ := trodAll_nil r0
  obtain rfl : args = #[v0] := by cases args; simp_all
  obtain ⟨rfl, rfl⟩ := trodVars_none hV
  obtain ⟨⟨⟨a0⟩⟩, rfl, rfl, rfl, w0⟩ := open_string Try.underlying9 (hval 0 9 v0 rfl rfl) h0
  clear hA0 hval0
  simp only [List.append_nil] at hW'
  refine (FnExactTermType_walk a0 W w0).mono fun e W' ⟨he, hg⟩ => ?_
  subst he
  exact ⟨_, rfl, post_grown (pa := []) (pv := []) hW' (fun _ _ _ => (trodAll_cons_mk (shut_bool Try.underlying4 _) trodAll_mk0)) (fun sp _ => (trodAll_cons_mk (shut_string Try.underlying9 w0) trodAll_mk0)) (fun _ _ => rfl) rfl
    (below_gr hg) (ok_one (by kernel_rfl) rfl (okWide_bool_mk Try.underlying4 _))⟩
end

/-- The statement. -/
theorem FnExactTermType_holds : Rows.FnExactTermTypeSaid :=
  OpenClaim.holds_of_wide 4 Try.f4 rfl rfl rfl rfl rfl rfl rfl ⟨rfl, rfl, rfl, rfl, rfl⟩ rfl rfl rfl rfl rfl (by kernel_rfl) Try.func4 (by kernel_rfl)
    (of_decide_eq_true (by kernel_rfl)) (by unfold Func.isWrapper; first | (rw [if_pos (by decide +kernel)]; kernel_rfl) | (rw [if_neg (by decide +kernel)]; exact ⟨rfl, rfl⟩))
    (fun os started H enc _ => FnExactTermType_lifted os started H enc)
end Go.Proofs.Ytiaafacmfflfiaa
