/- PROVED: 'laws.FnExactTypeArgs' returns true for every input, and leaves its input as it was. No conditions. -/
import Derived.Test.YtnfcabhondmhpaaLists
import Derived.Test.YtnfcabhondmhpaaRow
namespace Go.Proofs.Ytnfcabhondmhpaa
open Go.RowKit

set_option maxHeartbeats 1000000 in
theorem FnExactTypeArgs_walk (r : List UInt8) (w : World) (_hr : (⟨⟨r⟩⟩ : ByteArray).size ≤ maxLen) :
    Calls Try.prog 12 #[.string ⟨r.toArray⟩] w fun e w' => e = .returned (.bool true) ∧ w.grownBy w' none := by
  have hr2 : r.length ≤ maxLen := _hr
  unfold maxLen at hr2
  by_cases hl : r.length > 1048576
  · go_enter Try.func12, Try.ntmps12
    go_wp2_with fail
    go_ret
    exact ⟨rfl, gr_refl _ _⟩
  · go_enter Try.func12, Try.ntmps12
    go_wp2_with fail
    refine (sTypeArgs_any r w (by omega)).mono ?_
    rintro e w1 ⟨hp1, hg1⟩
    unfold ArgsPost at hp1
    obtain ⟨A0, c0, rfl, hown0⟩ := hp1
    go_wp2_with fail
    refine (typeArgs_any r w1 (by omega)).mono ?_
    rintro e w2 ⟨hp2, hg2⟩
    unfold ArgsPost at hp2
    obtain ⟨A1, c1, rfl, hown1⟩ := hp2
    have hT := Lib.hid (fun W => typeArgs_any r W (by omega))
    unfold ArgsPost at hT
    have hx := argL_len r
    generalize argL r = xs at *
    have ht : ((Ty.read r).isSome != (Ty.read r).isSome) = false := by simp
    generalize (Ty.read r).isSome = b at *
    have hown0' := own_keep hown0 hg2
    go_wp2_with fail
    refine (eqStringS_any xs xs A1 A0 c1 c0 _ _ w2 (own_sl hown1).1 (own_sl hown0').1 (by omega) (by omega)).mono ?_
    rintro e w3 ⟨rfl, hg3⟩
    rw [beq_self_eq_true]
    have hown1c := own_keep hown1 hg3
    have hown0c := own_keep hown0' hg3
    go_wp2_with fail
    refine (markStringS_any _ _ c1 1 A1 _ w3 hown1c (by omega) (by omega) (by omega)).mono ?_
    rintro e w4 ⟨rfl, hown4, hg4⟩
    have hg4w := gr_own (gr_trans (gr_trans hg1 hg2) hg3) (own_weak hown1c hg1.size) hg4
    have hown04 := own_keep2 hown0c hg4 (by
      intro g hg _ he
      have h1 := hown0.lt g hg
      have h2 := own_base hown1c he.symm
      omega)
    have hS4 := (own_sl hown4).1
    rw [marks_length] at hS4
    go_wp2_with fail
    refine (heldStringS_any _ c1 1 A1 _ w4 hS4 (by omega) (by omega) (by omega)).mono ?_
    rintro e w5 ⟨rfl, hg5⟩
    go_wp2_with fail
    refine (hT.out w5).mono ?_
    rintro e w6 ⟨⟨A2, c2, rfl, hown2⟩, hg6⟩
    go_wp2_with fail
    refine (eqStringS_any xs xs A2 A0 c2 c0 _ _ w6 (own_sl hown2).1 (own_sl (own_keep hown04 (gr_trans hg5 hg6))).1 (by omega) (by omega)).mono ?_
    rintro e w7 ⟨rfl, hg7⟩
    rw [beq_self_eq_true]
    go_wp2_with fail
    refine (heldStringS_any _ c1 1 A1 _ w7 (hS4.grown0 (gr_trans (gr_trans hg5 hg6) hg7)) (by omega) (by omega) (by omega)).mono ?_
    rintro e w8 ⟨rfl, hg8⟩
    go_wp2_with fail
    go_ret
    exact ⟨rfl, gr_trans (gr_trans (gr_trans (gr_trans hg4w hg5) hg6) hg7) hg8⟩

section
open Go.ChangeShapes Go.WideShapes Go.ChangeAt Go.RowKit
open Go.ChangeMaps (open_string shut_string)
set_option maxRecDepth 100000 in
theorem FnExactTypeArgs_lifted (os : Os) (started : os.Started) (H : Type) (enc : TypeId × Value → H) :
    ReturnsInHanded {} Try.checked os 12 .any (Rows.fnExactTypeArgsSpec.pre6 enc Try.prog Try.f12 Rows.fnExactTypeArgsRow.domain false) (Rows.fnExactTypeArgsSpec.post enc Try.prog Try.f12 false true false false) := by
  refine returnsInHanded_of_change (C := Try.checked) Try.own started (by kernel_rfl) Try.func12
    (ChangeSpec.witness6 (enc := enc) (C := Try.checked) false ⟨#[], #[.string ByteArray.empty], []⟩ 8 (by kernel_rfl) (by kernel_rfl) (by kernel_rfl) (by kernel_rfl)) ?_
  intro W base args ds gs before hval0 hW hcnd _
  have hval : ∀ (j : Nat) t v, Try.f12.params[j]? = some t → args[j]? = some v → Value.okWide Try.prog W .any base t v := hval0
  have hW' := hW
  obtain ⟨p, q, hA0, hV, rfl, hfz, hnd⟩ := hW
  have hA : DataW.TrodAll enc Try.prog W 0 (fun _ => true) true Try.f12.params.toList args.toList ds p := hA0
  rw [Try.params12] at hA hval
  obtain ⟨v0, vs0, d0, ds0, p0, q0, hargs, rfl, rfl, h0, r0⟩ := trodAll_cons hA
  obtain ⟨rfl, rfl, rfl⟩ := trodAll_nil r0
  obtain rfl : args = #[v0] := by cases args; simp_all
  obtain ⟨rfl, rfl⟩ := trodVars_none hV
  obtain ⟨⟨⟨a0⟩⟩, rfl, rfl, rfl, w0⟩ := open_string Try.underlying9 (hval 0 9 v0 rfl rfl) h0
  clear hA0 hval0
  simp only [List.append_nil] at hW'
  refine (FnExactTypeArgs_walk a0 W w0).mono fun e W' ⟨he, hg⟩ => ?_
  subst he
  exact ⟨_, rfl, post_grown (pa := []) (pv := []) hW' (fun _ _ _ => (trodAll_cons_mk (shut_bool Try.underlying4 _) trodAll_mk0)) (fun sp _ => (trodAll_cons_mk (shut_string Try.underlying9 w0) trodAll_mk0)) (fun _ _ => rfl) rfl
    (below_gr hg) (ok_one (by kernel_rfl) rfl (okWide_bool_mk Try.underlying4 _))⟩
end

/-- The statement. -/
theorem FnExactTypeArgs_holds : Rows.FnExactTypeArgsSaid :=
  OpenClaim.holds_of_wide 12 Try.f12 rfl rfl rfl rfl rfl rfl rfl ⟨rfl, rfl, rfl, rfl, rfl⟩ rfl rfl rfl rfl rfl (by kernel_rfl) Try.func12 (by kernel_rfl)
    (of_decide_eq_true (by kernel_rfl)) (by unfold Func.isWrapper; first | (rw [if_pos (by decide +kernel)]; kernel_rfl) | (rw [if_neg (by decide +kernel)]; exact ⟨rfl, rfl⟩))
    (fun os started H enc _ => FnExactTypeArgs_lifted os started H enc)
end Go.Proofs.Ytnfcabhondmhpaa
