/- PROVED: 'laws.FnExactTypeMake' returns true for every input, and leaves its input as it was. No conditions. -/
import Derived.Test.YtnfcabhondmhpaaMake
import Derived.SliceStrings
import Derived.Test.YtnfcabhondmhpaaRow
namespace Go.Proofs.Ytnfcabhondmhpaa
open Go.RowKit

set_option maxHeartbeats 1000000 in
theorem FnExactTypeMake_walk (xs : List (List UInt8)) (A : Option Addr) (cA : Nat) (w : World) (h : IsStrs w A xs) :
    Calls Try.prog 11 #[.slice A xs.length cA] w fun e w' => e = .returned (.bool true) ∧ w.grownBy w' none := by
  obtain ⟨hA, hx, hlen⟩ := h
  unfold maxLen at hx hlen
  have hsz := Lib.hid (szStringS_any xs A cA Al w hA (by omega) (fun x h => by have := hlen x h; omega))
  clear hlen
  go_enter Try.func11, Try.ntmps11
  go_wp2_with fail
  refine hsz.out.mono ?_
  rintro e w1 ⟨r, rfl, hr, hg1⟩
  by_cases hr0 : 0 ≤ r
  · have hsm := hr hr0
    have hx1 := hsm.1
    have hsmh := Lib.hid hsm
    clear hr hsm
    go_wp2_with fail
    refine (toStringS_any xs A cA Al w1 (hA.grown0 hg1) (by omega)).mono ?_
    rintro e w2 ⟨B1, c1, rfl, hown1, hg2⟩
    have hS1 := (own_sl hown1).1
    go_wp2_with fail
    refine (sTypeMake_any xs B1 c1 _ w2 hS1 hsmh.out).mono ?_
    rintro e w3 ⟨rfl, hg3⟩
    go_wp2_with fail
    refine (toStringS_any xs A cA Al w3 (hA.grown0 (gr_trans hg1 (gr_trans hg2 hg3))) (by omega)).mono ?_
    rintro e w4 ⟨B2, c2, rfl, hown2, hg4⟩
    have hS2 := (own_sl hown2).1
    go_wp2_with fail
    refine (typeMake_any xs B2 c2 _ w4 hS2 hsmh.out).mono ?_
    rintro e w5 ⟨rfl, hg5⟩
    generalize txt (mkTy xs) = x
    generalize (mkTy xs).isSome = b
    have hb : (b != b) = false := by cases b <;> rfl
    have hg15 := gr_trans hg1 (gr_trans hg2 (gr_trans hg3 (gr_trans hg4 hg5)))
    go_wp2_with fail
    refine (toStringS_any xs A cA Al w5 (hA.grown0 hg15) (by omega)).mono ?_
    rintro e w6 ⟨B3, c3, rfl, hown3, hg6⟩
    have hS3 := (own_sl hown3).1
    go_wp2_with fail
    refine (eqStringS_any xs xs B2 B3 c2 c3 _ _ w6 (hS2.grown0 (gr_trans hg5 hg6)) hS3 (by omega) (by omega)).mono ?_
    rintro e w7 ⟨rfl, hg7⟩
    rw [beq_self_eq_true]
    go_wp2_with fail
    go_ret
    exact ⟨rfl, gr_trans hg15 (gr_trans hg6 hg7)⟩
  · clear hr
    go_wp2_with fail
    go_ret
    exact ⟨rfl, hg1⟩

section
open Go.ChangeShapes Go.WideShapes Go.ChangeAt Go.RowKit
open Go.ChangeMaps (open_string shut_string)
set_option maxRecDepth 100000 in
theorem FnExactTypeMake_lifted (os : Os) (started : os.Started) (H : Type) (enc : TypeId × Value → H) :
    ReturnsInHanded {} Try.checked os 11 .any (Rows.fnExactTypeMakeSpec.pre6 enc Try.prog Try.f11 Rows.fnExactTypeMakeRow.domain false) (Rows.fnExactTypeMakeSpec.post enc Try.prog Try.f11 false true false false) := by
  refine returnsInHanded_of_change (C := Try.checked) Try.own started (by kernel_rfl) Try.func11
    (ChangeSpec.witness6 (enc := enc) (C := Try.checked) false ⟨#[], #[.slice none 0 0], []⟩ 8 (by kernel_rfl) (by kernel_rfl) (by kernel_rfl) (by kernel_rfl)) ?_
  intro W base args ds gs before hval0 hW hcnd _
  have hval : ∀ (j : Nat) t v, Try.f11.params[j]? = some t → args[j]? = some v → Value.okWide Try.prog W .any base t v := hval0
  have hW' := hW
  obtain ⟨p, q, hA0, hV, rfl, hfz, hnd⟩ := hW
  have hA : DataW.TrodAll enc Try.prog W 0 (fun _ => true) true Try.f11.params.toList args.toList ds p := hA0
  rw [Try.params11] at hA hval
  obtain ⟨v0, vs0, d0, ds0, p0, q0, hargs, rfl, rfl, h0, r0⟩ := trodAll_cons hA
  obtain ⟨rfl, rfl, rfl⟩ := trodAll_nil r0
  obtain rfl : args = #[v0] := by cases args; simp_all
  obtain ⟨rfl, rfl⟩ := trodVars_none hV
  have k0 := h0
  have lt0 : ∀ x ∈ p0, x.block < W.heap.size := by obtain ⟨m, hm⟩ := k0; exact DataW.trod_lt m _ _ _ hm
  obtain ⟨A0, n0, c0, rfl⟩ := okWide_slice Try.underlying32 (hval 0 32 v0 rfl rfl)
  obtain ⟨x0, A0', c0', e0, w0⟩ : ∃ xs A' c', Value.slice A0 n0 c0 = .slice A' xs.length c' ∧ IsStrs W A' xs := by
    obtain ⟨fuel, hf⟩ := h0
    rcases open_strings Try.underlying32 Try.underlying9 (by kernel_rfl) hf with ⟨hcs, _⟩ | ⟨a, l, c, ss, hcs, _, hl, hm, hss, _, hcell, hsz⟩
    · simp [Value.cells] at hcs
      obtain ⟨rfl, rfl, rfl⟩ := hcs
      exact ⟨[], _, _, rfl, isStrs_nil W⟩
    · simp [Value.cells] at hcs
      obtain ⟨rfl, rfl, rfl⟩ := hcs
      obtain ⟨h1, h2⟩ := isStrs_row (a := a) (by rw [show ss.length = _ from by simpa using hss]; exact hl) hcell hm hsz hl
      exact ⟨_, _, _, congrArg (fun n => Value.slice (some a) n _) h1.symm, h2⟩
  rw [e0] at k0 hW' ⊢
  clear hA0 hval0
  refine (FnExactTypeMake_walk x0 A0' c0' W w0).mono fun e W' ⟨he, hg⟩ => ?_
  subst he
  have bel := below_gr hg
  exact ⟨_, rfl, _, _, _, [], _, [], hW', trodAll_mk1 (shut_bool Try.underlying4 _), (trodAll_cons_mk (Below.trod Try.laidOut (by kernel_rfl) (of_decide_eq_true (by kernel_rfl)) k0 bel lt0) trodAll_mk0), rfl, bel.frame _, fun h => by cases h⟩
end

/-- The statement. -/
theorem FnExactTypeMake_holds : Rows.FnExactTypeMakeSaid :=
  OpenClaim.holds_of_wide 11 Try.f11 rfl rfl rfl rfl rfl rfl rfl ⟨rfl, rfl, rfl, rfl, rfl⟩ rfl rfl rfl rfl rfl (by kernel_rfl) Try.func11 (by kernel_rfl)
    (of_decide_eq_true (by kernel_rfl)) (by unfold Func.isWrapper; first | (rw [if_pos (by decide +kernel)]; kernel_rfl) | (rw [if_neg (by decide +kernel)]; exact ⟨rfl, rfl⟩))
    (fun os started H enc _ => FnExactTypeMake_lifted os started H enc)
end Go.Proofs.Ytnfcabhondmhpaa
