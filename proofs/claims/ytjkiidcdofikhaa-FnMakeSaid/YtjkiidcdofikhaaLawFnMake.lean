/- PROVED: 'laws.FnMake' returns true for every input, and leaves its input as it was. No conditions. -/
import Derived.Test.YtjkiidcdofikhaaMake
import Derived.Test.YtjkiidcdofikhaaDraw3
import Derived.Test.YtjkiidcdofikhaaRow
namespace Go.Proofs.Ytjkiidcdofikhaa
open Go.RowKit

theorem fm_args {t : Ty} {xs : List (List UInt8)} (h : mkTy xs = some t) : (Ty.read t.text).isSome = true ∧ argL t.text = xs := by
  unfold mkTy at h
  split at h
  · rename_i hc
    obtain ⟨h1, h2⟩ := hc
    have ht : ofArgs (xs.filterMap Ty.read) = t := by simpa using h
    subst ht
    have hr := Ty.read_text h2
    refine ⟨by rw [hr]; rfl, ?_⟩
    unfold argL
    rw [hr]
    simp only [args_ofArgs]
    have h3 := List.all_eq_true.1 h1
    clear h1 h2 hr h
    induction xs with
    | nil => rfl
    | cons x xs ih =>
      obtain ⟨u, hu⟩ := Option.isSome_iff_exists.1 (h3 x (by simp))
      rw [List.filterMap_cons_some hu, List.map_cons, ih fun y hy => h3 y (by simp [hy]), ← (Ty.read_some hu).1]
  · cases h

set_option maxHeartbeats 1000000 in
theorem FnMake_walk (A : Option Addr) (n c : Nat) (zs : List Int) (w : World) (h : IsRow .u8 w A n c zs) :
    Calls Try.prog 3 #[.slice A n c] w fun e w' => e = .returned (.bool true) ∧ w.grownBy w' none := by
  by_cases hl : n > 1048576
  · go_enter Try.func3, Try.ntmps3
    go_wp2_with fail
    go_ret
    exact ⟨rfl, gr_refl _ _⟩
  · go_enter Try.func3, Try.ntmps3
    go_wp2_with fail
    refine (drawTypeMake_any A n c zs w h).mono ?_
    rintro e w1 ⟨xs, B, cB, hx4, hx100, rfl, hown, hg1⟩
    have hsm : Small xs := ⟨by omega, fun x hx => by have := hx100 x hx; omega⟩
    have hsmh := Lib.hid hsm
    have hS := (own_sl hown).1
    clear hx100 hsm
    go_wp2_with fail
    refine (typeMake_any xs B cB _ w1 hS hsmh.out).mono ?_
    rintro e w2 ⟨rfl, hg2⟩
    go_wp2_with fail
    refine (sTypeMake_any xs B cB _ w2 (hS.grown0 hg2) hsmh.out).mono ?_
    rintro e w3 ⟨rfl, hg3⟩
    have hg03 := gr_trans hg1 (gr_trans hg2 hg3)
    cases hv : mkTy xs with
    | none =>
      clear hv
      simp only [txt, Option.isSome_none]
      go_wp2_with fail
      go_ret
      exact ⟨rfl, hg03⟩
    | some t =>
      obtain ⟨h1, h2⟩ := fm_args hv
      have h15 : t.atoms ≤ 15 := by
        unfold mkTy at hv
        split at hv
        · rename_i hc
          have ht : ofArgs (xs.filterMap Ty.read) = t := by simpa using hv
          subst ht
          exact hc.2
        · cases hv
      have htl := Ty.length_text t
      have hA := typeArgs_any t.text w3 (by omega)
      unfold ArgsPost at hA
      rw [h1, h2] at hA
      have hAh := Lib.hid hA
      clear hv h1 h2 hA htl h15
      simp only [txt, Option.isSome_some]
      go_wp2_with fail
      refine hAh.out.mono ?_
      rintro e w4 ⟨⟨A2, c2, rfl, hown2⟩, hg4⟩
      go_wp2_with fail
      refine (sameTexts_any xs xs A2 B c2 cB _ _ w4 (own_sl hown2).1 (hS.grown0 (gr_trans hg2 (gr_trans hg3 hg4))) (by omega) (by omega)).mono ?_
      rintro e w5 ⟨rfl, hg5⟩
      rw [beq_self_eq_true]
      go_wp2_with fail
      go_ret
      exact ⟨rfl, gr_trans hg03 (gr_trans hg4 hg5)⟩

section
open Go.ChangeShapes Go.WideShapes Go.ChangeAt Go.RowKit
open Go.ChangeMaps (open_string shut_string)
set_option maxRecDepth 100000 in
theorem FnMake_lifted (os : Os) (started : os.Started) (H : Type) (enc : TypeId × Value → H) :
    ReturnsInHanded {} Try.checked os 3 .any (Rows.fnMakeSpec.pre6 enc Try.prog Try.f3 Rows.fnMakeRow.domain false) (Rows.fnMakeSpec.post enc Try.prog Try.f3 false true false false) := by
  refine returnsInHanded_of_change (C := Try.checked) Try.own started (by kernel_rfl) Try.func3
    (ChangeSpec.witness6 (enc := enc) (C := Try.checked) false ⟨#[], #[.slice none 0 0], []⟩ 8 (by kernel_rfl) (by kernel_rfl) (by kernel_rfl) (by kernel_rfl)) ?_
  intro W base args ds gs before hval0 hW hcnd _
  have hval : ∀ (j : Nat) t v, Try.f3.params[j]? = some t → args[j]? = some v → Value.okWide Try.prog W .any base t v := hval0
  have hW' := hW
  obtain ⟨p, q, hA0, hV, rfl, hfz, hnd⟩ := hW
  have hA : DataW.TrodAll enc Try.prog W 0 (fun _ => true) true Try.f3.params.toList args.toList ds p := hA0
  rw [Try.params3] at hA hval
  obtain ⟨v0, vs0, d0, ds0, p0, q0, hargs, rfl, rfl, h0, r0⟩ := trodAll_cons hA
  obtain ⟨rfl, rfl, rfl⟩ := trodAll_nil r0
  obtain rfl : args = #[v0] := by cases args; simp_all
  obtain ⟨rfl, rfl⟩ := trodVars_none hV
  obtain ⟨A0, n0, c0, rfl⟩ := okWide_slice Try.underlying22 (hval 0 22 v0 rfl rfl)
  have k0 := h0
  have lt0 : ∀ x ∈ p0, x.block < W.heap.size := by obtain ⟨m, hm⟩ := k0; exact DataW.trod_lt m _ _ _ hm
  obtain ⟨z0, w0⟩ : ∃ zs, IsRow .u8 W A0 n0 c0 zs := by
    obtain ⟨fuel, hf⟩ := h0
    rcases open_ints Try.underlying22 Try.underlying5 (by kernel_rfl) hf with ⟨hcs, _⟩ | ⟨x, l, c, zs, hcs, _, hl, hm, hz, _, hcell, hwz⟩
    · simp [Value.cells] at hcs
      obtain ⟨rfl, rfl, rfl⟩ := hcs
      exact ⟨[], .inl ⟨rfl, rfl, rfl, rfl⟩⟩
    · simp [Value.cells] at hcs
      obtain ⟨rfl, rfl, rfl⟩ := hcs
      exact ⟨zs, .inr ⟨_, rfl, hl, hm, by simpa using hz, hcell, hwz⟩⟩
  clear hA0 hval0
  refine (FnMake_walk A0 n0 c0 z0 W w0).mono fun e W' ⟨he, hg⟩ => ?_
  subst he
  have bel := below_gr hg
  exact ⟨_, rfl, _, _, _, [], _, [], hW', trodAll_mk1 (shut_bool Try.underlying4 _), (trodAll_cons_mk (Below.trod Try.laidOut (by kernel_rfl) (of_decide_eq_true (by kernel_rfl)) k0 bel lt0) trodAll_mk0), rfl, bel.frame _, fun h => by cases h⟩
end

/-- The statement. -/
theorem FnMake_holds : Rows.FnMakeSaid :=
  OpenClaim.holds_of_wide 3 Try.f3 rfl rfl rfl rfl rfl rfl rfl ⟨rfl, rfl, rfl, rfl, rfl⟩ rfl rfl rfl rfl rfl (by kernel_rfl) Try.func3 (by kernel_rfl)
    (of_decide_eq_true (by kernel_rfl)) (by unfold Func.isWrapper; first | (rw [if_pos (by decide +kernel)]; kernel_rfl) | (rw [if_neg (by decide +kernel)]; exact ⟨rfl, rfl⟩))
    (fun os started H enc _ => FnMake_lifted os started H enc)
end Go.Proofs.Ytjkiidcdofikhaa
