/- PROVED: 'laws.FnTermType' returns true for every input, and leaves its input as it was. No conditions. -/
import Derived.Test.YtiaafacmfflfiaaDTerm
import Derived.Test.YtiaafacmfflfiaaTermTy
import Derived.Test.YtiaafacmfflfiaaSTermTy
import Derived.Test.YtiaafacmfflfiaaRow
namespace Go.Proofs.Ytiaafacmfflfiaa
open Go.RowKit

set_option maxHeartbeats 1000000 in
theorem drawTermType_any (A : Option Addr) (n c : Nat) (zs : List Int) (w : World) (h : IsRow .u8 w A n c zs) :
    Calls Try.prog 11 #[.slice A n c] w fun e w' => ∃ s : List UInt8, s.length ≤ 1000000000 ∧ e = .returned (.string ⟨s.toArray⟩) ∧ w.grownBy w' none := by
  go_enter Try.func11, Try.ntmps11
  go_wp2_with fail
  refine (l6Open_any A n c zs w h).mono ?_
  rintro e w1 ⟨q, rfl, hq, hr, hg1⟩
  go_wp2_with fail
  refine (l92Odd_any q 0 w1 hr (by decide)).mono ?_
  rintro e w2 ⟨s, hs, hok, rfl, hg2⟩
  go_wp2_with fail
  go_ret
  exact ⟨s, hs, rfl, gr_trans_new hg1 hg2 hq⟩
set_option maxHeartbeats 4000000 in
theorem FnTermType_walk (A : Option Addr) (n c : Nat) (zs : List Int) (w : World) (h : IsRow .u8 w A n c zs) :
    Calls Try.prog 5 #[.slice A n c] w fun e w' => e = .returned (.bool true) ∧ w.grownBy w' none := by
  by_cases hl : n > 1048576
  · go_enter Try.func5, Try.ntmps5
    go_wp2_with fail
    go_ret
    exact ⟨rfl, gr_refl _ _⟩
  · go_enter Try.func5, Try.ntmps5
    go_wp2_with fail
    refine (drawTermType_any A n c zs w h).mono ?_
    rintro e w1 ⟨s, hs, rfl, hg1⟩
    have hI := Lib.hid (fun W => termType_any s W (by omega))
    have hS := Lib.hid (fun W => sTermType_any s W (by omega))
    have hE := Lib.hid (fun W => termType_any ([40, 108, 97, 109, 32, 122, 57, 32, 98, 32] ++ s ++ [41]) W (by simp only [List.length_append, List.length_cons, List.length_nil]; omega))
    cases hT : tyOf s with
    | none =>
      rw [hT] at hS hI
      simp only [tyRet] at hS hI
      clear hT hE
      go_wp2_with fail
      refine (hI.out _).mono ?_
      rintro e w2 ⟨rfl, hg2⟩
      go_wp2_with fail
      refine (hS.out _).mono ?_
      rintro e w3 ⟨rfl, hg3⟩
      go_wp2_with fail
      all_goals go_ret
      all_goals exact ⟨rfl, gr_trans hg1 (gr_trans hg2 hg3)⟩
    | some k =>
      have h2 := Lib.hid (tyOf_lam hT)
      have h15 := tyOf_le hT
      have hV := Lib.hid (fun W => typeValid_any k.text W (by have := k.length_text; omega))
      have hRd := Lib.hid (Ty.read_text h15)
      have hkl : k.text.length ≤ 100 := by have := k.length_text; omega
      have hkb := Lib.hid (show (Ty.arr .b k).text = [40, 62, 32, 98, 32] ++ k.text ++ [41] by simp [Ty.text])
      rw [hT] at hS hI
      simp only [tyRet] at hS hI
      clear hT
      generalize k.text = x at *
      go_wp2_with fail
      refine (hI.out _).mono ?_
      rintro e w2 ⟨rfl, hg2⟩
      go_wp2_with fail
      refine (hS.out _).mono ?_
      rintro e w3 ⟨rfl, hg3⟩
      have hV1 : ∀ W, Calls Try.prog 12 #[.string ⟨x.toArray⟩] W fun e w' => e = .returned (.bool true) ∧ W.grownBy w' none := fun W => by
        have h := hV.out W
        rw [hRd.out] at h
        exact h
      have hVh := Lib.hid hV1
      clear hV hRd hV1
      rcases h2.out with h2 | h2
      · rw [h2] at hE
        simp only [tyRet] at hE
        clear h2
        go_wp2_with fail
        rw [ba_app, ba_app]
        refine (hE.out _).mono ?_
        rintro e w4 ⟨rfl, hg4⟩
        go_wp2_with fail
        refine (hVh.out _).mono ?_
        rintro e w5 ⟨rfl, hg5⟩
        go_wp2_with fail
        all_goals go_ret
        all_goals exact ⟨rfl, gr_trans hg1 (gr_trans hg2 (gr_trans hg3 (gr_trans hg4 hg5)))⟩
      · rw [h2] at hE
        simp only [tyRet] at hE
        rw [hkb.out] at hE
        clear h2 hkb
        go_wp2_with fail
        rw [ba_app, ba_app]
        refine (hE.out _).mono ?_
        rintro e w4 ⟨rfl, hg4⟩
        go_wp2_with fail
        refine (hVh.out _).mono ?_
        rintro e w5 ⟨rfl, hg5⟩
        go_wp2_with fail
        go_ret
        refine ⟨congrArg (fun z => Ending.returned (.bool z)) (a₂ := true) ?_, gr_trans hg1 (gr_trans hg2 (gr_trans hg3 (gr_trans hg4 hg5)))⟩
        rw [ba_app, ba_app, ByteArray.toList_eq]
        exact beq_self_eq_true _

section
open Go.ChangeShapes Go.WideShapes Go.ChangeAt Go.RowKit
open Go.ChangeMaps (open_string shut_string)
set_option maxRecDepth 100000 in
theorem FnTermType_lifted (os : Os) (started : os.Started) (H : Type) (enc : TypeId × Value → H) :
    ReturnsInHanded {} Try.checked os 5 .any (Rows.fnTermTypeSpec.pre6 enc Try.prog Try.f5 Rows.fnTermTypeRow.domain false) (Rows.fnTermTypeSpec.post enc Try.prog Try.f5 false true false false) := by
  refine returnsInHanded_of_change (C := Try.checked) Try.own started (by kernel_rfl) Try.func5
    (ChangeSpec.witness6 (enc := enc) (C := Try.checked) false ⟨#[], #[.slice none 0 0], []⟩ 8 (by kernel_rfl) (by kernel_rfl) (by kernel_rfl) (by kernel_rfl)) ?_
  intro W base args ds gs before hval0 hW hcnd _
  have hval : ∀ (j : Nat) t v, Try.f5.params[j]? = some t → args[j]? = some v → Value.okWide Try.prog W .any base t v := hval0
  have hW' := hW
  obtain ⟨p, q, hA0, hV, rfl, hfz, hnd⟩ := hW
  have hA : DataW.TrodAll enc Try.prog W 0 (fun _ => true) true Try.f5.params.toList args.toList ds p := hA0
  rw [Try.params5] at hA hval
  obtain ⟨v0, vs0, d0, ds0, p0, q0, hargs, rfl, rfl, h0, r0⟩ := trodAll_cons hA
  obtain ⟨rfl, rfl, rfl⟩ := trodAll_nil r0
  obtain rfl : args = #[v0] := by cases args; simp_all
  obtain ⟨rfl, rfl⟩ := trodVars_none hV
  obtain ⟨A0, n0, c0, rfl⟩ := okWide_slice Try.underlying22 (hval 0 22 v0 rfl rfl)
  have k0 := h0
  have lt0 : ∀ x ∈ p0, x.block < W.heap.size := by obtain ⟨m, hm⟩ := k0; exact DataW.trod_lt m _ _ _ hm
  obtain ⟨z0, w0⟩ : ∃ zs, IsRow .u8 W A0 n0 c0 zs := by
    obtain ⟨fuel, hf⟩ := h0
    rcases open_ints Try.underlying22 Try.underlying5 (by kernel_rfl) hf with ⟨hcs, _⟩ | ⟨x, l, c, zs, hcs, _, hl, hm, hz, _, hcell, hwz⟩
    · simp [Value.cells] at hcs
      obtain ⟨rfl, rfl, rfl⟩ := hcs
      exact ⟨[], .inl ⟨rfl, rfl, rfl, rfl⟩⟩
    · simp [Value.cells] at hcs
      obtain ⟨rfl, rfl, rfl⟩ := hcs
      exact ⟨zs, .inr ⟨_, rfl, hl, hm, by simpa using hz, hcell, hwz⟩⟩
  clear hA0 hval0
  refine (FnTermType_walk A0 n0 c0 z0 W w0).mono fun e W' ⟨he, hg⟩ => ?_
  subst he
  have bel := below_gr hg
  exact ⟨_, rfl, _, _, _, [], _, [], hW', trodAll_mk1 (shut_bool Try.underlying4 _), (trodAll_cons_mk (Below.trod Try.laidOut (by kernel_rfl) (of_decide_eq_true (by kernel_rfl)) k0 bel lt0) trodAll_mk0), rfl, bel.frame _, fun h => by cases h⟩
end

/-- The statement. -/
theorem FnTermType_holds : Rows.FnTermTypeSaid :=
  OpenClaim.holds_of_wide 5 Try.f5 rfl rfl rfl rfl rfl rfl rfl ⟨rfl, rfl, rfl, rfl, rfl⟩ rfl rfl rfl rfl rfl (by kernel_rfl) Try.func5 (by kernel_rfl)
    (of_decide_eq_true (by kernel_rfl)) (by unfold Func.isWrapper; first | (rw [if_pos (by decide +kernel)]; kernel_rfl) | (rw [if_neg (by decide +kernel)]; exact ⟨rfl, rfl⟩))
    (fun os started H enc _ => FnTermType_lifted os started H enc)
end Go.Proofs.Ytiaafacmfflfiaa
