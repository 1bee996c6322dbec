/- PROVED: 'laws.FnPlayer' returns true for every input, and leaves its input as it was. No conditions. -/
import Derived.Test.YtjkiidcdofikhaaMoves
import Derived.Test.YtjkiidcdofikhaaEnab
import Derived.Test.YtjkiidcdofikhaaDraw3
import Derived.Test.YtjkiidcdofikhaaRow
namespace Go.Proofs.Ytjkiidcdofikhaa
open Go.RowKit

set_option maxHeartbeats 1000000 in
theorem FnPlayer_walk (A : Option Addr) (n c : Nat) (zs : List Int) (w : World) (h : IsRow .u8 w A n c zs) :
    Calls Try.prog 6 #[.slice A n c] w fun e w' => e = .returned (.bool true) ∧ w.grownBy w' none := by
  by_cases hl : n > 1048576
  · go_enter Try.func6, Try.ntmps6
    go_wp2_with fail
    go_ret
    exact ⟨rfl, gr_refl _ _⟩
  · go_enter Try.func6, Try.ntmps6
    go_wp2_with fail
    refine (drawMovePlayer_any A n c zs w h).mono ?_
    rintro e w1 ⟨s, m, hs, hm, rfl, hg1⟩
    go_wp2_with fail
    refine (movePlayer_any s m w1 (by omega) (by omega)).mono ?_
    rintro e w2 ⟨rfl, hg2⟩
    go_wp2_with fail
    refine (sMovePlayer_any s m w2 (by omega) (by omega)).mono ?_
    rintro e w3 ⟨rfl, hg3⟩
    have hg03 := gr_trans hg1 (gr_trans hg2 hg3)
    cases hv : moveOf s m with
    | false =>
      have e1 : playerOf s m = [] := by unfold playerOf; rw [hv]; rfl
      rw [e1]
      clear hv e1
      go_wp2_with fail
      go_ret
      exact ⟨rfl, hg03⟩
    | true =>
      obtain ⟨a, p, rfl⟩ := moveOf_cons hv
      have e1 : playerOf s (a :: p) = if byOpp a p then [79] else [80] := by unfold playerOf; rw [hv]; rfl
      have e2 : enablerOf s (a :: p) = enab a p := by unfold enablerOf; rw [hv]; rfl
      have hE := moveEnabler_any s (a :: p) w3 (by omega) (by omega)
      rw [hv, e2] at hE
      rw [e1]
      rcases enab_cases hv with ⟨rfl, rfl, h3, h4⟩ | ⟨r, h3, h4, h5, h6, _⟩
      · rw [h3] at hE
        rw [h4]
        have hEh := Lib.hid hE
        clear hv e1 e2 h3 h4 hE
        simp only [if_true]
        go_wp2_with fail
        refine hEh.out.mono ?_
        rintro e w4 ⟨rfl, hg4⟩
        go_wp2_with fail
        go_ret
        exact ⟨rfl, gr_trans hg03 hg4⟩
      · rw [h3] at hE
        have hpl : r.length ≤ 200 := by simp at hm; omega
        have hM : ∀ W, Calls Try.prog 21 #[.string ⟨s.toArray⟩, .string ⟨(113 :: r).toArray⟩] W fun e w' => e = .returned (.string ⟨(if byOpp 113 r then [79] else [80] : List UInt8).toArray⟩) ∧ W.grownBy w' none := fun W => by
          have h1 := movePlayer_any s (113 :: r) W (by omega) (by simp; omega)
          have e3 : playerOf s (113 :: r) = if byOpp 113 r then [79] else [80] := by unfold playerOf; rw [h4]; rfl
          rw [e3] at h1
          exact h1
        rw [h5] at hM
        have hEh := Lib.hid hE
        have hMh := Lib.hid hM
        clear hv e1 e2 h3 h4 hE hM h5
        generalize byOpp a p = bb at *
        cases bb
        all_goals simp only [if_true, if_false, Bool.false_eq_true, Bool.not_true, Bool.not_false] at hMh ⊢
        all_goals go_wp2_with fail
        all_goals refine hEh.out.mono ?_
        all_goals rintro e w4 ⟨rfl, hg4⟩
        all_goals go_wp2_with fail
        all_goals refine (hMh.out w4).mono ?_
        all_goals rintro e w5 ⟨rfl, hg5⟩
        all_goals go_wp2_with fail
        all_goals go_ret
        all_goals exact ⟨rfl, gr_trans hg03 (gr_trans hg4 hg5)⟩

section
open Go.ChangeShapes Go.WideShapes Go.ChangeAt Go.RowKit
open Go.ChangeMaps (open_string shut_string)
set_option maxRecDepth 100000 in
theorem FnPlayer_lifted (os : Os) (started : os.Started) (H : Type) (enc : TypeId × Value → H) :
    ReturnsInHanded {} Try.checked os 6 .any (Rows.fnPlayerSpec.pre6 enc Try.prog Try.f6 Rows.fnPlayerRow.domain false) (Rows.fnPlayerSpec.post enc Try.prog Try.f6 false true false false) := by
  refine returnsInHanded_of_change (C := Try.checked) Try.own started (by kernel_rfl) Try.func6
    (ChangeSpec.witness6 (enc := enc) (C := Try.checked) false ⟨#[], #[.slice none 0 0], []⟩ 8 (by kernel_rfl) (by kernel_rfl) (by kernel_rfl) (by kernel_rfl)) ?_
  intro W base args ds gs before hval0 hW hcnd _
  have hval : ∀ (j : Nat) t v, Try.f6.params[j]? = some t → args[j]? = some v → Value.okWide Try.prog W .any base t v := hval0
  have hW' := hW
  obtain ⟨p, q, hA0, hV, rfl, hfz, hnd⟩ := hW
  have hA : DataW.TrodAll enc Try.prog W 0 (fun _ => true) true Try.f6.params.toList args.toList ds p := hA0
  rw [Try.params6] at hA hval
  obtain ⟨v0, vs0, d0, ds0, p0, q0, hargs, rfl, rfl, h0, r0⟩ := trodAll_cons hA
  obtain ⟨rfl, rfl, rfl⟩ := trodAll_nil r0
  obtain rfl : args = #[v0] := by cases args; simp_all
  obtain ⟨rfl, rfl⟩ := trodVars_none hV
  obtain ⟨A0, n0, c0, rfl⟩ := okWide_slice Try.underlying22 (hval 0 22 v0 rfl rfl)
  have k0 := h0
  have lt0 : ∀ x ∈ p0, x.block < W.heap.size := by obtain ⟨m, hm⟩ := k0; exact DataW.trod_lt m _ _ _ hm
  obtain ⟨z0, w0⟩ : ∃ zs, IsRow .u8 W A0 n0 c0 zs := by
    obtain ⟨fuel, hf⟩ := h0
    rcases open_ints Try.underlying22 Try.underlying5 (by kernel_rfl) hf with ⟨hcs, _⟩ | ⟨x, l, c, zs, hcs, _, hl, hm, hz, _, hcell, hwz⟩
    · simp [Value.cells] at hcs
      obtain ⟨rfl, rfl, rfl⟩ := hcs
      exact ⟨[], .inl ⟨rfl, rfl, rfl, rfl⟩⟩
    · simp [Value.cells] at hcs
      obtain ⟨rfl, rfl, rfl⟩ := hcs
      exact ⟨zs, .inr ⟨_, rfl, hl, hm, by simpa using hz, hcell, hwz⟩⟩
  clear hA0 hval0
  refine (FnPlayer_walk A0 n0 c0 z0 W w0).mono fun e W' ⟨he, hg⟩ => ?_
  subst he
  have bel := below_gr hg
  exact ⟨_, rfl, _, _, _, [], _, [], hW', trodAll_mk1 (shut_bool Try.underlying4 _), (trodAll_cons_mk (Below.trod Try.laidOut (by kernel_rfl) (of_decide_eq_true (by kernel_rfl)) k0 bel lt0) trodAll_mk0), rfl, bel.frame _, fun h => by cases h⟩
end

/-- The statement. -/
theorem FnPlayer_holds : Rows.FnPlayerSaid :=
  OpenClaim.holds_of_wide 6 Try.f6 rfl rfl rfl rfl rfl rfl rfl ⟨rfl, rfl, rfl, rfl, rfl⟩ rfl rfl rfl rfl rfl (by kernel_rfl) Try.func6 (by kernel_rfl)
    (of_decide_eq_true (by kernel_rfl)) (by unfold Func.isWrapper; first | (rw [if_pos (by decide +kernel)]; kernel_rfl) | (rw [if_neg (by decide +kernel)]; exact ⟨rfl, rfl⟩))
    (fun os started H enc _ => FnPlayer_lifted os started H enc)
end Go.Proofs.Ytjkiidcdofikhaa
