/- PROVED: 'laws.FnEnabler' returns true for every input, and leaves its input as it was. No conditions. -/
import Derived.Test.YtjkiidcdofikhaaMoves
import Derived.Test.YtjkiidcdofikhaaEnab
import Derived.Test.YtjkiidcdofikhaaDraw3
import Derived.Test.YtjkiidcdofikhaaRow
namespace Go.Proofs.Ytjkiidcdofikhaa
open Go.RowKit

set_option maxHeartbeats 1000000 in
theorem FnEnabler_walk (A : Option Addr) (n c : Nat) (zs : List Int) (w : World) (h : IsRow .u8 w A n c zs) :
    Calls Try.prog 4 #[.slice A n c] w fun e w' => e = .returned (.bool true) ∧ w.grownBy w' none := by
  by_cases hl : n > 1048576
  · go_enter Try.func4, Try.ntmps4
    go_wp2_with fail
    go_ret
    exact ⟨rfl, gr_refl _ _⟩
  · go_enter Try.func4, Try.ntmps4
    go_wp2_with fail
    refine (drawMoveEnabler_any A n c zs w h).mono ?_
    rintro e w1 ⟨s, m, hs, hm, rfl, hg1⟩
    go_wp2_with fail
    refine (moveEnabler_any s m w1 (by omega) (by omega)).mono ?_
    rintro e w2 ⟨rfl, hg2⟩
    go_wp2_with fail
    refine (sMoveEnabler_any s m w2 (by omega) (by omega)).mono ?_
    rintro e w3 ⟨rfl, hg3⟩
    have hg03 := gr_trans hg1 (gr_trans hg2 hg3)
    cases hv : moveOf s m with
    | false =>
      clear hv
      generalize enablerOf s m = x
      go_wp2_with fail
      go_ret
      exact ⟨rfl, hg03⟩
    | true =>
      obtain ⟨a, p, rfl⟩ := moveOf_cons hv
      have e2 : enablerOf s (a :: p) = enab a p := by unfold enablerOf; rw [hv]; rfl
      rw [e2]
      have hpl : p.length ≤ 200 := by simp at hm; omega
      rcases enab_cases hv with ⟨rfl, rfl, h3, h4⟩ | ⟨r, h3, h4, h5, h6, _⟩
      · rw [h3]
        clear hv e2 h3 h4
        go_wp2_with fail
        go_loopw [9, 10] (fun x i wr => x = .string ⟨#[]⟩ ∧ i = .int .i64 0 ∧ w3.grownBy wr none) (fun _ _ _ => 0)
        case atStart => exact ⟨rfl, rfl, gr_refl _ _⟩
        case round =>
          obtain ⟨rfl, rfl, hgw⟩ := hrel
          go_wp2_with fail
          go_ret
          exact ⟨rfl, gr_trans hg03 hgw⟩
      · rw [h3]
        clear hv e2 h3 h5
        have h4h := Lib.hid h4
        clear h4
        go_wp2_with fail
        go_loopw [9, 10] (fun x i wr => ∃ (k : Nat) (r : List UInt8), x = .string ⟨(113 :: r).toArray⟩ ∧ i = .int .i64 (k : Int) ∧ moveOf s (113 :: r) = true ∧ r.length + k ≤ p.length ∧ w3.grownBy wr none) (fun _ i _ => 1000 - (intOf i).toNat)
        case atStart => exact ⟨0, r, rfl, rfl, h4h.out, by omega, gr_refl _ _⟩
        case round =>
          obtain ⟨k, r, rfl, rfl, hmv, hrk, hgw⟩ := hrel
          cases r with
          | nil =>
            clear hmv
            go_wp2_with fail
            go_ret
            exact ⟨rfl, gr_trans hg03 hgw⟩
          | cons b r =>
            have hrl : r.length + 1 + k ≤ p.length := by simpa using hrk
            have hE := moveEnabler_any s (113 :: b :: r) wr (by omega) (by simp; omega)
            have e3 : enablerOf s (113 :: b :: r) = enab 113 (b :: r) := by unfold enablerOf; rw [hmv]; rfl
            rcases enab_cases hmv with ⟨_, h, _⟩ | ⟨r', h3, h4, _, _, h6⟩
            · cases h
            · rw [hmv, e3, h3] at hE
              have hEh := Lib.hid hE
              have h4h := Lib.hid h4
              have h7 : r'.length ≤ r.length := by have := h6 rfl; simp at this; omega
              clear hmv hE e3 h3 h4 h6
              go_wp2_with fail
              refine hEh.out.mono ?_
              rintro e w4 ⟨rfl, hg4⟩
              go_wp2_with fail
              go_roundw
              case rel => exact ⟨k + 1, r', rfl, by go_num, h4h.out, by omega, gr_trans hgw hg4⟩
              case measure => simp [intOf]; omega

section
open Go.ChangeShapes Go.WideShapes Go.ChangeAt Go.RowKit
open Go.ChangeMaps (open_string shut_string)
set_option maxRecDepth 100000 in
theorem FnEnabler_lifted (os : Os) (started : os.Started) (H : Type) (enc : TypeId × Value → H) :
    ReturnsInHanded {} Try.checked os 4 .any (Rows.fnEnablerSpec.pre6 enc Try.prog Try.f4 Rows.fnEnablerRow.domain false) (Rows.fnEnablerSpec.post enc Try.prog Try.f4 false true false false) := by
  refine returnsInHanded_of_change (C := Try.checked) Try.own started (by kernel_rfl) Try.func4
    (ChangeSpec.witness6 (enc := enc) (C := Try.checked) false ⟨#[], #[.slice none 0 0], []⟩ 8 (by kernel_rfl) (by kernel_rfl) (by kernel_rfl) (by kernel_rfl)) ?_
  intro W base args ds gs before hval0 hW hcnd _
  have hval : ∀ (j : Nat) t v, Try.f4.params[j]? = some t → args[j]? = some v → Value.okWide Try.prog W .any base t v := hval0
  have hW' := hW
  obtain ⟨p, q, hA0, hV, rfl, hfz, hnd⟩ := hW
  have hA : DataW.TrodAll enc Try.prog W 0 (fun _ => true) true Try.f4.params.toList args.toList ds p := hA0
  rw [Try.params4] at hA hval
  obtain ⟨v0, vs0, d0, ds0, p0, q0, hargs, rfl, rfl, h0, r0⟩ := trodAll_cons hA
  obtain ⟨rfl, rfl, rfl⟩ := trodAll_nil r0
  obtain rfl : args = #[v0] := by cases args; simp_all
  obtain ⟨rfl, rfl⟩ := trodVars_none hV
  obtain ⟨A0, n0, c0, rfl⟩ := okWide_slice Try.underlying22 (hval 0 22 v0 rfl rfl)
  have k0 := h0
  have lt0 : ∀ x ∈ p0, x.block < W.heap.size := by obtain ⟨m, hm⟩ := k0; exact DataW.trod_lt m _ _ _ hm
  obtain ⟨z0, w0⟩ : ∃ zs, IsRow .u8 W A0 n0 c0 zs := by
    obtain ⟨fuel, hf⟩ := h0
    rcases open_ints Try.underlying22 Try.underlying5 (by kernel_rfl) hf with ⟨hcs, _⟩ | ⟨x, l, c, zs, hcs, _, hl, hm, hz, _, hcell, hwz⟩
    · simp [Value.cells] at hcs
      obtain ⟨rfl, rfl, rfl⟩ := hcs
      exact ⟨[], .inl ⟨rfl, rfl, rfl, rfl⟩⟩
    · simp [Value.cells] at hcs
      obtain ⟨rfl, rfl, rfl⟩ := hcs
      exact ⟨zs, .inr ⟨_, rfl, hl, hm, by simpa using hz, hcell, hwz⟩⟩
  clear hA0 hval0
  refine (FnEnabler_walk A0 n0 c0 z0 W w0).mono fun e W' ⟨he, hg⟩ => ?_
  subst he
  have bel := below_gr hg
  exact ⟨_, rfl, _, _, _, [], _, [], hW', trodAll_mk1 (shut_bool Try.underlying4 _), (trodAll_cons_mk (Below.trod Try.laidOut (by kernel_rfl) (of_decide_eq_true (by kernel_rfl)) k0 bel lt0) trodAll_mk0), rfl, bel.frame _, fun h => by cases h⟩
end

/-- The statement. -/
theorem FnEnabler_holds : Rows.FnEnablerSaid :=
  OpenClaim.holds_of_wide 4 Try.f4 rfl rfl rfl rfl rfl rfl rfl ⟨rfl, rfl, rfl, rfl, rfl⟩ rfl rfl rfl rfl rfl (by kernel_rfl) Try.func4 (by kernel_rfl)
    (of_decide_eq_true (by kernel_rfl)) (by unfold Func.isWrapper; first | (rw [if_pos (by decide +kernel)]; kernel_rfl) | (rw [if_neg (by decide +kernel)]; exact ⟨rfl, rfl⟩))
    (fun os started H enc _ => FnEnabler_lifted os started H enc)
end Go.Proofs.Ytjkiidcdofikhaa
