/- PROVED: 'laws.FnTermSize' returns true for every input, and leaves its input as it was. No conditions. -/
import Derived.Test.YtiaafacmfflfiaaDTerm
import Derived.Test.YtiaafacmfflfiaaTerm2
import Derived.Test.YtiaafacmfflfiaaSSize
import Derived.Test.YtiaafacmfflfiaaStr
import Derived.Test.YtiaafacmfflfiaaRow
namespace Go.Proofs.Ytiaafacmfflfiaa
open Go.RowKit

theorem sizes_eq {s : List UInt8} (h : okS s = true) : sizeS s = tsize s := by
  unfold okS at h
  have e : readS s = readT s := by
    unfold readS
    cases hr : readT s with
    | none => rfl
    | some t =>
      rw [hr] at h
      exact if_pos h
  unfold sizeS tsize
  rw [e]
  cases readT s <;> rfl
theorem tsize_pos {s : List UInt8} (h : ¬ tsize s < 0) : ∃ t, readT s = some t ∧ tsize s = t.atoms := by
  unfold tsize at *
  cases hr : readT s with
  | none => rw [hr] at h; exact absurd (by decide) h
  | some t => exact ⟨t, rfl, rfl⟩
theorem tsize_two {s : List UInt8} {t : Tm} (h : readT s = some t) : tsize ([40, 105, 102, 32, 116, 32] ++ s ++ [32] ++ s ++ [41]) = -1 ∨ tsize ([40, 105, 102, 32, 116, 32] ++ s ++ [32] ++ s ++ [41]) = 2 * (t.atoms : Int) + 2 := by
  obtain ⟨rfl, hw, ha⟩ := readT_some.1 h
  have e : ([40, 105, 102, 32, 116, 32] ++ t.text ++ [32] ++ t.text ++ [41]) = (Tm.ite (.w [116]) t t).text := by simp [Tm.text, ifW]
  have hw2 : (Tm.ite (.w [116]) t t).wf = true := by simp only [Tm.wf, hw, Bool.and_true]; decide
  rw [e]
  unfold tsize
  cases hr : readT (Tm.ite (.w [116]) t t).text with
  | none => exact .inl rfl
  | some u =>
    obtain ⟨e2, hu, _⟩ := readT_some.1 hr
    right
    have h1 := u.count_text hu
    rw [← e2, ← Tm.count_text _ hw2] at h1
    simp only [Tm.atoms] at h1
    show ((u.atoms : Nat) : Int) = _
    omega
set_option maxHeartbeats 4000000 in
theorem FnTermSize_walk (A : Option Addr) (n c : Nat) (zs : List Int) (w : World) (h : IsRow .u8 w A n c zs) :
    Calls Try.prog 3 #[.slice A n c] w fun e w' => e = .returned (.bool true) ∧ w.grownBy w' none := by
  by_cases hl : n > 1048576
  · go_enter Try.func3, Try.ntmps3
    go_wp2_with fail
    go_ret
    exact ⟨rfl, gr_refl _ _⟩
  · go_enter Try.func3, Try.ntmps3
    go_wp2_with fail
    refine (drawTermSize_any A n c zs w h).mono ?_
    rintro e w1 ⟨s, hs, hok, rfl, hg1⟩
    go_wp2_with fail
    refine (termSize_any s w1 (by omega)).mono ?_
    rintro e w2 ⟨rfl, hg2⟩
    go_wp2_with fail
    refine (sTermSize_any s w2 (by omega)).mono ?_
    rintro e w3 ⟨rfl, hg3⟩
    rw [sizes_eq hok]
    have hg03 := gr_trans hg1 (gr_trans hg2 hg3)
    by_cases hneg : tsize s < 0
    · generalize tsize s = z at *
      go_wp2_with fail
      go_ret
      exact ⟨rfl, hg03⟩
    · obtain ⟨t, hrt, hz⟩ := tsize_pos hneg
      have h2 := Lib.hid (tsize_two hrt)
      have ha := (readT_some.1 hrt).2.2
      have ha1 := t.atoms_pos
      have hE := Lib.hid (fun W => termSize_any ([40, 105, 102, 32, 116, 32] ++ s ++ [32] ++ s ++ [41]) W (by simp only [List.length_append, List.length_cons, List.length_nil]; omega))
      rw [hz] at hneg ⊢
      generalize t.atoms = m at *
      clear hrt hz
      go_wp2_with fail
      rw [ba_app, ba_app, ba_app, ba_app]
      refine (hE.out _).mono ?_
      rintro e w4 ⟨rfl, hg4⟩
      have h2' := h2.out
      generalize tsize ([40, 105, 102, 32, 116, 32] ++ s ++ [32] ++ s ++ [41]) = k at *
      rcases h2' with rfl | rfl
      · go_wp2_with fail
        all_goals go_ret
        all_goals exact ⟨rfl, gr_trans hg03 hg4⟩
      · go_wp2_with fail
        all_goals go_ret
        all_goals exact ⟨rfl, gr_trans hg03 hg4⟩

section
open Go.ChangeShapes Go.WideShapes Go.ChangeAt Go.RowKit
open Go.ChangeMaps (open_string shut_string)
set_option maxRecDepth 100000 in
theorem FnTermSize_lifted (os : Os) (started : os.Started) (H : Type) (enc : TypeId × Value → H) :
    ReturnsInHanded {} Try.checked os 3 .any (Rows.fnTermSizeSpec.pre6 enc Try.prog Try.f3 Rows.fnTermSizeRow.domain false) (Rows.fnTermSizeSpec.post enc Try.prog Try.f3 false true false false) := by
  refine returnsInHanded_of_change (C := Try.checked) Try.own started (by kernel_rfl) Try.func3
    (ChangeSpec.witness6 (enc := enc) (C := Try.checked) false ⟨#[], #[.slice none 0 0], []⟩ 8 (by kernel_rfl) (by kernel_rfl) (by kernel_rfl) (by kernel_rfl)) ?_
  intro W base args ds gs before hval0 hW hcnd _
  have hval : ∀ (j : Nat) t v, Try.f3.params[j]? = some t → args[j]? = some v → Value.okWide Try.prog W .any base t v := hval0
  have hW' := hW
  obtain ⟨p, q, hA0, hV, rfl, hfz, hnd⟩ := hW
  have hA : DataW.TrodAll enc Try.prog W 0 (fun _ => true) true Try.f3.params.toList args.toList ds p := hA0
  rw [Try.params3] at hA hval
  obtain ⟨v0, vs0, d0, ds0, p0, q0, hargs, rfl, rfl, h0, r0⟩ := trodAll_cons hA
  obtain ⟨rfl, rfl, rfl⟩ := trodAll_nil r0
  obtain rfl : args = #[v0] := by cases args; simp_all
  obtain ⟨rfl, rfl⟩ := trodVars_none hV
  obtain ⟨A0, n0, c0, rfl⟩ := okWide_slice Try.underlying22 (hval 0 22 v0 rfl rfl)
  have k0 := h0
  have lt0 : ∀ x ∈ p0, x.block < W.heap.size := by obtain ⟨m, hm⟩ := k0; exact DataW.trod_lt m _ _ _ hm
  obtain ⟨z0, w0⟩ : ∃ zs, IsRow .u8 W A0 n0 c0 zs := by
    obtain ⟨fuel, hf⟩ := h0
    rcases open_ints Try.underlying22 Try.underlying5 (by kernel_rfl) hf with ⟨hcs, _⟩ | ⟨x, l, c, zs, hcs, _, hl, hm, hz, _, hcell, hwz⟩
    · simp [Value.cells] at hcs
      obtain ⟨rfl, rfl, rfl⟩ := hcs
      exact ⟨[], .inl ⟨rfl, rfl, rfl, rfl⟩⟩
    · simp [Value.cells] at hcs
      obtain ⟨rfl, rfl, rfl⟩ := hcs
      exact ⟨zs, .inr ⟨_, rfl, hl, hm, by simpa using hz, hcell, hwz⟩⟩
  clear hA0 hval0
  refine (FnTermSize_walk A0 n0 c0 z0 W w0).mono fun e W' ⟨he, hg⟩ => ?_
  subst he
  have bel := below_gr hg
  exact ⟨_, rfl, _, _, _, [], _, [], hW', trodAll_mk1 (shut_bool Try.underlying4 _), (trodAll_cons_mk (Below.trod Try.laidOut (by kernel_rfl) (of_decide_eq_true (by kernel_rfl)) k0 bel lt0) trodAll_mk0), rfl, bel.frame _, fun h => by cases h⟩
end

/-- The statement. -/
theorem FnTermSize_holds : Rows.FnTermSizeSaid :=
  OpenClaim.holds_of_wide 3 Try.f3 rfl rfl rfl rfl rfl rfl rfl ⟨rfl, rfl, rfl, rfl, rfl⟩ rfl rfl rfl rfl rfl (by kernel_rfl) Try.func3 (by kernel_rfl)
    (of_decide_eq_true (by kernel_rfl)) (by unfold Func.isWrapper; first | (rw [if_pos (by decide +kernel)]; kernel_rfl) | (rw [if_neg (by decide +kernel)]; exact ⟨rfl, rfl⟩))
    (fun os started H enc _ => FnTermSize_lifted os started H enc)
end Go.Proofs.Ytiaafacmfflfiaa
