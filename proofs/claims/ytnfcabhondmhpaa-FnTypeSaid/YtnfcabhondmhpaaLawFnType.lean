/- PROVED: 'laws.FnType' returns true for every input, and leaves its input as it was. No conditions. -/
import Derived.Test.YtnfcabhondmhpaaMake
import Derived.Test.YtnfcabhondmhpaaDraw2
import Derived.Test.YtnfcabhondmhpaaRow
namespace Go.Proofs.Ytnfcabhondmhpaa
open Go.RowKit

theorem ofArgs_args (t : Ty) : ofArgs t.args = t := by
  induction t with
  | b => rfl
  | arr a c _ ih => simp only [Ty.args, ofArgs, ih]
theorem fm_text {l : List Ty} (h : ∀ t ∈ l, t.atoms ≤ 15) : (l.map Ty.text).filterMap Ty.read = l := by
  induction l with
  | nil => rfl
  | cons a l ih => rw [List.map_cons, List.filterMap_cons_some (Ty.read_text (h a (by simp))), ih fun t ht => h t (by simp [ht])]
/-- A type is made of its arguments. -/
theorem made_of {s : List UInt8} {t : Ty} (hr : Ty.read s = some t) : txt (mkTy (argL s)) = s ∧ (mkTy (argL s)).isSome = true ∧ Small (argL s) ∧ txt (atOf s []) = s ∧ (atOf s []).isSome = true := by
  obtain ⟨e, h15⟩ := Ty.read_some hr
  have hat : ∀ u ∈ t.args, u.atoms ≤ 15 := fun u hu => by have := Ty.atoms_of_args hu; omega
  have ha : argL s = t.args.map Ty.text := by unfold argL; rw [hr]
  have hm : mkTy (argL s) = some t := by
    rw [ha, mkTy_all, fm_text hat, ofArgs_args, if_pos h15]
    intro x hx
    obtain ⟨u, hu, rfl⟩ := List.mem_map.1 hx
    rw [Ty.read_text (hat u hu)]; rfl
  have h0 : atOf s [] = some t := by unfold atOf; rw [hr]; rfl
  have hsm : Small (argL s) := by
    rw [ha]
    refine ⟨by have := t.length_args; rw [List.length_map]; omega, fun x hx => ?_⟩
    obtain ⟨u, hu, rfl⟩ := List.mem_map.1 hx
    have := hat u hu
    have := Ty.length_text u
    omega
  rw [hm, h0]
  exact ⟨e.symm, rfl, hsm, e.symm, rfl⟩

set_option maxHeartbeats 1000000 in
theorem FnType_walk (A : Option Addr) (n c : Nat) (zs : List Int) (w : World) (h : IsRow .u8 w A n c zs) :
    Calls Try.prog 13 #[.slice A n c] w fun e w' => e = .returned (.bool true) ∧ w.grownBy w' none := by
  by_cases hl : n > 1048576
  · go_enter Try.func13, Try.ntmps13
    go_wp2_with fail
    go_ret
    exact ⟨rfl, gr_refl _ _⟩
  · go_enter Try.func13, Try.ntmps13
    go_wp2_with fail
    refine (drawTypeValid_any A n c zs w h).mono ?_
    rintro e w1 ⟨s, hs, rfl, hg1⟩
    go_wp2_with fail
    refine (typeValid_any s w1 (by omega)).mono ?_
    rintro e w2 ⟨rfl, hg2⟩
    go_wp2_with fail
    refine (sTypeValid_any s w2 (by omega)).mono ?_
    rintro e w3 ⟨rfl, hg3⟩
    have hg03 := gr_trans hg1 (gr_trans hg2 hg3)
    cases hr : Ty.read s with
    | none =>
      clear hr
      simp only [Option.isSome_none]
      go_wp2_with fail
      go_ret
      exact ⟨rfl, hg03⟩
    | some t =>
      have hP := Lib.hid (made_of hr)
      have hT := Lib.hid (fun W => typeArgs_any s W (by omega))
      unfold ArgsPost at hT
      rw [hr] at hT
      have hAt := Lib.hid (fun W => typeAt_any s [] W (by omega) (by simp))
      clear hr
      simp only [Option.isSome_some] at hT ⊢
      go_wp2_with fail
      refine (hT.out w3).mono ?_
      rintro e w4 ⟨⟨A1, c1, rfl, hown⟩, hg4⟩
      obtain ⟨hm1, hm2, hsm, ha1, ha2⟩ := hP.out
      have hx := argL_len s
      rw [ha1, ha2] at hAt
      generalize argL s = xs at *
      have hM := typeMake_any xs A1 c1 _ w4 (own_sl hown).1 hsm
      rw [hm1, hm2] at hM
      have hMh := Lib.hid hM
      clear hm1 hm2 hM ha1 ha2 hP
      go_wp2_with fail
      refine hMh.out.mono ?_
      rintro e w5 ⟨rfl, hg5⟩
      go_wp2_with fail
      refine (hAt.out w5).mono ?_
      rintro e w6 ⟨rfl, hg6⟩
      have hg := gr_trans hg03 (gr_trans hg4 (gr_trans hg5 hg6))
      go_wp2_with fail
      go_ret
      exact ⟨rfl, hg⟩

section
open Go.ChangeShapes Go.WideShapes Go.ChangeAt Go.RowKit
open Go.ChangeMaps (open_string shut_string)
set_option maxRecDepth 100000 in
theorem FnType_lifted (os : Os) (started : os.Started) (H : Type) (enc : TypeId × Value → H) :
    ReturnsInHanded {} Try.checked os 13 .any (Rows.fnTypeSpec.pre6 enc Try.prog Try.f13 Rows.fnTypeRow.domain false) (Rows.fnTypeSpec.post enc Try.prog Try.f13 false true false false) := by
  refine returnsInHanded_of_change (C := Try.checked) Try.own started (by kernel_rfl) Try.func13
    (ChangeSpec.witness6 (enc := enc) (C := Try.checked) false ⟨#[], #[.slice none 0 0], []⟩ 8 (by kernel_rfl) (by kernel_rfl) (by kernel_rfl) (by kernel_rfl)) ?_
  intro W base args ds gs before hval0 hW hcnd _
  have hval : ∀ (j : Nat) t v, Try.f13.params[j]? = some t → args[j]? = some v → Value.okWide Try.prog W .any base t v := hval0
  have hW' := hW
  obtain ⟨p, q, hA0, hV, rfl, hfz, hnd⟩ := hW
  have hA : DataW.TrodAll enc Try.prog W 0 (fun _ => true) true Try.f13.params.toList args.toList ds p := hA0
  rw [Try.params13] at hA hval
  obtain ⟨v0, vs0, d0, ds0, p0, q0, hargs, rfl, rfl, h0, r0⟩ := trodAll_cons hA
  obtain ⟨rfl, rfl, rfl⟩ := trodAll_nil r0
  obtain rfl : args = #[v0] := by cases args; simp_all
  obtain ⟨rfl, rfl⟩ := trodVars_none hV
  obtain ⟨A0, n0, c0, rfl⟩ := okWide_slice Try.underlying26 (hval 0 26 v0 rfl rfl)
  have k0 := h0
  have lt0 : ∀ x ∈ p0, x.block < W.heap.size := by obtain ⟨m, hm⟩ := k0; exact DataW.trod_lt m _ _ _ hm
  obtain ⟨z0, w0⟩ : ∃ zs, IsRow .u8 W A0 n0 c0 zs := by
    obtain ⟨fuel, hf⟩ := h0
    rcases open_ints Try.underlying26 Try.underlying5 (by kernel_rfl) hf with ⟨hcs, _⟩ | ⟨x, l, c, zs, hcs, _, hl, hm, hz, _, hcell, hwz⟩
    · simp [Value.cells] at hcs
      obtain ⟨rfl, rfl, rfl⟩ := hcs
      exact ⟨[], .inl ⟨rfl, rfl, rfl, rfl⟩⟩
    · simp [Value.cells] at hcs
      obtain ⟨rfl, rfl, rfl⟩ := hcs
      exact ⟨zs, .inr ⟨_, rfl, hl, hm, by simpa using hz, hcell, hwz⟩⟩
  clear hA0 hval0
  refine (FnType_walk A0 n0 c0 z0 W w0).mono fun e W' ⟨he, hg⟩ => ?_
  subst he
  have bel := below_gr hg
  exact ⟨_, rfl, _, _, _, [], _, [], hW', trodAll_mk1 (shut_bool Try.underlying4 _), (trodAll_cons_mk (Below.trod Try.laidOut (by kernel_rfl) (of_decide_eq_true (by kernel_rfl)) k0 bel lt0) trodAll_mk0), rfl, bel.frame _, fun h => by cases h⟩
end

/-- The statement. -/
theorem FnType_holds : Rows.FnTypeSaid :=
  OpenClaim.holds_of_wide 13 Try.f13 rfl rfl rfl rfl rfl rfl rfl ⟨rfl, rfl, rfl, rfl, rfl⟩ rfl rfl rfl rfl rfl (by kernel_rfl) Try.func13 (by kernel_rfl)
    (of_decide_eq_true (by kernel_rfl)) (by unfold Func.isWrapper; first | (rw [if_pos (by decide +kernel)]; kernel_rfl) | (rw [if_neg (by decide +kernel)]; exact ⟨rfl, rfl⟩))
    (fun os started H enc _ => FnType_lifted os started H enc)
end Go.Proofs.Ytnfcabhondmhpaa
