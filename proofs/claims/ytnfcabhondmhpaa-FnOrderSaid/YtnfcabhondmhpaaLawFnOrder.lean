/- PROVED: 'laws.FnOrder' returns true for every input, and leaves its input as it was. No conditions. -/
import Derived.Test.YtnfcabhondmhpaaType
import Derived.Test.YtnfcabhondmhpaaDraw2
import Derived.Test.YtnfcabhondmhpaaStr
import Derived.Test.YtnfcabhondmhpaaRow
namespace Go.Proofs.Ytnfcabhondmhpaa
open Go.RowKit

theorem order_zero (t : Ty) : (t.order = 0) ↔ t = .b := by
  cases t with
  | b => simp [Ty.order]
  | arr a c => simp only [Ty.order]; constructor <;> intro h
               · omega
               · cases h

theorem orderOf_arr {s : List UInt8} {t : Ty} (h : Ty.read s = some t) : orderOf (40 :: 62 :: 32 :: (s ++ [32, 98, 41])) = -1 ∨ orderOf (40 :: 62 :: 32 :: (s ++ [32, 98, 41])) = orderOf s + 1 := by
  obtain ⟨rfl, _⟩ := Ty.read_some h
  have e : (40 :: 62 :: 32 :: (t.text ++ [32, 98, 41])) = (Ty.arr t .b).text := by simp [Ty.text]
  rw [e]
  by_cases h15 : (Ty.arr t .b).atoms ≤ 15
  · right
    unfold orderOf
    rw [Ty.read_text h15, h]
    simp [Ty.order]
    omega
  · left
    unfold orderOf
    cases hr : Ty.read (Ty.arr t .b).text with
    | none => rfl
    | some u =>
      obtain ⟨e1, e2⟩ := Ty.read_some hr
      rw [Ty.text_inj e1] at h15
      exact absurd e2 h15

theorem orderOf_zero {s : List UInt8} (h : ¬ orderOf s < 0) : (orderOf s = 0) ↔ s = [98] := by
  unfold orderOf at *
  cases hr : Ty.read s with
  | none => rw [hr] at h; simp at h
  | some t =>
    obtain ⟨rfl, _⟩ := Ty.read_some hr
    simp only [Int.natCast_eq_zero]
    rw [order_zero]
    constructor
    · rintro rfl; rfl
    · intro h1; exact Ty.text_inj h1

set_option maxHeartbeats 1000000 in
theorem FnOrder_walk (A : Option Addr) (n c : Nat) (zs : List Int) (w : World) (h : IsRow .u8 w A n c zs) :
    Calls Try.prog 7 #[.slice A n c] w fun e w' => e = .returned (.bool true) ∧ w.grownBy w' none := by
  by_cases hl : n > 1048576
  · go_enter Try.func7, Try.ntmps7
    go_wp2_with fail
    go_ret
    exact ⟨rfl, gr_refl _ _⟩
  · go_enter Try.func7, Try.ntmps7
    go_wp2_with fail
    refine (drawTypeOrder_any A n c zs w h).mono ?_
    rintro e w1 ⟨s, hs, rfl, hg1⟩
    go_wp2_with fail
    refine (typeOrder_any s w1 (by omega)).mono ?_
    rintro e w2 ⟨rfl, hg2⟩
    go_wp2_with fail
    refine (sTypeOrder_any s w2 (by omega)).mono ?_
    rintro e w3 ⟨rfl, hg3⟩
    by_cases hneg : orderOf s < 0
    · go_wp2_with fail
      go_ret
      exact ⟨rfl, gr_trans hg1 (gr_trans hg2 hg3)⟩
    · have hz := orderOf_zero hneg
      have hb : (orderOf s == 0) = (s == [98]) := by rw [Bool.eq_iff_iff, beq_iff_eq, beq_iff_eq]; exact hz
      obtain ⟨t, ht⟩ : ∃ t, Ty.read s = some t := by
        cases hr : Ty.read s with
        | none => exact absurd (by unfold orderOf; rw [hr]; decide) hneg
        | some t => exact ⟨t, rfl⟩
      have ho := orderOf_arr ht
      have hob : orderOf s ≤ 100 := by
        obtain ⟨_, h15⟩ := Ty.read_some ht
        have := t.order_atoms
        unfold orderOf
        rw [ht]
        simp only
        omega
      clear ht hz
      have hoh := Lib.hid ho
      have hbh := Lib.hid hb
      clear ho hb
      go_wp2_with fail
      rw [ba_app, ba_app]
      refine (typeOrder_any _ w3 (by simp; omega)).mono ?_
      rintro e w4 ⟨rfl, hg4⟩
      rw [show ([40, 62, 32] ++ s ++ [32, 98, 41] : List UInt8) = 40 :: 62 :: 32 :: (s ++ [32, 98, 41]) by simp]
      have hb := hbh.out
      rcases hoh.out with h1 | h1
      · rw [h1]
        go_wp2_with fail
        all_goals go_ret
        all_goals exact ⟨rfl, gr_trans hg1 (gr_trans hg2 (gr_trans hg3 hg4))⟩
      · rw [h1]
        go_wp2_with fail
        all_goals go_ret
        all_goals exact ⟨rfl, gr_trans hg1 (gr_trans hg2 (gr_trans hg3 hg4))⟩

section
open Go.ChangeShapes Go.WideShapes Go.ChangeAt Go.RowKit
open Go.ChangeMaps (open_string shut_string)
set_option maxRecDepth 100000 in
theorem FnOrder_lifted (os : Os) (started : os.Started) (H : Type) (enc : TypeId × Value → H) :
    ReturnsInHanded {} Try.checked os 7 .any (Rows.fnOrderSpec.pre6 enc Try.prog Try.f7 Rows.fnOrderRow.domain false) (Rows.fnOrderSpec.post enc Try.prog Try.f7 false true false false) := by
  refine returnsInHanded_of_change (C := Try.checked) Try.own started (by kernel_rfl) Try.func7
    (ChangeSpec.witness6 (enc := enc) (C := Try.checked) false ⟨#[], #[.slice none 0 0], []⟩ 8 (by kernel_rfl) (by kernel_rfl) (by kernel_rfl) (by kernel_rfl)) ?_
  intro W base args ds gs before hval0 hW hcnd _
  have hval : ∀ (j : Nat) t v, Try.f7.params[j]? = some t → args[j]? = some v → Value.okWide Try.prog W .any base t v := hval0
  have hW' := hW
  obtain ⟨p, q, hA0, hV, rfl, hfz, hnd⟩ := hW
  have hA : DataW.TrodAll enc Try.prog W 0 (fun _ => true) true Try.f7.params.toList args.toList ds p := hA0
  rw [Try.params7] at hA hval
  obtain ⟨v0, vs0, d0, ds0, p0, q0, hargs, rfl, rfl, h0, r0⟩ := trodAll_cons hA
  obtain ⟨rfl, rfl, rfl⟩ := trodAll_nil r0
  obtain rfl : args = #[v0] := by cases args; simp_all
  obtain ⟨rfl, rfl⟩ := trodVars_none hV
  obtain ⟨A0, n0, c0, rfl⟩ := okWide_slice Try.underlying26 (hval 0 26 v0 rfl rfl)
  have k0 := h0
  have lt0 : ∀ x ∈ p0, x.block < W.heap.size := by obtain ⟨m, hm⟩ := k0; exact DataW.trod_lt m _ _ _ hm
  obtain ⟨z0, w0⟩ : ∃ zs, IsRow .u8 W A0 n0 c0 zs := by
    obtain ⟨fuel, hf⟩ := h0
    rcases open_ints Try.underlying26 Try.underlying5 (by kernel_rfl) hf with ⟨hcs, _⟩ | ⟨x, l, c, zs, hcs, _, hl, hm, hz, _, hcell, hwz⟩
    · simp [Value.cells] at hcs
      obtain ⟨rfl, rfl, rfl⟩ := hcs
      exact ⟨[], .inl ⟨rfl, rfl, rfl, rfl⟩⟩
    · simp [Value.cells] at hcs
      obtain ⟨rfl, rfl, rfl⟩ := hcs
      exact ⟨zs, .inr ⟨_, rfl, hl, hm, by simpa using hz, hcell, hwz⟩⟩
  clear hA0 hval0
  refine (FnOrder_walk A0 n0 c0 z0 W w0).mono fun e W' ⟨he, hg⟩ => ?_
  subst he
  have bel := below_gr hg
  exact ⟨_, rfl, _, _, _, [], _, [], hW', trodAll_mk1 (shut_bool Try.underlying4 _), (trodAll_cons_mk (Below.trod Try.laidOut (by kernel_rfl) (of_decide_eq_true (by kernel_rfl)) k0 bel lt0) trodAll_mk0), rfl, bel.frame _, fun h => by cases h⟩
end

/-- The statement. -/
theorem FnOrder_holds : Rows.FnOrderSaid :=
  OpenClaim.holds_of_wide 7 Try.f7 rfl rfl rfl rfl rfl rfl rfl ⟨rfl, rfl, rfl, rfl, rfl⟩ rfl rfl rfl rfl rfl (by kernel_rfl) Try.func7 (by kernel_rfl)
    (of_decide_eq_true (by kernel_rfl)) (by unfold Func.isWrapper; first | (rw [if_pos (by decide +kernel)]; kernel_rfl) | (rw [if_neg (by decide +kernel)]; exact ⟨rfl, rfl⟩))
    (fun os started H enc _ => FnOrder_lifted os started H enc)
end Go.Proofs.Ytnfcabhondmhpaa
