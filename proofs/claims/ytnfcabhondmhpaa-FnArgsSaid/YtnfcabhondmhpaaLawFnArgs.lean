/- PROVED: 'laws.FnArgs' returns true for every input, and leaves its input as it was. No conditions. -/
import Derived.Test.YtnfcabhondmhpaaLists
import Derived.Test.YtnfcabhondmhpaaDraw2
import Derived.Test.YtnfcabhondmhpaaRow
namespace Go.Proofs.Ytnfcabhondmhpaa
open Go.RowKit

theorem at_digit {s : List UInt8} {t : Ty} {i : Nat} (h : Ty.read s = some t) (hi : i < 10) : atOf s [dg i] = t.args[i]? := by
  unfold atOf
  rw [h]
  simp only
  have e : (dg i).toNat = 48 + i := by
    have := dg_val i
    omega
  rw [at_cons, if_pos (by omega), e, show 48 + i - 48 = i by omega]
  cases t.args[i]? <;> rfl

theorem argL_get {s : List UInt8} {t : Ty} (h : Ty.read s = some t) : (argL s).length = t.args.length ∧ ∀ i (hi : i < (argL s).length), ∃ u, t.args[i]? = some u ∧ (argL s)[i] = u.text := by
  have ha : argL s = t.args.map Ty.text := by unfold argL; rw [h]
  rw [ha]
  refine ⟨List.length_map .., fun i hi => ?_⟩
  have hi' : i < t.args.length := by simpa using hi
  exact ⟨t.args[i], List.getElem?_eq_getElem hi', by simp⟩

set_option maxHeartbeats 1000000 in
theorem FnArgs_walk (A : Option Addr) (n c : Nat) (zs : List Int) (w : World) (h : IsRow .u8 w A n c zs) :
    Calls Try.prog 14 #[.slice A n c] w fun e w' => e = .returned (.bool true) ∧ w.grownBy w' none := by
  by_cases hl : n > 1048576
  · go_enter Try.func14, Try.ntmps14
    go_wp2_with fail
    go_ret
    exact ⟨rfl, gr_refl _ _⟩
  · go_enter Try.func14, Try.ntmps14
    go_wp2_with fail
    refine (drawTypeArgs_any A n c zs w h).mono ?_
    rintro e w1 ⟨s, hs, rfl, hg1⟩
    go_wp2_with fail
    refine (typeArgs_any s w1 (by omega)).mono ?_
    rintro e w2 ⟨hp2, hg2⟩
    unfold ArgsPost at hp2
    obtain ⟨A1, c1, rfl, hown1⟩ := hp2
    go_wp2_with fail
    refine (sTypeArgs_any s w2 (by omega)).mono ?_
    rintro e w3 ⟨hp3, hg3⟩
    unfold ArgsPost at hp3
    obtain ⟨A2, c2, rfl, hown2⟩ := hp3
    have hx := argL_len s
    have hg03 := gr_trans hg1 (gr_trans hg2 hg3)
    have hS1 := (own_sl hown1).1.grown0 hg3
    have hS2 := (own_sl hown2).1
    cases hr : Ty.read s with
    | none =>
      clear hr
      generalize argL s = xs at *
      simp only [Option.isSome_none]
      go_wp2_with fail
      refine (sameTexts_any xs xs A1 A2 c1 c2 _ _ w3 hS1 hS2 (by omega) (by omega)).mono ?_
      rintro e w4 ⟨rfl, hg4⟩
      rw [beq_self_eq_true]
      go_wp2_with fail
      refine (sameTexts_any xs xs A1 A2 c1 c2 _ _ w4 (hS1.grown0 hg4) (hS2.grown0 hg4) (by omega) (by omega)).mono ?_
      rintro e w5 ⟨rfl, hg5⟩
      rw [beq_self_eq_true]
      go_wp2_with fail
      go_ret
      exact ⟨rfl, gr_trans hg03 (gr_trans hg4 hg5)⟩
    | some t =>
      obtain ⟨hal, hag⟩ := argL_get hr
      have h15 := (Ty.read_some hr).2
      have hta := t.length_args
      have hD : ∀ i, i < 10 → ∀ W, Calls Try.prog 23 #[.string ⟨s.toArray⟩, .string ⟨#[dg i]⟩] W fun e w' => e = .returned (.tuple #[.string ⟨(txt t.args[i]?).toArray⟩, .bool (t.args[i]?).isSome]) ∧ W.grownBy w' none := by
        intro i hi W
        have h1 := typeAt_any s [dg i] W (by omega) (by simp)
        rw [at_digit hr hi] at h1
        exact h1
      have hx7 : (argL s).length ≤ 7 := by omega
      have hEnd := hD (argL s).length (by omega)
      rw [hal, List.getElem?_eq_none (Nat.le_refl _), ← hal] at hEnd
      have hDh := Lib.hid hD
      have hEh := Lib.hid hEnd
      have hagh := Lib.hid hag
      clear hr hag hD hEnd hal
      generalize argL s = xs at *
      simp only [Option.isSome_some]
      go_wp2_with fail
      refine (sameTexts_any xs xs A1 A2 c1 c2 _ _ w3 hS1 hS2 (by omega) (by omega)).mono ?_
      rintro e w4 ⟨rfl, hg4⟩
      rw [beq_self_eq_true]
      have hS4 := hS1.grown0 hg4
      have hg04 := gr_trans hg03 hg4
      go_wp2_with fail
      go_loopw [8] (fun i wr => ∃ (k : Nat), k ≤ xs.length ∧ i = .int .i64 (k : Int) ∧ w4.grownBy wr none) (fun i _ => xs.length - (intOf i).toNat)
      case atStart => exact ⟨0, Nat.zero_le _, rfl, gr_refl _ _⟩
      case round =>
        obtain ⟨k, hk, rfl, hgw⟩ := hrel
        by_cases hlt : k < xs.length
        · have kc := conv1 wr (48 + (k : Int)) (dg k) (by rw [dg_val]; omega)
          obtain ⟨u, hu1, hu2⟩ := hagh.out k hlt
          have hC := hDh.out k (by omega)
          rw [hu1] at hC
          simp only [txt, Option.isSome_some] at hC
          have hCh := Lib.hid hC
          clear hC hu1
          obtain ⟨g, o, rfl, _, hcell⟩ := (hS4.grown0 hgw) (by omega)
          have c1 := hcell k hlt
          rw [sv_lt xs hlt, hu2] at c1
          clear hcell hu2
          have hga := gr_alloc hgw (.cells #[.int .u8 (48 + (k : Int))] 5)
          go_wp2_with fail
          refine (hCh.out _).mono ?_
          rintro e w5 ⟨rfl, hg5⟩
          have hg6 := gr_trans (World.grownBy_alloc wr (.cells #[.int .u8 (48 + (k : Int))] 5) none) hg5
          have c2 := (World.cell?_of_block (w := wr) (a := ⟨g, o + k, none⟩) (hg6.block g (World.block_lt_of_cell? wr ⟨g, o + k, none⟩ c1) (by simp))).trans c1
          go_wp2_with fail
          go_roundw
          case rel => exact ⟨k + 1, by omega, by go_num, gr_trans hgw hg6⟩
          case measure => simp [intOf]; omega
        · obtain rfl : k = xs.length := by omega
          have kc := conv1 wr (48 + (xs.length : Int)) (dg xs.length) (by rw [dg_val]; omega)
          go_wp2_with fail
          refine (hEh.out _).mono ?_
          rintro e w5 ⟨rfl, hg5⟩
          go_wp2_with fail
          go_ret
          exact ⟨rfl, gr_trans hg04 (gr_trans (gr_alloc hgw _) hg5)⟩

section
open Go.ChangeShapes Go.WideShapes Go.ChangeAt Go.RowKit
open Go.ChangeMaps (open_string shut_string)
set_option maxRecDepth 100000 in
theorem FnArgs_lifted (os : Os) (started : os.Started) (H : Type) (enc : TypeId × Value → H) :
    ReturnsInHanded {} Try.checked os 14 .any (Rows.fnArgsSpec.pre6 enc Try.prog Try.f14 Rows.fnArgsRow.domain false) (Rows.fnArgsSpec.post enc Try.prog Try.f14 false true false false) := by
  refine returnsInHanded_of_change (C := Try.checked) Try.own started (by kernel_rfl) Try.func14
    (ChangeSpec.witness6 (enc := enc) (C := Try.checked) false ⟨#[], #[.slice none 0 0], []⟩ 8 (by kernel_rfl) (by kernel_rfl) (by kernel_rfl) (by kernel_rfl)) ?_
  intro W base args ds gs before hval0 hW hcnd _
  have hval : ∀ (j : Nat) t v, Try.f14.params[j]? = some t → args[j]? = some v → Value.okWide Try.prog W .any base t v := hval0
  have hW' := hW
  obtain ⟨p, q, hA0, hV, rfl, hfz, hnd⟩ := hW
  have hA : DataW.TrodAll enc Try.prog W 0 (fun _ => true) true Try.f14.params.toList args.toList ds p := hA0
  rw [Try.params14] at hA hval
  obtain ⟨v0, vs0, d0, ds0, p0, q0, hargs, rfl, rfl, h0, r0⟩ := trodAll_cons hA
  obtain ⟨rfl, rfl, rfl⟩ := trodAll_nil r0
  obtain rfl : args = #[v0] := by cases args; simp_all
  obtain ⟨rfl, rfl⟩ := trodVars_none hV
  obtain ⟨A0, n0, c0, rfl⟩ := okWide_slice Try.underlying26 (hval 0 26 v0 rfl rfl)
  have k0 := h0
  have lt0 : ∀ x ∈ p0, x.block < W.heap.size := by obtain ⟨m, hm⟩ := k0; exact DataW.trod_lt m _ _ _ hm
  obtain ⟨z0, w0⟩ : ∃ zs, IsRow .u8 W A0 n0 c0 zs := by
    obtain ⟨fuel, hf⟩ := h0
    rcases open_ints Try.underlying26 Try.underlying5 (by kernel_rfl) hf with ⟨hcs, _⟩ | ⟨x, l, c, zs, hcs, _, hl, hm, hz, _, hcell, hwz⟩
    · simp [Value.cells] at hcs
      obtain ⟨rfl, rfl, rfl⟩ := hcs
      exact ⟨[], .inl ⟨rfl, rfl, rfl, rfl⟩⟩
    · simp [Value.cells] at hcs
      obtain ⟨rfl, rfl, rfl⟩ := hcs
      exact ⟨zs, .inr ⟨_, rfl, hl, hm, by simpa using hz, hcell, hwz⟩⟩
  clear hA0 hval0
  refine (FnArgs_walk A0 n0 c0 z0 W w0).mono fun e W' ⟨he, hg⟩ => ?_
  subst he
  have bel := below_gr hg
  exact ⟨_, rfl, _, _, _, [], _, [], hW', trodAll_mk1 (shut_bool Try.underlying4 _), (trodAll_cons_mk (Below.trod Try.laidOut (by kernel_rfl) (of_decide_eq_true (by kernel_rfl)) k0 bel lt0) trodAll_mk0), rfl, bel.frame _, fun h => by cases h⟩
end

/-- The statement. -/
theorem FnArgs_holds : Rows.FnArgsSaid :=
  OpenClaim.holds_of_wide 14 Try.f14 rfl rfl rfl rfl rfl rfl rfl ⟨rfl, rfl, rfl, rfl, rfl⟩ rfl rfl rfl rfl rfl (by kernel_rfl) Try.func14 (by kernel_rfl)
    (of_decide_eq_true (by kernel_rfl)) (by unfold Func.isWrapper; first | (rw [if_pos (by decide +kernel)]; kernel_rfl) | (rw [if_neg (by decide +kernel)]; exact ⟨rfl, rfl⟩))
    (fun os started H enc _ => FnArgs_lifted os started H enc)
end Go.Proofs.Ytnfcabhondmhpaa
