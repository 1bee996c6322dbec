/- PROVED: 'laws.FnCount' returns true for every input, and leaves its input as it was. No conditions. -/
import Derived.Test.YtlehnlfgjadleaaDCnt
import Derived.Test.YtlehnlfgjadleaaInts
import Derived.Test.YtlehnlfgjadleaaRow
namespace Go.Proofs.Ytlehnlfgjadleaa
open Go.RowKit

set_option maxRecDepth 100000 in
set_option maxHeartbeats 2000000 in
theorem FnCount_walk (A : Option Addr) (n c : Nat) (zs : List Int) (w : World) (h : IsRow .u8 w A n c zs) :
    Calls Try.prog 4 #[.slice A n c] w fun e w' => e = .returned (.bool true) ∧ w.grownBy w' none := by
  by_cases hl : n > 1048576
  · go_enter Try.func4, Try.ntmps4
    go_wp2_with fail
    go_ret
    exact ⟨rfl, gr_refl _ _⟩
  · have hlI : ¬ (1048576 : Int) < (n : Int) := by omega
    go_enter Try.func4, Try.ntmps4
    go_wp2_with fail
    refine (drawCountOf_any A n c zs w h).mono ?_
    rintro e w1 ⟨s, m, hs, hm1, hm2, rfl, hg1⟩
    go_wp2_with fail
    refine (iCount_any s m w1 (by omega)).mono ?_
    rintro e w2 ⟨⟨A1, c1, rfl, hown1⟩, hg2⟩
    go_wp2_with fail
    refine (sCount_any s m w2 (by omega)).mono ?_
    rintro e w3 ⟨⟨A0, c0, rfl, hS0⟩, hg3⟩
    have hx := cntL_len s m
    have hT := Lib.hid (fun W => iCount_any s (m - 1) W (by omega))
    have hyes := Lib.hid (@cnt_yes s m)
    have hbb : (cntB s m != cntB s m) = false := by simp
    have hwm : IntKind.i64.wrap (m - 1) = m - 1 := IntWalk.i64_in _ (by omega)
    generalize hL : cntL s m = xs at *
    generalize hB : cntB s m = b at *
    clear hL hB
    have hown3 := own_keep hown1 hg3
    have hSs := Lib.hid (fun W (hW : w3.grownBy W none) => sameInts_any xs xs A1 A0 c1 c0 _ _ W ((own_sli hown3).1.grown0 hW) (hS0.grown0 hW) (by omega) (by omega))
    have hg03 := gr_trans (gr_trans hg1 hg2) hg3
    have hcap : xs.length ≤ c1 := by
      obtain ⟨_, ⟨e1, e2⟩ | ⟨g', cap, cur, e1, _, _, h1, _⟩⟩ := hown1
      · omega
      · injection e1 with _ _ e3; omega
    have hS1 := (own_sli hown1).1
    have hS1h := Lib.hid (fun W (hW : w2.grownBy W none) => hS1.grown0 hW)
    cases b with
    | false =>
      go_wp2_with fail
      refine (hSs.out _ (gr_refl _ _)).mono ?_
      rintro e w4 ⟨rfl, hg4⟩
      rw [beq_self_eq_true]
      go_wp2_with fail
      refine (hSs.out _ hg4).mono ?_
      rintro e w5 ⟨rfl, hg5⟩
      rw [beq_self_eq_true]
      go_wp2_with fail
      go_ret
      exact ⟨rfl, gr_trans (gr_trans hg03 hg4) hg5⟩
    | true =>
      obtain ⟨k, rfl, hk1, hk8, hlen, h3, hb1, hb2⟩ := hyes.out rfl
      subst hlen
      clear hyes
      have hxI : (0 : Int) < (xs.length : Int) := by omega
      go_wp2_with fail
      refine (hSs.out _ (gr_refl _ _)).mono ?_
      rintro e w4 ⟨rfl, hg4⟩
      rw [beq_self_eq_true]
      by_cases hone : xs.length = 1
      · have hT1 := hT.out
        simp only [hb1 hone] at hT1
        have hTh := Lib.hid hT1
        clear hT1 hT hone
        go_wp2_with fail
        refine (hTh.out _).mono ?_
        rintro e w5 ⟨⟨A3, c3, rfl, hown5⟩, hg5⟩
        obtain ⟨g, o, rfl, _, hc⟩ := (hS1h.out _ (gr_trans (gr_trans hg3 hg4) hg5)) hk1
        have c0 := hc 0 hk1
        unfold iv at c0
        rw [h3] at c0
        have c0l := World.block_lt_of_cell? w5 ⟨g, o + 0, none⟩ c0
        rw [Nat.add_zero] at c0
        clear hc hown5
        go_wp2_with fail
        go_ret
        exact ⟨rfl, gr_trans (gr_trans hg03 hg4) hg5⟩
      · obtain ⟨hB2, hL2⟩ := hb2 (by omega)
        have htl : (xs.take (xs.length - 1)).length = xs.length - 1 := by simp
        have hT1 := hT.out
        simp only [hB2, hL2, htl] at hT1
        have hTh := Lib.hid hT1
        have htn : ((xs.length : Int) - 1).toNat = xs.length - 1 := by omega
        have hm0 : (0 : Int) ≤ (xs.length : Int) - 1 := by omega
        have hmc : (xs.length : Int) - 1 ≤ (c1 : Int) := by omega
        clear hT1 hT hL2 hB2
        go_wp2_with fail
        refine (hTh.out _).mono ?_
        rintro e w5 ⟨⟨A3, c3, rfl, hown5⟩, hg5⟩
        have hg35 := gr_trans (gr_trans hg3 hg4) hg5
        obtain ⟨g, o, rfl, _, hc⟩ := (hS1h.out _ hg35) hk1
        have c0 := hc 0 hk1
        unfold iv at c0
        rw [h3] at c0
        have c0l := World.block_lt_of_cell? w5 ⟨g, o + 0, none⟩ c0
        rw [Nat.add_zero] at c0
        have hpre : Sl w5 Al (some ⟨g, o, none⟩) (xs.take (xs.length - 1)).length (iv (xs.take (xs.length - 1))) := fun _ => ⟨g, o, rfl, trivial, fun i hi => by
          rw [hc i (by omega)]
          rw [htl] at hi
          have hi2 : i < xs.length := by omega
          simp [iv, List.getD, hi, hi2]⟩
        have hS5 := (own_sli (xs := xs.take (xs.length - 1)) hown5).1
        have hF := Lib.hid (sameInts_any (xs.take (xs.length - 1)) (xs.take (xs.length - 1)) A3 (some ⟨g, o, none⟩) c3 c1 _ _ w5 hS5 hpre (by omega) (by omega))
        rw [htl] at hF
        clear hc hown5 hpre hS5
        go_wp2_with fail
        refine hF.out.mono ?_
        rintro e w6 ⟨rfl, hg6⟩
        rw [beq_self_eq_true]
        go_wp2_with fail
        go_ret
        exact ⟨rfl, gr_trans (gr_trans (gr_trans hg03 hg4) hg5) hg6⟩

section
open Go.ChangeShapes Go.WideShapes Go.ChangeAt Go.RowKit
open Go.ChangeMaps (open_string shut_string)
set_option maxRecDepth 100000 in
theorem FnCount_lifted (os : Os) (started : os.Started) (H : Type) (enc : TypeId × Value → H) :
    ReturnsInHanded {} Try.checked os 4 .any (Rows.fnCountSpec.pre6 enc Try.prog Try.f4 Rows.fnCountRow.domain false) (Rows.fnCountSpec.post enc Try.prog Try.f4 false true false false) := by
  refine returnsInHanded_of_change (C := Try.checked) Try.own started (by kernel_rfl) Try.func4
    (ChangeSpec.witness6 (enc := enc) (C := Try.checked) false ⟨#[], #[.slice none 0 0], []⟩ 8 (by kernel_rfl) (by kernel_rfl) (by kernel_rfl) (by kernel_rfl)) ?_
  intro W base args ds gs before hval0 hW hcnd _
  have hval : ∀ (j : Nat) t v, Try.f4.params[j]? = some t → args[j]? = some v → Value.okWide Try.prog W .any base t v := hval0
  have hW' := hW
  obtain ⟨p, q, hA0, hV, rfl, hfz, hnd⟩ := hW
  have hA : DataW.TrodAll enc Try.prog W 0 (fun _ => true) true Try.f4.params.toList args.toList ds p := hA0
  rw [Try.params4] at hA hval
  obtain ⟨v0, vs0, d0, ds0, p0, q0, hargs, rfl, rfl, h0, r0⟩ := trodAll_cons hA
  obtain ⟨rfl, rfl, rfl⟩ := trodAll_nil r0
  obtain rfl : args = #[v0] := by cases args; simp_all
  obtain ⟨rfl, rfl⟩ := trodVars_none hV
  obtain ⟨A0, n0, c0, rfl⟩ := okWide_slice Try.underlying28 (hval 0 28 v0 rfl rfl)
  have k0 := h0
  have lt0 : ∀ x ∈ p0, x.block < W.heap.size := by obtain ⟨m, hm⟩ := k0; exact DataW.trod_lt m _ _ _ hm
  obtain ⟨z0, w0⟩ : ∃ zs, IsRow .u8 W A0 n0 c0 zs := by
    obtain ⟨fuel, hf⟩ := h0
    rcases open_ints Try.underlying28 Try.underlying5 (by kernel_rfl) hf with ⟨hcs, _⟩ | ⟨x, l, c, zs, hcs, _, hl, hm, hz, _, hcell, hwz⟩
    · simp [Value.cells] at hcs
      obtain ⟨rfl, rfl, rfl⟩ := hcs
      exact ⟨[], .inl ⟨rfl, rfl, rfl, rfl⟩⟩
    · simp [Value.cells] at hcs
      obtain ⟨rfl, rfl, rfl⟩ := hcs
      exact ⟨zs, .inr ⟨_, rfl, hl, hm, by simpa using hz, hcell, hwz⟩⟩
  clear hA0 hval0
  refine (FnCount_walk A0 n0 c0 z0 W w0).mono fun e W' ⟨he, hg⟩ => ?_
  subst he
  have bel := below_gr hg
  exact ⟨_, rfl, _, _, _, [], _, [], hW', trodAll_mk1 (shut_bool Try.underlying4 _), (trodAll_cons_mk (Below.trod Try.laidOut (by kernel_rfl) (of_decide_eq_true (by kernel_rfl)) k0 bel lt0) trodAll_mk0), rfl, bel.frame _, fun h => by cases h⟩
end

/-- The statement. -/
theorem FnCount_holds : Rows.FnCountSaid :=
  OpenClaim.holds_of_wide 4 Try.f4 rfl rfl rfl rfl rfl rfl rfl ⟨rfl, rfl, rfl, rfl, rfl⟩ rfl rfl rfl rfl rfl (by kernel_rfl) Try.func4 (by kernel_rfl)
    (of_decide_eq_true (by kernel_rfl)) (by unfold Func.isWrapper; first | (rw [if_pos (by decide +kernel)]; kernel_rfl) | (rw [if_neg (by decide +kernel)]; exact ⟨rfl, rfl⟩))
    (fun os started H enc _ => FnCount_lifted os started H enc)
end Go.Proofs.Ytlehnlfgjadleaa
