/- PROVED: 'laws.FnBracketed' returns true for every input, and leaves its input as it was. No conditions. -/
import Derived.Test.YtkjkbcfifhakkaaPlayApi
import Derived.Test.YtkjkbcfifhakkaaMoves
import Derived.Test.YtkjkbcfifhakkaaPlayCut
import Derived.Test.YtkjkbcfifhakkaaPlayDraw3
import Derived.Test.YtkjkbcfifhakkaaRow
namespace Go.Proofs.Ytkjkbcfifhakkaa
open Go.RowKit

set_option maxHeartbeats 4000000 in
theorem FnBracketed_walk (A : Option Addr) (n c : Nat) (zs : List Int) (w : World) (h : IsRow .u8 w A n c zs) :
    Calls Try.prog 3 #[.slice A n c] w fun e w' => e = .returned (.bool true) ∧ w.grownBy w' none := by
  by_cases hl : n > 1048576
  · go_enter Try.func3, Try.ntmps3
    go_wp2_with fail
    go_ret
    exact ⟨rfl, gr_refl _ _⟩
  · go_enter Try.func3, Try.ntmps3
    go_wp2_with fail
    refine (drawPlayBracketed_any A n c zs w h).mono ?_
    rintro e w1 ⟨r, p, PA, cA, PB, cB, rfl, hD, hg1⟩
    have hDh := Lib.hid hD
    have hr := hD.1
    have hp9 := hD.2.1
    have hq9 := hD.2.2.1
    clear hD
    have hgb := World.grownBy_alloc w1 (.cells #[.slice PA p.ms.length cA, .slice PB p.ps.length cB] 26) none
    have hb := Blk.new w1 26 #[.slice PA p.ms.length cA, .slice PB p.ps.length cB]
    have hS := hDh.out.2.2.2.2.1
    have hsmh := Lib.hid hDh.out.small
    go_wp2_with fail
    refine (playBracketed_any r p PA cA PB cB _ _ (by omega) (hS.grown0 hgb) hsmh.out).mono ?_
    rintro e w2 ⟨rfl, hg2⟩
    have hb2 := hb.grown0 hg2
    have d0 := hb2.cell 0
    have d1 := hb2.cell 1
    have dlt := hb2.lt
    simp only [List.getElem?_toArray, List.getElem?_cons_zero, List.getElem?_cons_succ] at d0 d1
    go_wp2_with fail
    refine (sPlayBracketed_any r p PA cA PB cB _ _ (by omega) ((hS.grown0 hgb).grown0 hg2) hsmh.out).mono ?_
    rintro e w3 ⟨rfl, hg3⟩
    have hgb3 := gr_trans hgb (gr_trans hg2 hg3)
    have hg03 := gr_trans hg1 hgb3
    cases hv : brOf r p with
    | false =>
      clear hv
      go_wp2_with fail
      go_ret
      exact ⟨rfl, hg03⟩
    | true =>
      have hvh := Lib.hid hv
      unfold brOf at hv
      rw [Bool.and_eq_true] at hv
      have hbrh := Lib.hid hv.2
      obtain ⟨t, htr, hok, hat⟩ := playOf_some hv.1
      have hmo := Lib.hid (fun (i : Nat) (hi : i < p.ms.length) => isMove_cons' (Pl.ok_mv hok hi).1)
      have hokh := Lib.hid hok
      have hll := Lib.hid (Pl.ok_iff.1 hok).2.1
      have hbk := Lib.hid (fun (W : World) (hW : w3.grownBy W none) => show W.cell? ⟨w1.heap.size, 0, none⟩ = some (.slice PA p.ms.length cA) ∧ W.cell? ⟨w1.heap.size, 1, none⟩ = some (.slice PB p.ps.length cB) ∧ w1.heap.size < W.heap.size from
        ⟨((hb2.grown0 hg3).grown0 hW).cell 0, ((hb2.grown0 hg3).grown0 hW).cell 1, ((hb2.grown0 hg3).grown0 hW).lt⟩)
      have hSh := Lib.hid (fun (W : World) (hW : w3.grownBy W none) => hS.grown0 (gr_trans hgb3 hW))
      have hg3h := Lib.hid hg03
      simp only [hll.out] at hbk
      clear hv htr hok hS hb hgb hgb3 hb2 d0 d1 dlt hg03 hg1 hg2 hg3 h hq9
      obtain ⟨d0, d1, dlt⟩ := hbk.out w3 (gr_refl _ _)
      go_wp2_with fail
      go_loopw [8] (fun i wr => ∃ k : Nat, k ≤ p.ms.length ∧ i = .int .i64 (k : Int) ∧ w3.grownBy wr none) (fun i _ => p.ms.length - (intOf i).toNat)
      case atStart => exact ⟨0, Nat.zero_le _, rfl, gr_refl _ _⟩
      case round =>
        clear d0 d1 dlt
        obtain ⟨k, hkl, rfl, hgr⟩ := hrel
        by_cases hlt : k < p.ms.length
        · have hgrh := Lib.hid hgr
          clear hgr
          go_wp2_with fail
          go_loopw [9] (fun i wr => ∃ j : Nat, j ≤ k ∧ i = .int .i64 (j : Int) ∧ w3.grownBy wr none) (fun i _ => k - (intOf i).toNat)
          case atStart => exact ⟨0, Nat.zero_le _, rfl, hgrh.out⟩
          case round =>
            clear hgrh
            obtain ⟨j, hjl, rfl, hgr⟩ := hrel
            obtain ⟨d0, d1, dlt⟩ := hbk.out wr hgr
            by_cases hj : j < k
            · obtain ⟨hS1, hS2⟩ := hSh.out wr hgr
              rw [hll.out] at hS2
              obtain ⟨g1, o1, rfl, _, hc1⟩ := hS1 (by omega)
              obtain ⟨g2, o2, rfl, _, hc2⟩ := hS2 (by omega)
              obtain ⟨c, q, hcq⟩ := hmo.out k hlt
              obtain ⟨c', q', hcq'⟩ := hmo.out j (by omega)
              have x1 := hc1 k hlt
              have x2 := hc1 j (by omega)
              have y1 := hc2 k hlt
              have y2 := hc2 j (by omega)
              rw [sv_lt p.ms hlt, ← mv_lt hlt, hcq] at x1
              rw [sv_lt p.ms (by omega : j < p.ms.length), ← mv_lt (by omega), hcq'] at x2
              rw [iv_lt p.ps (by rw [hll.out]; exact hlt), ← pt_lt (by rw [hll.out]; exact hlt)] at y1
              rw [iv_lt p.ps (by rw [hll.out]; omega), ← pt_lt (by rw [hll.out]; omega)] at y2
              have hone := Pl.br_once hokh.out hbrh.out hj hlt
              have hm1 : mQ (p.mv k) = (c == 113) := by rw [hcq]; rfl
              have hm2 : mQ (p.mv j) = (c' == 113) := by rw [hcq']; rfl
              rw [hm1, hm2] at hone
              have honeh := Lib.hid hone
              have l1 : 0 < (⟨(c :: q).toArray⟩ : ByteArray).size := by simp [ByteArray.size]
              have l2 : 0 < (⟨(c' :: q').toArray⟩ : ByteArray).size := by simp [ByteArray.size]
              have b1 := byte_val (c :: q) 0 (by simp) l1
              have b2 := byte_val (c' :: q') 0 (by simp) l2
              simp only [List.getElem_cons_zero] at b1 b2
              have e1 := byte0_ne c 113 113 rfl
              have e2 := byte0_eq c 113 113 rfl
              have e3 := byte0_ne c' 113 113 rfl
              have e4 := byte0_eq c' 113 113 rfl
              have h0 : 0 ≤ (k : Int) := by omega
              have h1 : (k : Int) < (p.ms.length : Int) := by omega
              have h2 : 0 ≤ (j : Int) := by omega
              have h3 : (j : Int) < (p.ms.length : Int) := by omega
              clear hone hm1 hm2 hcq hcq' hc1 hc2 hS1 hS2
              generalize p.pt k = x at *
              generalize p.pt j = y at *
              cases hq : (c == 113) with
              | true =>
                rw [hq] at e1 e2
                clear e3 e4 honeh
                go_wp2_with fail
                go_quiet (fail)
                go_wp2_with fail
                go_roundw
                case rel => exact ⟨j + 1, by omega, by go_num, gr_drewN hgr _⟩
                case measure => simp [intOf]; omega
              | false =>
                rw [hq] at e1 e2
                cases hq' : (c' == 113) with
                | true =>
                  rw [hq'] at e3 e4
                  clear honeh
                  go_wp2_with fail
                  go_quiet (fail)
                  go_wp2_with fail
                  go_roundw
                  case rel => exact ⟨j + 1, by omega, by go_num, gr_drewN hgr _⟩
                  case measure => simp [intOf]; omega
                | false =>
                  rw [hq'] at e3 e4
                  have hxy := honeh.out hq hq'
                  have hxy' : (x == y) = false := by rw [beq_eq_false_iff_ne]; exact hxy
                  clear honeh
                  go_wp2_with fail
                  go_quiet (fail)
                  go_wp2_with fail
                  go_roundw
                  case rel => exact ⟨j + 1, by omega, by go_num, gr_drewN hgr _⟩
                  case measure => simp [intOf]; omega
            · go_wp2_with fail
              go_roundw
              case rel => exact ⟨k + 1, by omega, by go_num, hgr⟩
              case measure => simp [intOf]; omega
        · obtain ⟨d0, d1, dlt⟩ := hbk.out wr hgr
          by_cases hn0 : p.ms.length = 0
          · have hn1 : ((p.ms.length : Int) == 0) = true := by rw [beq_iff_eq]; omega
            have hkn : ¬ (k : Int) < (p.ms.length : Int) := by omega
            have hn0h := Lib.hid hn0
            clear hn0 hkl
            go_wp2_with fail
            go_ret
            exact ⟨rfl, gr_trans hg3h.out hgr⟩
          · obtain rfl : k = p.ms.length := by omega
            have hn1 : ((p.ms.length : Int) == 0) = false := by rw [beq_eq_false_iff_ne]; omega
            have hS := hSh.out wr hgr
            have hC := cutPlay_any p PA cA PB cB _ (p.ms.length - 1) wr hS (by omega) hll.out (by omega) hDh.out.2.2.2.2.2.1 hDh.out.2.2.2.2.2.2
            rw [hll.out, show ((p.ms.length - 1 : Nat) : Int) = (p.ms.length : Int) - 1 by omega] at hC
            have hCh := Lib.hid hC
            clear hC hS hkl hlt
            go_wp2_with fail
            refine hCh.out.mono ?_
            rintro e w5 ⟨A', cA', B', cB', rfl, hO, hg5⟩
            have hok1 := Lib.hid (show brOf r (p.cut (p.ms.length - 1)) = true from brOf_cut hvh.out _)
            have hsm1 := Lib.hid (SmallP.cut hsmh.out (p.ms.length - 1))
            generalize p.cut (p.ms.length - 1) = pc at *
            have hP := playBracketed_any r pc A' cA' B' cB' _ w5 (by omega) hO.sl hsm1.out
            rw [hok1.out] at hP
            have hPh := Lib.hid hP
            clear hP
            go_wp2_with fail
            refine hPh.out.mono ?_
            rintro e w6 ⟨rfl, hg6⟩
            go_wp2_with fail
            go_ret
            exact ⟨rfl, gr_trans hg3h.out (gr_trans hgr (gr_trans hg5 hg6))⟩

section
open Go.ChangeShapes Go.WideShapes Go.ChangeAt Go.RowKit
open Go.ChangeMaps (open_string shut_string)
set_option maxRecDepth 100000 in
theorem FnBracketed_lifted (os : Os) (started : os.Started) (H : Type) (enc : TypeId × Value → H) :
    ReturnsInHanded {} Try.checked os 3 .any (Rows.fnBracketedSpec.pre6 enc Try.prog Try.f3 Rows.fnBracketedRow.domain false) (Rows.fnBracketedSpec.post enc Try.prog Try.f3 false true false false) := by
  refine returnsInHanded_of_change (C := Try.checked) Try.own started (by kernel_rfl) Try.func3
    (ChangeSpec.witness6 (enc := enc) (C := Try.checked) false ⟨#[], #[.slice none 0 0], []⟩ 8 (by kernel_rfl) (by kernel_rfl) (by kernel_rfl) (by kernel_rfl)) ?_
  intro W base args ds gs before hval0 hW hcnd _
  have hval : ∀ (j : Nat) t v, Try.f3.params[j]? = some t → args[j]? = some v → Value.okWide Try.prog W .any base t v := hval0
  have hW' := hW
  obtain ⟨p, q, hA0, hV, rfl, hfz, hnd⟩ := hW
  have hA : DataW.TrodAll enc Try.prog W 0 (fun _ => true) true Try.f3.params.toList args.toList ds p := hA0
  rw [Try.params3] at hA hval
  obtain ⟨v0, vs0, d0, ds0, p0, q0, hargs, rfl, rfl, h0, r0⟩ := trodAll_cons hA
  obtain ⟨rfl, rfl, rfl⟩ := trodAll_nil r0
  obtain rfl : args = #[v0] := by cases args; simp_all
  obtain ⟨rfl, rfl⟩ := trodVars_none hV
  obtain ⟨A0, n0, c0, rfl⟩ := okWide_slice Try.underlying22 (hval 0 22 v0 rfl rfl)
  have k0 := h0
  have lt0 : ∀ x ∈ p0, x.block < W.heap.size := by obtain ⟨m, hm⟩ := k0; exact DataW.trod_lt m _ _ _ hm
  obtain ⟨z0, w0⟩ : ∃ zs, IsRow .u8 W A0 n0 c0 zs := by
    obtain ⟨fuel, hf⟩ := h0
    rcases open_ints Try.underlying22 Try.underlying5 (by kernel_rfl) hf with ⟨hcs, _⟩ | ⟨x, l, c, zs, hcs, _, hl, hm, hz, _, hcell, hwz⟩
    · simp [Value.cells] at hcs
      obtain ⟨rfl, rfl, rfl⟩ := hcs
      exact ⟨[], .inl ⟨rfl, rfl, rfl, rfl⟩⟩
    · simp [Value.cells] at hcs
      obtain ⟨rfl, rfl, rfl⟩ := hcs
      exact ⟨zs, .inr ⟨_, rfl, hl, hm, by simpa using hz, hcell, hwz⟩⟩
  clear hA0 hval0
  refine (FnBracketed_walk A0 n0 c0 z0 W w0).mono fun e W' ⟨he, hg⟩ => ?_
  subst he
  have bel := below_gr hg
  exact ⟨_, rfl, _, _, _, [], _, [], hW', trodAll_mk1 (shut_bool Try.underlying4 _), (trodAll_cons_mk (Below.trod Try.laidOut (by kernel_rfl) (of_decide_eq_true (by kernel_rfl)) k0 bel lt0) trodAll_mk0), rfl, bel.frame _, fun h => by cases h⟩
end

/-- The statement. -/
theorem FnBracketed_holds : Rows.FnBracketedSaid :=
  OpenClaim.holds_of_wide 3 Try.f3 rfl rfl rfl rfl rfl rfl rfl ⟨rfl, rfl, rfl, rfl, rfl⟩ rfl rfl rfl rfl rfl (by kernel_rfl) Try.func3 (by kernel_rfl)
    (of_decide_eq_true (by kernel_rfl)) (by unfold Func.isWrapper; first | (rw [if_pos (by decide +kernel)]; kernel_rfl) | (rw [if_neg (by decide +kernel)]; exact ⟨rfl, rfl⟩))
    (fun os started H enc _ => FnBracketed_lifted os started H enc)
end Go.Proofs.Ytkjkbcfifhakkaa
