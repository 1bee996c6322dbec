/- PROVED: 'laws.FnPending' returns true for every input, and leaves its input as it was. No conditions. -/
import Derived.Test.YtefkfloggicmoaaPlayApi
import Derived.Test.YtefkfloggicmoaaMoves
import Derived.Test.YtefkfloggicmoaaPlayCut
import Derived.Test.YtefkfloggicmoaaPlayDraw3
import Derived.Test.YtefkfloggicmoaaRow
namespace Go.Proofs.Ytefkfloggicmoaa
open Go.RowKit

/-- Is the question at i answered ahead of k. -/
def ansB (p : Pl) (i k : Nat) : Bool := (List.range k).any fun j => decide (i < j) && (!mQ (p.mv j) && p.pt j == (i : Int))
theorem ansB_start (p : Pl) (i : Nat) : ansB p i (i + 1) = false := by
  unfold ansB
  rw [List.any_eq_false]
  intro j hj
  rw [List.mem_range] at hj
  have : decide (i < j) = false := by simp; omega
  rw [this]; simp
theorem ansB_succ (p : Pl) {i k : Nat} (h : i < k) : ansB p i (k + 1) = (ansB p i k || (!mQ (p.mv k) && p.pt k == (i : Int))) := by
  unfold ansB
  rw [List.range_succ, List.any_append]
  simp [h]
theorem ansB_end {p : Pl} {z i : Nat} (q5 : ∀ j, z < j → j < p.ms.length → mQ (p.mv j) = false → p.pt j ≠ (z : Int)) (q6 : ∀ i : Nat, z < i → i < p.ms.length → mQ (p.mv i) = true → (i : Int) ∈ ([] : List Int) ∨ ∃ j, i < j ∧ j < p.ms.length ∧ mQ (p.mv j) = false ∧ p.pt j = (i : Int))
    (hz : z ≤ i) (hi : i < p.ms.length) (hq : mQ (p.mv i) = true) : ansB p i p.ms.length = decide (z < i) := by
  unfold ansB
  by_cases h : z < i
  · rw [decide_eq_true h, List.any_eq_true]
    rcases q6 i h hi hq with h1 | ⟨j, h1, h2, h3, h4⟩
    · cases h1
    · exact ⟨j, List.mem_range.2 h2, by rw [h3, h4]; simp [h1]⟩
  · obtain rfl : i = z := by omega
    rw [decide_eq_false h, List.any_eq_false]
    intro j hj
    rw [List.mem_range] at hj
    intro hh
    simp only [Bool.and_eq_true, decide_eq_true_eq, Bool.not_eq_true', beq_iff_eq] at hh
    exact q5 j hh.1 hj hh.2.1 hh.2.2

set_option maxHeartbeats 4000000 in
theorem FnPending_walk (A : Option Addr) (n c : Nat) (zs : List Int) (w : World) (h : IsRow .u8 w A n c zs) :
    Calls Try.prog 12 #[.slice A n c] w fun e w' => e = .returned (.bool true) ∧ w.grownBy w' none := by
  by_cases hl : n > 1048576
  · go_enter Try.func12, Try.ntmps12
    go_wp2_with fail
    go_ret
    exact ⟨rfl, gr_refl _ _⟩
  · go_enter Try.func12, Try.ntmps12
    go_wp2_with fail
    refine (drawPlayPending_any A n c zs w h).mono ?_
    rintro e w1 ⟨r, p, PA, cA, PB, cB, rfl, hD, hg1⟩
    have hDh := Lib.hid hD
    have hr := hD.1
    have hp9 := hD.2.1
    have hq9 := hD.2.2.1
    clear hD
    have hgb := World.grownBy_alloc w1 (.cells #[.slice PA p.ms.length cA, .slice PB p.ps.length cB] 28) none
    have hb := Blk.new w1 28 #[.slice PA p.ms.length cA, .slice PB p.ps.length cB]
    have hS := hDh.out.2.2.2.2.1
    have hsmh := Lib.hid hDh.out.small
    go_wp2_with fail
    refine (playPending_any r p PA cA PB cB _ _ (by omega) (hS.grown0 hgb) hsmh.out).mono ?_
    rintro e w2 ⟨rfl, hg2⟩
    have hb2 := hb.grown0 hg2
    have d0 := hb2.cell 0
    have d1 := hb2.cell 1
    have dlt := hb2.lt
    simp only [List.getElem?_toArray, List.getElem?_cons_zero, List.getElem?_cons_succ] at d0 d1
    go_wp2_with fail
    refine (sPlayPending_any r p PA cA PB cB _ _ (by omega) ((hS.grown0 hgb).grown0 hg2) hsmh.out).mono ?_
    rintro e w3 ⟨rfl, hg3⟩
    have hgb3 := gr_trans hgb (gr_trans hg2 hg3)
    have hg03 := gr_trans hg1 hgb3
    cases hv : playOf r p with
    | false =>
      have hP : pendOf r p = -1 := by unfold pendOf; rw [hv]; rfl
      rw [hP]
      clear hv hP
      go_wp2_with fail
      go_ret
      exact ⟨rfl, hg03⟩
    | true =>
      have hP : pendOf r p = pendI p p.ms.length [] := by unfold pendOf; rw [hv]; rfl
      rw [hP]
      obtain ⟨t, htr, hok, hat⟩ := playOf_some hv
      have hmo := Lib.hid (fun (i : Nat) (hi : i < p.ms.length) => isMove_cons' (Pl.ok_mv hok hi).1)
      rcases Pl.pend_spec (p := p) p.ms.length [] with ⟨q1, _⟩ | ⟨z, q1, q2, q3, q4, q5, q6⟩
      · have hP2 : pendI p p.ms.length [] = -1 := q1
        rw [hP2]
        clear hv hP hP2 q1
        go_wp2_with fail
        go_ret
        exact ⟨rfl, hg03⟩
      · have hP2 : pendI p p.ms.length [] = (z : Int) := q1
        rw [hP2]
        have q3h := Lib.hid q3
        have q5h := Lib.hid q5
        have q6h := Lib.hid q6
        clear hP hP2 q1 q3 q4 q5 q6
        have hokh := Lib.hid hok
        have hll := Lib.hid (Pl.ok_iff.1 hok).2.1
        have hbk := Lib.hid (fun (W : World) (hW : w3.grownBy W none) => show W.cell? ⟨w1.heap.size, 0, none⟩ = some (.slice PA p.ms.length cA) ∧ W.cell? ⟨w1.heap.size, 1, none⟩ = some (.slice PB p.ps.length cB) ∧ w1.heap.size < W.heap.size from
          ⟨((hb2.grown0 hg3).grown0 hW).cell 0, ((hb2.grown0 hg3).grown0 hW).cell 1, ((hb2.grown0 hg3).grown0 hW).lt⟩)
        have hSh := Lib.hid (fun (W : World) (hW : w3.grownBy W none) => hS.grown0 (gr_trans hgb3 hW))
        have hg3h := Lib.hid hg03
        simp only [hll.out] at hbk
        clear hv htr hok hS hb hgb hgb3 hb2 d0 d1 dlt hg03 hg1 hg2 hg3 h hq9
        obtain ⟨d0, d1, dlt⟩ := hbk.out w3 (gr_refl _ _)
        have hz0 : ¬ (z : Int) < 0 := by omega
        go_wp2_with fail
        go_loopw [7] (fun i wr => ∃ k : Nat, z ≤ k ∧ k ≤ p.ms.length ∧ i = .int .i64 (k : Int) ∧ w3.grownBy wr none) (fun i _ => p.ms.length - (intOf i).toNat)
        case atStart => exact ⟨z, Nat.le_refl _, by omega, rfl, gr_refl _ _⟩
        case round =>
          clear d0 d1 dlt
          obtain ⟨k, hzk, hkl, rfl, hgr⟩ := hrel
          obtain ⟨d0, d1, dlt⟩ := hbk.out wr hgr
          by_cases hlt : k < p.ms.length
          · have hgrh := Lib.hid hgr
            clear hgr
            go_wp2_with fail
            go_loopw [8, 9] (fun a i wr => ∃ j : Nat, k < j ∧ j ≤ p.ms.length ∧ i = .int .i64 (j : Int) ∧ a = .bool (ansB p k j) ∧ w3.grownBy wr none) (fun _ i _ => p.ms.length - (intOf i).toNat)
            case atStart => exact ⟨k + 1, by omega, by omega, by go_num, by rw [ansB_start], hgrh.out⟩
            case round =>
              clear hgrh d0 d1 dlt
              obtain ⟨j, hkj, hjl, rfl, rfl, hgr⟩ := hrel
              obtain ⟨d0, d1, dlt⟩ := hbk.out wr hgr
              obtain ⟨hS1, hS2⟩ := hSh.out wr hgr
              rw [hll.out] at hS2
              obtain ⟨g1, o1, rfl, _, hc1⟩ := hS1 (by omega)
              obtain ⟨g2, o2, rfl, _, hc2⟩ := hS2 (by omega)
              by_cases hj : j < p.ms.length
              · obtain ⟨c, q, hcq⟩ := hmo.out j hj
                have x1 := hc1 j hj
                have y1 := hc2 j hj
                rw [sv_lt p.ms hj, ← mv_lt hj, hcq] at x1
                rw [iv_lt p.ps (by rw [hll.out]; exact hj), ← pt_lt (by rw [hll.out]; exact hj)] at y1
                have hm1 : mQ (p.mv j) = (c == 113) := by rw [hcq]; rfl
                have hsu := ansB_succ p hkj
                rw [hm1] at hsu
                have l1 : 0 < (⟨(c :: q).toArray⟩ : ByteArray).size := by simp [ByteArray.size]
                have b1 := byte_val (c :: q) 0 (by simp) l1
                simp only [List.getElem_cons_zero] at b1
                have e1 := byte0_ne c 113 113 rfl
                have e2 := byte0_eq c 113 113 rfl
                have h0 : 0 ≤ (j : Int) := by omega
                have h1 : (j : Int) < (p.ms.length : Int) := by omega
                clear hm1 hcq hc1 hc2 hS1 hS2
                generalize p.pt j = x at *
                cases ha : ansB p k j with
                | true =>
                  rw [ha] at hsu
                  have hsuh := Lib.hid hsu
                  clear hsu ha e1 e2
                  go_wp2_with fail
                  go_roundw
                  case rel => exact ⟨j + 1, by omega, by omega, by go_num, by rw [hsuh.out]; rfl, hgr⟩
                  case measure => simp [intOf]; omega
                | false =>
                  rw [ha] at hsu
                  cases hq : (c == 113) with
                  | true =>
                    rw [hq] at e1 e2 hsu
                    have hsuh := Lib.hid hsu
                    clear hsu ha
                    go_wp2_with fail
                    go_roundw
                    case rel => exact ⟨j + 1, by omega, by omega, by go_num, by rw [hsuh.out]; rfl, hgr⟩
                    case measure => simp [intOf]; omega
                  | false =>
                    rw [hq] at e1 e2 hsu
                    cases hx : (x == (k : Int)) with
                    | true =>
                      rw [hx] at hsu
                      have hxe := beq_iff_eq.1 hx
                      have hsuh := Lib.hid hsu
                      clear hsu ha
                      subst hxe
                      clear hx
                      go_wp2_with fail
                      go_roundw
                      case rel => exact ⟨j + 1, by omega, by omega, by go_num, by rw [hsuh.out]; rfl, hgr⟩
                      case measure => simp [intOf]; omega
                    | false =>
                      rw [hx] at hsu
                      have hxe := beq_eq_false_iff_ne.1 hx
                      have hsuh := Lib.hid hsu
                      clear hsu ha
                      go_wp2_with fail
                      go_roundw
                      case rel => exact ⟨j + 1, by omega, by omega, by go_num, by rw [hsuh.out]; rfl, hgr⟩
                      case measure => simp [intOf]; omega
              · obtain rfl : j = p.ms.length := by omega
                obtain ⟨c, q, hcq⟩ := hmo.out k hlt
                have x1 := hc1 k hlt
                rw [sv_lt p.ms hlt, ← mv_lt hlt, hcq] at x1
                have hm1 : mQ (p.mv k) = (c == 113) := by rw [hcq]; rfl
                have l1 : 0 < (⟨(c :: q).toArray⟩ : ByteArray).size := by simp [ByteArray.size]
                have b1 := byte_val (c :: q) 0 (by simp) l1
                simp only [List.getElem_cons_zero] at b1
                have e1 := byte0_ne c 113 113 rfl
                have e2 := byte0_eq c 113 113 rfl
                have h0 : 0 ≤ (k : Int) := by omega
                have h1 : (k : Int) < (p.ms.length : Int) := by omega
                have hans : (c == 113) = true → ansB p k p.ms.length = decide (z < k) := fun hq => ansB_end q5h.out q6h.out hzk hlt (by rw [hm1]; exact hq)
                clear hm1 hcq hc1 hc2 hS1 hS2 hkj hjl hj
                generalize ansB p k p.ms.length = a at *
                cases hq : (c == 113) with
                | false =>
                  rw [hq] at e1 e2
                  clear hans
                  go_wp2_with fail
                  go_roundw
                  case rel => exact ⟨k + 1, by omega, by omega, by go_num, hgr⟩
                  case measure => simp [intOf]; omega
                | true =>
                  rw [hq] at e1 e2
                  have ha := hans hq
                  clear hans
                  subst ha
                  by_cases hzz : z < k
                  · rw [decide_eq_true hzz]
                    have hz1 : (z : Int) < (k : Int) := by omega
                    have hz2 : decide ((z : Int) < (k : Int)) = true := by simpa using hzz
                    go_wp2_with fail
                    go_roundw
                    case rel => exact ⟨k + 1, by omega, by omega, by go_num, hgr⟩
                    case measure => simp [intOf]; omega
                  · rw [decide_eq_false hzz]
                    have hz1 : ¬ (z : Int) < (k : Int) := by omega
                    have hz2 : decide ((z : Int) < (k : Int)) = false := by simpa using hzz
                    go_wp2_with fail
                    go_roundw
                    case rel => exact ⟨k + 1, by omega, by omega, by go_num, hgr⟩
                    case measure => simp [intOf]; omega
          · obtain ⟨hS1, hS2⟩ := hSh.out wr hgr
            obtain ⟨g1, o1, rfl, _, hc1⟩ := hS1 (by omega)
            obtain ⟨c, q, hcq⟩ := hmo.out z q2
            have x1 := hc1 z q2
            rw [sv_lt p.ms q2, ← mv_lt q2, hcq] at x1
            have hm1 : (c == 113) = true := by
              have := q3h.out
              rw [hcq] at this
              exact this
            have l1 : 0 < (⟨(c :: q).toArray⟩ : ByteArray).size := by simp [ByteArray.size]
            have b1 := byte_val (c :: q) 0 (by simp) l1
            simp only [List.getElem_cons_zero] at b1
            have e1 := byte0_ne c 113 113 rfl
            have e2 := byte0_eq c 113 113 rfl
            rw [hm1] at e1 e2
            have h0 : 0 ≤ (z : Int) := by omega
            have h1 : (z : Int) < (p.ms.length : Int) := by omega
            clear hm1 hcq hc1 hS1 hS2
            go_wp2_with fail
            go_ret
            exact ⟨rfl, gr_trans hg3h.out hgr⟩

section
open Go.ChangeShapes Go.WideShapes Go.ChangeAt Go.RowKit
open Go.ChangeMaps (open_string shut_string)
set_option maxRecDepth 100000 in
theorem FnPending_lifted (os : Os) (started : os.Started) (H : Type) (enc : TypeId × Value → H) :
    ReturnsInHanded {} Try.checked os 12 .any (Rows.fnPendingSpec.pre6 enc Try.prog Try.f12 Rows.fnPendingRow.domain false) (Rows.fnPendingSpec.post enc Try.prog Try.f12 false true false false) := by
  refine returnsInHanded_of_change (C := Try.checked) Try.own started (by kernel_rfl) Try.func12
    (ChangeSpec.witness6 (enc := enc) (C := Try.checked) false ⟨#[], #[.slice none 0 0], []⟩ 8 (by kernel_rfl) (by kernel_rfl) (by kernel_rfl) (by kernel_rfl)) ?_
  intro W base args ds gs before hval0 hW hcnd _
  have hval : ∀ (j : Nat) t v, Try.f12.params[j]? = some t → args[j]? = some v → Value.okWide Try.prog W .any base t v := hval0
  have hW' := hW
  obtain ⟨p, q, hA0, hV, rfl, hfz, hnd⟩ := hW
  have hA : DataW.TrodAll enc Try.prog W 0 (fun _ => true) true Try.f12.params.toList args.toList ds p := hA0
  rw [Try.params12] at hA hval
  obtain ⟨v0, vs0, d0, ds0, p0, q0, hargs, rfl, rfl, h0, r0⟩ := trodAll_cons hA
  obtain ⟨rfl, rfl, rfl⟩ := trodAll_nil r0
  obtain rfl : args = #[v0] := by cases args; simp_all
  obtain ⟨rfl, rfl⟩ := trodVars_none hV
  obtain ⟨A0, n0, c0, rfl⟩ := okWide_slice Try.underlying40 (hval 0 40 v0 rfl rfl)
  have k0 := h0
  have lt0 : ∀ x ∈ p0, x.block < W.heap.size := by obtain ⟨m, hm⟩ := k0; exact DataW.trod_lt m _ _ _ hm
  obtain ⟨z0, w0⟩ : ∃ zs, IsRow .u8 W A0 n0 c0 zs := by
    obtain ⟨fuel, hf⟩ := h0
    rcases open_ints Try.underlying40 Try.underlying5 (by kernel_rfl) hf with ⟨hcs, _⟩ | ⟨x, l, c, zs, hcs, _, hl, hm, hz, _, hcell, hwz⟩
    · simp [Value.cells] at hcs
      obtain ⟨rfl, rfl, rfl⟩ := hcs
      exact ⟨[], .inl ⟨rfl, rfl, rfl, rfl⟩⟩
    · simp [Value.cells] at hcs
      obtain ⟨rfl, rfl, rfl⟩ := hcs
      exact ⟨zs, .inr ⟨_, rfl, hl, hm, by simpa using hz, hcell, hwz⟩⟩
  clear hA0 hval0
  refine (FnPending_walk A0 n0 c0 z0 W w0).mono fun e W' ⟨he, hg⟩ => ?_
  subst he
  have bel := below_gr hg
  exact ⟨_, rfl, _, _, _, [], _, [], hW', trodAll_mk1 (shut_bool Try.underlying4 _), (trodAll_cons_mk (Below.trod Try.laidOut (by kernel_rfl) (of_decide_eq_true (by kernel_rfl)) k0 bel lt0) trodAll_mk0), rfl, bel.frame _, fun h => by cases h⟩
end

/-- The statement. -/
theorem FnPending_holds : Rows.FnPendingSaid :=
  OpenClaim.holds_of_wide 12 Try.f12 rfl rfl rfl rfl rfl rfl rfl ⟨rfl, rfl, rfl, rfl, rfl⟩ rfl rfl rfl rfl rfl (by kernel_rfl) Try.func12 (by kernel_rfl)
    (of_decide_eq_true (by kernel_rfl)) (by unfold Func.isWrapper; first | (rw [if_pos (by decide +kernel)]; kernel_rfl) | (rw [if_neg (by decide +kernel)]; exact ⟨rfl, rfl⟩))
    (fun os started H enc _ => FnPending_lifted os started H enc)
end Go.Proofs.Ytefkfloggicmoaa
