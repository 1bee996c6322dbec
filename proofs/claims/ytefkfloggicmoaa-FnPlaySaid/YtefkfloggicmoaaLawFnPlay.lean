/- PROVED: 'laws.FnPlay' returns true for every input, and leaves its input as it was. No conditions. -/
import Derived.Test.YtefkfloggicmoaaPlayApi
import Derived.Test.YtefkfloggicmoaaMoves
import Derived.Test.YtefkfloggicmoaaPlayCut
import Derived.Test.YtefkfloggicmoaaPlayDraw3
import Derived.Test.YtefkfloggicmoaaRow
namespace Go.Proofs.Ytefkfloggicmoaa
open Go.RowKit

set_option maxHeartbeats 4000000 in
theorem FnPlay_walk (A : Option Addr) (n c : Nat) (zs : List Int) (w : World) (h : IsRow .u8 w A n c zs) :
    Calls Try.prog 11 #[.slice A n c] w fun e w' => e = .returned (.bool true) ∧ w.grownBy w' none := by
  by_cases hl : n > 1048576
  · go_enter Try.func11, Try.ntmps11
    go_wp2_with fail
    go_ret
    exact ⟨rfl, gr_refl _ _⟩
  · go_enter Try.func11, Try.ntmps11
    go_wp2_with fail
    refine (drawPlayValid_any A n c zs w h).mono ?_
    rintro e w1 ⟨r, p, PA, cA, PB, cB, rfl, hD, hg1⟩
    have hDh := Lib.hid hD
    have hr := hD.1
    have hp9 := hD.2.1
    have hq9 := hD.2.2.1
    clear hD
    have hgb := World.grownBy_alloc w1 (.cells #[.slice PA p.ms.length cA, .slice PB p.ps.length cB] 28) none
    have hb := Blk.new w1 28 #[.slice PA p.ms.length cA, .slice PB p.ps.length cB]
    have hS := hDh.out.2.2.2.2.1
    have hsmh := Lib.hid hDh.out.small
    go_wp2_with fail
    refine (playValid_any r p PA cA PB cB _ _ (by omega) (hS.grown0 hgb) hsmh.out).mono ?_
    rintro e w2 ⟨rfl, hg2⟩
    have hb2 := hb.grown0 hg2
    have d0 := hb2.cell 0
    have d1 := hb2.cell 1
    have dlt := hb2.lt
    simp only [List.getElem?_toArray, List.getElem?_cons_zero, List.getElem?_cons_succ] at d0 d1
    go_wp2_with fail
    refine (sPlayValid_any r p PA cA PB cB _ _ (by omega) ((hS.grown0 hgb).grown0 hg2) hsmh.out).mono ?_
    rintro e w3 ⟨rfl, hg3⟩
    have hgb3 := gr_trans hgb (gr_trans hg2 hg3)
    have hg03 := gr_trans hg1 hgb3
    cases hv : playOf r p with
    | false =>
      clear hv
      go_wp2_with fail
      go_ret
      exact ⟨rfl, hg03⟩
    | true =>
      obtain ⟨t, htr, hok, hat⟩ := playOf_some hv
      have hvh := Lib.hid hv
      have hokh := Lib.hid hok
      have hll := Lib.hid (Pl.ok_iff.1 hok).2.1
      have hmo := Lib.hid (show ∀ i, i < p.ms.length → moveOf r (p.mv i) = true ∧ (p.mv i).length ≤ 8 from fun i hi => by
        have h1 := (Pl.ok_mv hok hi).1
        exact ⟨by unfold moveOf; rw [htr]; exact h1, isMove_len hat h1⟩)
      have hbk := Lib.hid (fun (W : World) (hW : w3.grownBy W none) => show W.cell? ⟨w1.heap.size, 0, none⟩ = some (.slice PA p.ms.length cA) ∧ W.cell? ⟨w1.heap.size, 1, none⟩ = some (.slice PB p.ps.length cB) ∧ w1.heap.size < W.heap.size from
        ⟨((hb2.grown0 hg3).grown0 hW).cell 0, ((hb2.grown0 hg3).grown0 hW).cell 1, ((hb2.grown0 hg3).grown0 hW).lt⟩)
      have hSh := Lib.hid (fun (W : World) (hW : w3.grownBy W none) => hS.grown0 (gr_trans hgb3 hW))
      have hg3h := Lib.hid hg03
      simp only [hll.out] at hbk
      clear hv htr hok hS hb hgb hgb3 hb2 d0 d1 dlt hg03 hg1 hg2 hg3 h hq9
      obtain ⟨d0, d1, dlt⟩ := hbk.out w3 (gr_refl _ _)
      go_wp2_with fail
      go_loopw [8] (fun i wr => ∃ k : Nat, 1 ≤ k ∧ (k ≤ p.ms.length ∨ k = 1) ∧ i = .int .i64 (k : Int) ∧ w3.grownBy wr none) (fun i _ => p.ms.length - (intOf i).toNat)
      case atStart => exact ⟨1, Nat.le_refl _, .inr rfl, rfl, gr_refl _ _⟩
      case round =>
        clear d0 d1 dlt
        obtain ⟨k, hk1, hkl, rfl, hgr⟩ := hrel
        obtain ⟨d0, d1, dlt⟩ := hbk.out wr hgr
        by_cases hlt : k < p.ms.length
        · obtain ⟨kk, hpt, hkk, hmk, _⟩ := Pl.ok_prev hokh.out hk1 hlt
          obtain ⟨hmv, hm8⟩ := hmo.out k hlt
          obtain ⟨hS1, hS2⟩ := hSh.out wr hgr
          rw [hll.out] at hS2
          obtain ⟨g1, o1, rfl, _, hc1⟩ := hS1 (by omega)
          obtain ⟨g2, o2, rfl, _, hc2⟩ := hS2 (by omega)
          have x1 := hc1 k hlt
          have x3 := hc1 kk (by omega)
          have x2 := hc2 k hlt
          rw [sv_lt p.ms hlt, ← mv_lt hlt] at x1
          rw [sv_lt p.ms (by omega : kk < p.ms.length), ← mv_lt (by omega), hmk] at x3
          rw [iv_lt p.ps (by rw [hll.out]; exact hlt), ← pt_lt (by rw [hll.out]; exact hlt), hpt] at x2
          have hE := moveEnabler_any r (p.mv k) wr (by omega) (by omega)
          have he : enablerOf r (p.mv k) = mEn (p.mv k) := by
            obtain ⟨c, q, hcq⟩ := moveOf_cons hmv
            unfold enablerOf
            rw [hmv, hcq]; rfl
          rw [hmv, he] at hE
          have hEh := Lib.hid hE
          have h0 : 0 ≤ (k : Int) := by omega
          have h1 : (k : Int) < (p.ms.length : Int) := by omega
          have h2 : 0 ≤ (kk : Int) := by omega
          have h3 : (kk : Int) < (p.ms.length : Int) := by omega
          have h4 : ¬ (k : Int) ≤ (kk : Int) := by omega
          have h4' : decide (k ≤ kk) = false := by simpa using hkk
          have hkp := Lib.hid (fun (W : World) (hW : wr.grownBy W none) => show W.cell? ⟨g1, o1 + k, none⟩ = some (.string ⟨(p.mv k).toArray⟩) ∧ W.cell? ⟨g1, o1 + kk, none⟩ = some (.string ⟨(mEn (p.mv k)).toArray⟩) ∧ W.cell? ⟨g2, o2 + k, none⟩ = some (.int .i64 (kk : Int)) from
            ⟨(World.cell?_of_block (w := wr) (a := ⟨g1, o1 + k, none⟩) (hW.block g1 (World.block_lt_of_cell? wr _ x1) (by simp))).trans x1, (World.cell?_of_block (w := wr) (a := ⟨g1, o1 + kk, none⟩) (hW.block g1 (World.block_lt_of_cell? wr _ x1) (by simp))).trans x3, (World.cell?_of_block (w := wr) (a := ⟨g2, o2 + k, none⟩) (hW.block g2 (World.block_lt_of_cell? wr _ x2) (by simp))).trans x2⟩)
          clear hpt hmk hmv hm8 hc1 hc2 hS1 hS2 hE he x3 x2
          go_wp2_with fail
          refine hEh.out.mono ?_
          rintro e w5 ⟨rfl, hg5⟩
          have hgk := gr_trans hgr hg5
          clear d0 d1 dlt x1
          obtain ⟨d0, d1, dlt⟩ := hbk.out w5 hgk
          obtain ⟨x1, x3, x2⟩ := hkp.out w5 hg5
          generalize mEn (p.mv k) = me at *
          go_wp2_with fail
          go_quiet (fail)
          go_wp2_with fail
          go_roundw
          case rel => exact ⟨k + 1, by omega, by omega, by go_num, gr_drewN hgk _⟩
          case measure => simp [intOf]; omega
        · by_cases hn0 : p.ms.length = 0
          · have hn1 : ((p.ms.length : Int) == 0) = true := by rw [beq_iff_eq]; omega
            have hkn : ¬ (k : Int) < (p.ms.length : Int) := by omega
            have hn0h := Lib.hid hn0
            clear hn0 hkl
            go_wp2_with fail
            go_ret
            exact ⟨rfl, gr_trans hg3h.out hgr⟩
          · obtain rfl : k = p.ms.length := by omega
            have hn1 : ((p.ms.length : Int) == 0) = false := by rw [beq_eq_false_iff_ne]; omega
            have hS := hSh.out wr hgr
            have hC := cutPlay_any p PA cA PB cB _ (p.ms.length - 1) wr hS (by omega) hll.out (by omega) hDh.out.2.2.2.2.2.1 hDh.out.2.2.2.2.2.2
            rw [hll.out, show ((p.ms.length - 1 : Nat) : Int) = (p.ms.length : Int) - 1 by omega] at hC
            have hCh := Lib.hid hC
            clear hC hS hkl hlt
            go_wp2_with fail
            refine hCh.out.mono ?_
            rintro e w5 ⟨A', cA', B', cB', rfl, hO, hg5⟩
            have hok1 := Lib.hid (show playOf r (p.cut (p.ms.length - 1)) = true from playOf_cut hvh.out _)
            have hsm1 := Lib.hid (SmallP.cut hsmh.out (p.ms.length - 1))
            generalize p.cut (p.ms.length - 1) = pc at *
            have hP := playValid_any r pc A' cA' B' cB' _ w5 (by omega) hO.sl hsm1.out
            rw [hok1.out] at hP
            have hPh := Lib.hid hP
            clear hP
            go_wp2_with fail
            refine hPh.out.mono ?_
            rintro e w6 ⟨rfl, hg6⟩
            go_wp2_with fail
            go_ret
            exact ⟨rfl, gr_trans hg3h.out (gr_trans hgr (gr_trans hg5 hg6))⟩

section
open Go.ChangeShapes Go.WideShapes Go.ChangeAt Go.RowKit
open Go.ChangeMaps (open_string shut_string)
set_option maxRecDepth 100000 in
theorem FnPlay_lifted (os : Os) (started : os.Started) (H : Type) (enc : TypeId × Value → H) :
    ReturnsInHanded {} Try.checked os 11 .any (Rows.fnPlaySpec.pre6 enc Try.prog Try.f11 Rows.fnPlayRow.domain false) (Rows.fnPlaySpec.post enc Try.prog Try.f11 false true false false) := by
  refine returnsInHanded_of_change (C := Try.checked) Try.own started (by kernel_rfl) Try.func11
    (ChangeSpec.witness6 (enc := enc) (C := Try.checked) false ⟨#[], #[.slice none 0 0], []⟩ 8 (by kernel_rfl) (by kernel_rfl) (by kernel_rfl) (by kernel_rfl)) ?_
  intro W base args ds gs before hval0 hW hcnd _
  have hval : ∀ (j : Nat) t v, Try.f11.params[j]? = some t → args[j]? = some v → Value.okWide Try.prog W .any base t v := hval0
  have hW' := hW
  obtain ⟨p, q, hA0, hV, rfl, hfz, hnd⟩ := hW
  have hA : DataW.TrodAll enc Try.prog W 0 (fun _ => true) true Try.f11.params.toList args.toList ds p := hA0
  rw [Try.params11] at hA hval
  obtain ⟨v0, vs0, d0, ds0, p0, q0, hargs, rfl, rfl, h0, r0⟩ := trodAll_cons hA
  obtain ⟨rfl, rfl, rfl⟩ := trodAll_nil r0
  obtain rfl : args = #[v0] := by cases args; simp_all
  obtain ⟨rfl, rfl⟩ := trodVars_none hV
  obtain ⟨A0, n0, c0, rfl⟩ := okWide_slice Try.underlying40 (hval 0 40 v0 rfl rfl)
  have k0 := h0
  have lt0 : ∀ x ∈ p0, x.block < W.heap.size := by obtain ⟨m, hm⟩ := k0; exact DataW.trod_lt m _ _ _ hm
  obtain ⟨z0, w0⟩ : ∃ zs, IsRow .u8 W A0 n0 c0 zs := by
    obtain ⟨fuel, hf⟩ := h0
    rcases open_ints Try.underlying40 Try.underlying5 (by kernel_rfl) hf with ⟨hcs, _⟩ | ⟨x, l, c, zs, hcs, _, hl, hm, hz, _, hcell, hwz⟩
    · simp [Value.cells] at hcs
      obtain ⟨rfl, rfl, rfl⟩ := hcs
      exact ⟨[], .inl ⟨rfl, rfl, rfl, rfl⟩⟩
    · simp [Value.cells] at hcs
      obtain ⟨rfl, rfl, rfl⟩ := hcs
      exact ⟨zs, .inr ⟨_, rfl, hl, hm, by simpa using hz, hcell, hwz⟩⟩
  clear hA0 hval0
  refine (FnPlay_walk A0 n0 c0 z0 W w0).mono fun e W' ⟨he, hg⟩ => ?_
  subst he
  have bel := below_gr hg
  exact ⟨_, rfl, _, _, _, [], _, [], hW', trodAll_mk1 (shut_bool Try.underlying4 _), (trodAll_cons_mk (Below.trod Try.laidOut (by kernel_rfl) (of_decide_eq_true (by kernel_rfl)) k0 bel lt0) trodAll_mk0), rfl, bel.frame _, fun h => by cases h⟩
end

/-- The statement. -/
theorem FnPlay_holds : Rows.FnPlaySaid :=
  OpenClaim.holds_of_wide 11 Try.f11 rfl rfl rfl rfl rfl rfl rfl ⟨rfl, rfl, rfl, rfl, rfl⟩ rfl rfl rfl rfl rfl (by kernel_rfl) Try.func11 (by kernel_rfl)
    (of_decide_eq_true (by kernel_rfl)) (by unfold Func.isWrapper; first | (rw [if_pos (by decide +kernel)]; kernel_rfl) | (rw [if_neg (by decide +kernel)]; exact ⟨rfl, rfl⟩))
    (fun os started H enc _ => FnPlay_lifted os started H enc)
end Go.Proofs.Ytefkfloggicmoaa
