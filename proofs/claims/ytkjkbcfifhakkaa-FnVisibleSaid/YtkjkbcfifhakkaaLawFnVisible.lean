/- PROVED: 'laws.FnVisible' returns true for every input, and leaves its input as it was. No conditions. -/
import Derived.Test.YtkjkbcfifhakkaaPlayApi
import Derived.Test.YtkjkbcfifhakkaaPlayPart2
import Derived.Test.YtkjkbcfifhakkaaMoves
import Derived.Test.YtkjkbcfifhakkaaPlayCut
import Derived.Test.YtkjkbcfifhakkaaPlayDraw3
import Derived.Test.YtkjkbcfifhakkaaRow
namespace Go.Proofs.Ytkjkbcfifhakkaa
open Go.RowKit

theorem ok_small {t : Ty} (ht : t.atoms ≤ 15) {p : Pl} (hp : p.ok t = true) : SmallP p := by
  have h1 := Pl.ok_iff.1 hp
  refine ⟨⟨by omega, fun m hm => ?_⟩, by omega⟩
  obtain ⟨i, hi, rfl⟩ := List.mem_iff_getElem.1 hm
  have h2 := isMove_len ht (Pl.ok_mv hp hi).1
  rw [mv_lt hi] at h2
  omega
set_option maxHeartbeats 4000000 in
theorem FnVisible_walk (A : Option Addr) (n c : Nat) (zs : List Int) (w : World) (h : IsRow .u8 w A n c zs) :
    Calls Try.prog 6 #[.slice A n c] w fun e w' => e = .returned (.bool true) ∧ w.grownBy w' none := by
  by_cases hl : n > 1048576
  · go_enter Try.func6, Try.ntmps6
    go_wp2_with fail
    go_ret
    exact ⟨rfl, gr_refl _ _⟩
  · go_enter Try.func6, Try.ntmps6
    go_wp2_with fail
    refine (drawPlayVisible_any A n c zs w h).mono ?_
    rintro e w1 ⟨r, p, PA, cA, PB, cB, rfl, hD, hg1⟩
    have hDh := Lib.hid hD
    have hr := hD.1
    have hp9 := hD.2.1
    have hq9 := hD.2.2.1
    clear hD
    have hgb := World.grownBy_alloc w1 (.cells #[.slice PA p.ms.length cA, .slice PB p.ps.length cB] 26) none
    have hb := Blk.new w1 26 #[.slice PA p.ms.length cA, .slice PB p.ps.length cB]
    have hS := hDh.out.2.2.2.2.1
    have hsmh := Lib.hid hDh.out.small
    go_wp2_with fail
    refine (playVisible_any r p PA cA PB cB _ _ (by omega) (hS.grown0 hgb) hsmh.out).mono ?_
    rintro e w2 ⟨rfl, hg2⟩
    have hb2 := hb.grown0 hg2
    have d0 := hb2.cell 0
    have d1 := hb2.cell 1
    have dlt := hb2.lt
    simp only [List.getElem?_toArray, List.getElem?_cons_zero, List.getElem?_cons_succ] at d0 d1
    go_wp2_with fail
    refine (sPlayVisible_any r p PA cA PB cB _ _ (by omega) ((hS.grown0 hgb).grown0 hg2) hsmh.out).mono ?_
    rintro e w3 ⟨rfl, hg3⟩
    have hgb3 := gr_trans hgb (gr_trans hg2 hg3)
    have hg03 := gr_trans hg1 hgb3
    cases hv : visOf r p with
    | false =>
      clear hv
      go_wp2_with fail
      go_ret
      exact ⟨rfl, hg03⟩
    | true =>
      have hvh := Lib.hid hv
      obtain ⟨t, htr, hok, hat, hvs⟩ := visOf_some hv
      have hpe : partOf r p = p.part (pvw p) := by unfold partOf; rw [if_pos hv]
      have hpo : (partOf r p).ok t = true := by rw [hpe]; exact Pl.part_ok hok hvs
      have hpv : visOf r (partOf r p) = true := by
        unfold visOf playOf
        rw [htr]
        simp only [hpo, Bool.true_and]
        rw [hpe]
        exact Pl.part_vis hok hvs
      have hpsm := Lib.hid (ok_small hat hpo)
      have hP := Lib.hid (fun (W : World) (hW : w3.grownBy W none) => playPart_any r p PA cA PB cB _ W (by omega) (hS.grown0 (gr_trans hgb3 hW)) hsmh.out)
      unfold PartPost at hP
      simp only [hv] at hP
      have hpvh := Lib.hid hpv
      clear hpe hpo hpv hvs
      have hokh := Lib.hid hok
      have hll := Lib.hid (Pl.ok_iff.1 hok).2.1
      have hbk := Lib.hid (fun (W : World) (hW : w3.grownBy W none) => show W.cell? ⟨w1.heap.size, 0, none⟩ = some (.slice PA p.ms.length cA) ∧ W.cell? ⟨w1.heap.size, 1, none⟩ = some (.slice PB p.ps.length cB) ∧ w1.heap.size < W.heap.size from
        ⟨((hb2.grown0 hg3).grown0 hW).cell 0, ((hb2.grown0 hg3).grown0 hW).cell 1, ((hb2.grown0 hg3).grown0 hW).lt⟩)
      have hSh := Lib.hid (fun (W : World) (hW : w3.grownBy W none) => hS.grown0 (gr_trans hgb3 hW))
      have hg3h := Lib.hid hg03
      simp only [hll.out] at hbk
      clear hv htr hok hS hb hgb hgb3 hb2 d0 d1 dlt hg03 hg1 hg2 hg3 h hq9
      obtain ⟨d0, d1, dlt⟩ := hbk.out w3 (gr_refl _ _)
      simp only [hll.out] at hP
      generalize partOf r p = pq at *
      go_wp2_with fail
      refine (hP.out w3 (gr_refl _ _)).mono ?_
      rintro e w4 ⟨⟨QA, qa, QB, qb, rfl, hQ⟩, hg4⟩
      have hbq := Blk.new w4 26 #[.slice QA pq.ms.length qa, .slice QB pq.ps.length qb]
      have hgq := World.grownBy_alloc w4 (.cells #[.slice QA pq.ms.length qa, .slice QB pq.ps.length qb] 26) none
      have hg4q := gr_trans hg4 hgq
      clear d0 d1 dlt
      obtain ⟨d0, d1, dlt⟩ := hbk.out w4 hg4
      have hV := playVisible_any r pq QA qa QB qb _ _ (by omega) (hQ.sl.grown0 hgq) hpsm.out
      rw [hpvh.out] at hV
      have hVh := Lib.hid hV
      clear hV hP hbq hgq hQ
      by_cases hn0 : p.ms.length = 0
      · have hn1 : ((p.ms.length : Int) == 0) = true := by rw [beq_iff_eq]; omega
        have hn0h := Lib.hid hn0
        clear hn0
        go_wp2_with fail
        refine hVh.out.mono ?_
        rintro e w5 ⟨rfl, hg5⟩
        go_wp2_with fail
        go_ret
        exact ⟨rfl, gr_trans hg3h.out (gr_trans hg4q hg5)⟩
      · have hn1 : ((p.ms.length : Int) == 0) = false := by rw [beq_eq_false_iff_ne]; omega
        go_wp2_with fail
        refine hVh.out.mono ?_
        rintro e w5 ⟨rfl, hg5⟩
        have hgr := gr_trans hg4q hg5
        clear d0 d1 dlt
        obtain ⟨d0, d1, dlt⟩ := hbk.out w5 hgr
        have hS := hSh.out w5 hgr
        have hC := cutPlay_any p PA cA PB cB _ (p.ms.length - 1) w5 hS (by omega) hll.out (by omega) hDh.out.2.2.2.2.2.1 hDh.out.2.2.2.2.2.2
        rw [hll.out, show ((p.ms.length - 1 : Nat) : Int) = (p.ms.length : Int) - 1 by omega] at hC
        have hCh := Lib.hid hC
        clear hC hS
        have hn3 : 1 ≤ (p.ms.length : Int) := by omega
        go_wp2_with fail
        refine hCh.out.mono ?_
        rintro e w6 ⟨A', cA', B', cB', rfl, hO, hg6⟩
        have hok1 := Lib.hid (show visOf r (p.cut (p.ms.length - 1)) = true from visOf_cut hvh.out _)
        have hsm1 := Lib.hid (SmallP.cut hsmh.out (p.ms.length - 1))
        generalize p.cut (p.ms.length - 1) = pc at *
        have hP := playVisible_any r pc A' cA' B' cB' _ w6 (by omega) hO.sl hsm1.out
        rw [hok1.out] at hP
        have hPh := Lib.hid hP
        clear hP
        go_wp2_with fail
        refine hPh.out.mono ?_
        rintro e w7 ⟨rfl, hg7⟩
        go_wp2_with fail
        go_ret
        exact ⟨rfl, gr_trans hg3h.out (gr_trans hgr (gr_trans hg6 hg7))⟩

section
open Go.ChangeShapes Go.WideShapes Go.ChangeAt Go.RowKit
open Go.ChangeMaps (open_string shut_string)
set_option maxRecDepth 100000 in
theorem FnVisible_lifted (os : Os) (started : os.Started) (H : Type) (enc : TypeId × Value → H) :
    ReturnsInHanded {} Try.checked os 6 .any (Rows.fnVisibleSpec.pre6 enc Try.prog Try.f6 Rows.fnVisibleRow.domain false) (Rows.fnVisibleSpec.post enc Try.prog Try.f6 false true false false) := by
  refine returnsInHanded_of_change (C := Try.checked) Try.own started (by kernel_rfl) Try.func6
    (ChangeSpec.witness6 (enc := enc) (C := Try.checked) false ⟨#[], #[.slice none 0 0], []⟩ 8 (by kernel_rfl) (by kernel_rfl) (by kernel_rfl) (by kernel_rfl)) ?_
  intro W base args ds gs before hval0 hW hcnd _
  have hval : ∀ (j : Nat) t v, Try.f6.params[j]? = some t → args[j]? = some v → Value.okWide Try.prog W .any base t v := hval0
  have hW' := hW
  obtain ⟨p, q, hA0, hV, rfl, hfz, hnd⟩ := hW
  have hA : DataW.TrodAll enc Try.prog W 0 (fun _ => true) true Try.f6.params.toList args.toList ds p := hA0
  rw [Try.params6] at hA hval
  obtain ⟨v0, vs0, d0, ds0, p0, q0, hargs, rfl, rfl, h0, r0⟩ := trodAll_cons hA
  obtain ⟨rfl, rfl, rfl⟩ := trodAll_nil r0
  obtain rfl : args = #[v0] := by cases args; simp_all
  obtain ⟨rfl, rfl⟩ := trodVars_none hV
  obtain ⟨A0, n0, c0, rfl⟩ := okWide_slice Try.underlying22 (hval 0 22 v0 rfl rfl)
  have k0 := h0
  have lt0 : ∀ x ∈ p0, x.block < W.heap.size := by obtain ⟨m, hm⟩ := k0; exact DataW.trod_lt m _ _ _ hm
  obtain ⟨z0, w0⟩ : ∃ zs, IsRow .u8 W A0 n0 c0 zs := by
    obtain ⟨fuel, hf⟩ := h0
    rcases open_ints Try.underlying22 Try.underlying5 (by kernel_rfl) hf with ⟨hcs, _⟩ | ⟨x, l, c, zs, hcs, _, hl, hm, hz, _, hcell, hwz⟩
    · simp [Value.cells] at hcs
      obtain ⟨rfl, rfl, rfl⟩ := hcs
      exact ⟨[], .inl ⟨rfl, rfl, rfl, rfl⟩⟩
    · simp [Value.cells] at hcs
      obtain ⟨rfl, rfl, rfl⟩ := hcs
      exact ⟨zs, .inr ⟨_, rfl, hl, hm, by simpa using hz, hcell, hwz⟩⟩
  clear hA0 hval0
  refine (FnVisible_walk A0 n0 c0 z0 W w0).mono fun e W' ⟨he, hg⟩ => ?_
  subst he
  have bel := below_gr hg
  exact ⟨_, rfl, _, _, _, [], _, [], hW', trodAll_mk1 (shut_bool Try.underlying4 _), (trodAll_cons_mk (Below.trod Try.laidOut (by kernel_rfl) (of_decide_eq_true (by kernel_rfl)) k0 bel lt0) trodAll_mk0), rfl, bel.frame _, fun h => by cases h⟩
end

/-- The statement. -/
theorem FnVisible_holds : Rows.FnVisibleSaid :=
  OpenClaim.holds_of_wide 6 Try.f6 rfl rfl rfl rfl rfl rfl rfl ⟨rfl, rfl, rfl, rfl, rfl⟩ rfl rfl rfl rfl rfl (by kernel_rfl) Try.func6 (by kernel_rfl)
    (of_decide_eq_true (by kernel_rfl)) (by unfold Func.isWrapper; first | (rw [if_pos (by decide +kernel)]; kernel_rfl) | (rw [if_neg (by decide +kernel)]; exact ⟨rfl, rfl⟩))
    (fun os started H enc _ => FnVisible_lifted os started H enc)
end Go.Proofs.Ytkjkbcfifhakkaa
