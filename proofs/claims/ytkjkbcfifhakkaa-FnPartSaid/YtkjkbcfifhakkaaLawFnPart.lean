/- PROVED: 'laws.FnPart' returns true for every input, and leaves its input as it was. No conditions. -/
import Derived.Test.YtkjkbcfifhakkaaPlayApi
import Derived.Test.YtkjkbcfifhakkaaPlayPart2
import Derived.Test.YtkjkbcfifhakkaaMoves
import Derived.Test.YtkjkbcfifhakkaaPlayCut
import Derived.Test.YtkjkbcfifhakkaaPlayDraw3
import Derived.Test.YtkjkbcfifhakkaaSame
import Derived.Test.YtkjkbcfifhakkaaRow
namespace Go.Proofs.Ytkjkbcfifhakkaa
open Go.RowKit

theorem ok_small {t : Ty} (ht : t.atoms ≤ 15) {p : Pl} (hp : p.ok t = true) : SmallP p := by
  have h1 := Pl.ok_iff.1 hp
  refine ⟨⟨by omega, fun m hm => ?_⟩, by omega⟩
  obtain ⟨i, hi, rfl⟩ := List.mem_iff_getElem.1 hm
  have h2 := isMove_len ht (Pl.ok_mv hp hi).1
  rw [mv_lt hi] at h2
  omega
set_option maxHeartbeats 4000000 in
theorem FnPart_walk (A : Option Addr) (n c : Nat) (zs : List Int) (w : World) (h : IsRow .u8 w A n c zs) :
    Calls Try.prog 7 #[.slice A n c] w fun e w' => e = .returned (.bool true) ∧ w.grownBy w' none := by
  by_cases hl : n > 1048576
  · go_enter Try.func7, Try.ntmps7
    go_wp2_with fail
    go_ret
    exact ⟨rfl, gr_refl _ _⟩
  · go_enter Try.func7, Try.ntmps7
    go_wp2_with fail
    refine (drawPlayPart_any A n c zs w h).mono ?_
    rintro e w1 ⟨r, p, PA, cA, PB, cB, rfl, hD, hg1⟩
    have hDh := Lib.hid hD
    have hr := hD.1
    have hp9 := hD.2.1
    have hq9 := hD.2.2.1
    clear hD
    have hgb := World.grownBy_alloc w1 (.cells #[.slice PA p.ms.length cA, .slice PB p.ps.length cB] 26) none
    have hb := Blk.new w1 26 #[.slice PA p.ms.length cA, .slice PB p.ps.length cB]
    have hS := hDh.out.2.2.2.2.1
    have hsmh := Lib.hid hDh.out.small
    go_wp2_with fail
    refine (playPart_any r p PA cA PB cB _ _ (by omega) (hS.grown0 hgb) hsmh.out).mono ?_
    rintro e w2 ⟨⟨QA, qa, QB, qb, rfl, hQ⟩, hg2⟩
    have hb2 := hb.grown0 hg2
    have d0 := hb2.cell 0
    have d1 := hb2.cell 1
    have dlt := hb2.lt
    simp only [List.getElem?_toArray, List.getElem?_cons_zero, List.getElem?_cons_succ] at d0 d1
    have hbq := Blk.new w2 26 #[.slice QA (partOf r p).ms.length qa, .slice QB (partOf r p).ps.length qb]
    have hgq := World.grownBy_alloc w2 (.cells #[.slice QA (partOf r p).ms.length qa, .slice QB (partOf r p).ps.length qb] 26) none
    obtain ⟨hpl1, hpl2⟩ := partOf_length r p
    go_wp2_with fail
    refine (sPlayPart_any r p PA cA PB cB _ _ (by omega) (((hS.grown0 hgb).grown0 hg2).grown0 hgq) hsmh.out).mono ?_
    rintro e w3 ⟨⟨TA, ta, TB, tb, rfl, hT⟩, hg3⟩
    have hbt := Blk.new w3 26 #[.slice TA (partOf r p).ms.length ta, .slice TB (partOf r p).ps.length tb]
    have hgt := World.grownBy_alloc w3 (.cells #[.slice TA (partOf r p).ms.length ta, .slice TB (partOf r p).ps.length tb] 26) none
    have hgqt := gr_trans hgq (gr_trans hg3 hgt)
    have hgb3 := gr_trans hgb (gr_trans hg2 hgqt)
    have hg03 := Lib.hid (gr_trans hg1 hgb3)
    generalize hw4 : w3.alloc (.cells #[.slice TA (partOf r p).ms.length ta, .slice TB (partOf r p).ps.length tb] 26) = w4 at *
    have hw4h := Lib.hid hw4
    clear hw4
    have hbk := Lib.hid (fun (W : World) (hW : w4.grownBy W none) => show (W.cell? ⟨w1.heap.size, 0, none⟩ = some (.slice PA p.ms.length cA) ∧ W.cell? ⟨w1.heap.size, 1, none⟩ = some (.slice PB p.ps.length cB) ∧ w1.heap.size < W.heap.size) ∧
        (W.cell? ⟨w2.heap.size, 0, none⟩ = some (.slice QA (partOf r p).ms.length qa) ∧ W.cell? ⟨w2.heap.size, 1, none⟩ = some (.slice QB (partOf r p).ps.length qb) ∧ w2.heap.size < W.heap.size) ∧
        (W.cell? ⟨w3.heap.size, 0, none⟩ = some (.slice TA (partOf r p).ms.length ta) ∧ W.cell? ⟨w3.heap.size, 1, none⟩ = some (.slice TB (partOf r p).ps.length tb) ∧ w3.heap.size < W.heap.size) from
      ⟨⟨((hb2.grown0 hgqt).grown0 hW).cell 0, ((hb2.grown0 hgqt).grown0 hW).cell 1, ((hb2.grown0 hgqt).grown0 hW).lt⟩,
       ⟨((hbq.grown0 (gr_trans hg3 hgt)).grown0 hW).cell 0, ((hbq.grown0 (gr_trans hg3 hgt)).grown0 hW).cell 1, ((hbq.grown0 (gr_trans hg3 hgt)).grown0 hW).lt⟩,
       ⟨(hbt.grown0 hW).cell 0, (hbt.grown0 hW).cell 1, (hbt.grown0 hW).lt⟩⟩)
    have hQS := Lib.hid (fun (W : World) (hW : w4.grownBy W none) => hQ.sl.grown0 (gr_trans hgqt hW))
    have hTS := Lib.hid (fun (W : World) (hW : w4.grownBy W none) => hT.sl.grown0 (gr_trans hgt hW))
    have hSh := Lib.hid (fun (W : World) (hW : w4.grownBy W none) => hS.grown0 (gr_trans hgb3 hW))
    have hSm := Lib.hid (fun (W : World) (hW : w4.grownBy W none) => samePlay_any (partOf r p) (partOf r p) QA qa QB qb TA ta TB tb _ _ W (hQS.out W hW) (hTS.out W hW) (by omega) (by omega) (by omega) (by omega))
    simp only [plEq_self] at hSm
    clear hS hb hb2 hbq hbt hgq hgt hgqt hgb hgb3 hg1 hg2 hg3 hQ hT d0 d1 dlt h
    obtain ⟨⟨a0, a1, al⟩, ⟨b0, b1, bl⟩, c0, c1, cl⟩ := hbk.out w4 (gr_refl _ _)
    cases hv : visOf r p with
    | false =>
      clear hv
      go_upto_region 6 with fail
      rw [hw4h.out]
      go_wp2_with fail
      refine (hSm.out w4 (gr_refl _ _)).mono ?_
      rintro e w5 ⟨rfl, hg5⟩
      clear a0 a1 al b0 b1 bl c0 c1 cl
      obtain ⟨⟨a0, a1, al⟩, ⟨b0, b1, bl⟩, c0, c1, cl⟩ := hbk.out w5 hg5
      go_wp2_with fail
      refine (hSm.out w5 hg5).mono ?_
      rintro e w6 ⟨rfl, hg6⟩
      go_wp2_with fail
      go_ret
      exact ⟨rfl, gr_trans hg03.out (gr_trans hg5 hg6)⟩
    | true =>
      obtain ⟨t, htr, hok, hat, hvs⟩ := visOf_some hv
      have hpy : playOf r p = true := by unfold visOf at hv; rw [Bool.and_eq_true] at hv; exact hv.1
      have hpe : partOf r p = p.part (pvw p) := by unfold partOf; rw [if_pos hv]
      have hpo : (partOf r p).ok t = true := by rw [hpe]; exact Pl.part_ok hok hvs
      have hpv : visOf r (partOf r p) = true := by
        unfold visOf playOf
        rw [htr]
        simp only [hpo, Bool.true_and]
        rw [hpe]
        exact Pl.part_vis hok hvs
      have hpp : partOf r (partOf r p) = partOf r p := by
        rw [partOf, if_pos hpv, hpe]
        exact Pl.part_part hok hvs
      have hVw := Lib.hid (fun (W : World) (hW : w4.grownBy W none) => viewP_any r p PA cA PB cB _ W (by omega) (hSh.out W hW) hsmh.out)
      have hvl : viewL r p false = vI p false p.ms.length := by unfold viewL; rw [hpy]; rfl
      unfold ViewPost at hVw
      simp only [hvl, hpy] at hVw
      have hxl : (vI p false p.ms.length).length = (partOf r p).ms.length := by rw [hpe]; simp [vI, Pl.part, pvw]
      have hxe := Lib.hid (show ∀ j, j < (partOf r p).ms.length → ∃ v : Nat, (vI p false p.ms.length).getD j 0 = (v : Int) ∧ v < p.ms.length ∧ (partOf r p).mv j = p.mv v from fun j hj => by
        have hj2 : j < (pvw p).length := by rw [hpe] at hj; simpa [Pl.part] using hj
        refine ⟨(pvw p)[j], ?_, Pl.view_getlt hj2, by rw [hpe]; exact Pl.mv_part hj2⟩
        unfold vI
        show ((pvw p).map fun k : Nat => (k : Int)).getD j 0 = _
        simp [List.getD, hj2])
      have hPP := Lib.hid (fun (W : World) (hW : w4.grownBy W none) => playPart_any r (partOf r p) QA qa QB qb _ W (by omega) (hQS.out W hW) (ok_small hat hpo))
      unfold PartPost at hPP
      simp only [hpv, hpp] at hPP
      have hll := Lib.hid (Pl.ok_iff.1 hok).2.1
      have hlm := (Pl.ok_iff.1 hok).1
      have hxlh := Lib.hid hxl
      clear hpy hpe hpo hpv hpp hvl hv htr hok hvs hxl
      generalize vI p false p.ms.length = xs at *
      generalize hpq : partOf r p = pq at *
      have hpqh := Lib.hid hpq
      clear hpq
      have hxl2 := hxlh.out
      simp only [hxl2] at hVw
      clear hxl2
      go_upto_region 6 with fail
      rw [hw4h.out]
      go_wp2_with fail
      refine (hSm.out w4 (gr_refl _ _)).mono ?_
      rintro e w5 ⟨rfl, hg5⟩
      clear a0 a1 al b0 b1 bl c0 c1 cl
      obtain ⟨⟨a0, a1, al⟩, ⟨b0, b1, bl⟩, c0, c1, cl⟩ := hbk.out w5 hg5
      go_wp2_with fail
      refine (hVw.out w5 hg5).mono ?_
      rintro e w6 ⟨⟨VA, vc, rfl, hV⟩, hg6⟩
      have hg46 := gr_trans hg5 hg6
      clear a0 a1 al b0 b1 bl c0 c1 cl
      obtain ⟨⟨a0, a1, al⟩, ⟨b0, b1, bl⟩, c0, c1, cl⟩ := hbk.out w6 hg46
      go_wp2_with fail
      refine (hPP.out w6 hg46).mono ?_
      rintro e w7 ⟨⟨RA, ra, RB, rb, rfl, hR⟩, hg7⟩
      have hbr := Blk.new w7 26 #[.slice RA pq.ms.length ra, .slice RB pq.ps.length rb]
      have hgr0 := World.grownBy_alloc w7 (.cells #[.slice RA pq.ms.length ra, .slice RB pq.ps.length rb] 26) none
      have hg48 := gr_trans hg46 (gr_trans hg7 hgr0)
      have hVh := Lib.hid (fun (W : World) (hW : (w7.alloc (.cells #[.slice RA pq.ms.length ra, .slice RB pq.ps.length rb] 26)).grownBy W none) => (own_sli (own_keep hV (gr_trans hg7 (gr_trans hgr0 hW)))).1)
      have hSm2 := Lib.hid (fun (W : World) (hW : (w7.alloc (.cells #[.slice RA pq.ms.length ra, .slice RB pq.ps.length rb] 26)).grownBy W none) => samePlay_any pq pq RA ra RB rb QA qa QB qb _ _ W (hR.sl.grown0 (gr_trans hgr0 hW)) (hQS.out W (gr_trans hg48 hW)) (by omega) (by omega) (by omega) (by omega))
      simp only [plEq_self] at hSm2
      have hbr2 := Lib.hid (fun (W : World) (hW : (w7.alloc (.cells #[.slice RA pq.ms.length ra, .slice RB pq.ps.length rb] 26)).grownBy W none) => show W.cell? ⟨w7.heap.size, 0, none⟩ = some (.slice RA pq.ms.length ra) ∧ W.cell? ⟨w7.heap.size, 1, none⟩ = some (.slice RB pq.ps.length rb) ∧ w7.heap.size < W.heap.size from ⟨(hbr.grown0 hW).cell 0, (hbr.grown0 hW).cell 1, (hbr.grown0 hW).lt⟩)
      clear a0 a1 al b0 b1 bl c0 c1 cl hbr hgr0 hV hR hVw hPP hSm
      go_upto_region 10 with fail
      generalize w7.alloc (.cells #[.slice RA pq.ms.length ra, .slice RB pq.ps.length rb] 26) = w8 at *
      go_wp2_with fail
      go_loopw [13] (fun i wr => ∃ k : Nat, k ≤ pq.ms.length ∧ i = .int .i64 (k : Int) ∧ w8.grownBy wr none) (fun i _ => pq.ms.length - (intOf i).toNat)
      case atStart => exact ⟨0, Nat.zero_le _, rfl, gr_refl _ _⟩
      case round =>
        obtain ⟨k, hkl, rfl, hgr⟩ := hrel
        obtain ⟨⟨a0, a1, al⟩, ⟨b0, b1, bl⟩, c0, c1, cl⟩ := hbk.out wr (gr_trans hg48 hgr)
        obtain ⟨r0, r1, rl⟩ := hbr2.out wr hgr
        by_cases hlt : k < pq.ms.length
        · obtain ⟨v, hv1, hv2, hv3⟩ := hxe.out k hlt
          obtain ⟨hS1, hS2⟩ := hSh.out wr (gr_trans hg48 hgr)
          obtain ⟨hQ1, hQ2⟩ := hQS.out wr (gr_trans hg48 hgr)
          obtain ⟨g1, o1, rfl, _, hc1⟩ := hS1 (by omega)
          obtain ⟨g2, o2, rfl, _, hc2⟩ := hQ1 (by omega)
          obtain ⟨g3, o3, rfl, _, hc3⟩ := hVh.out wr hgr (by rw [hxlh.out]; omega)
          have x1 := hc1 v hv2
          have x2 := hc2 k hlt
          have x3 := hc3 k (by rw [hxlh.out]; exact hlt)
          rw [sv_lt p.ms hv2, ← mv_lt hv2] at x1
          rw [sv_lt pq.ms hlt, ← mv_lt hlt, hv3] at x2
          unfold iv at x3
          rw [hv1] at x3
          have h0 : 0 ≤ (k : Int) := by omega
          have h1 : (k : Int) < (pq.ms.length : Int) := by omega
          have h2 : 0 ≤ (v : Int) := by omega
          have h3 : (v : Int) < (p.ms.length : Int) := by omega
          clear hv1 hv3 hc1 hc2 hc3 hS1 hS2 hQ1 hQ2
          generalize p.mv v = mv at *
          go_wp2_with fail
          go_quiet (fail)
          go_wp2_with fail
          go_roundw
          case rel => exact ⟨k + 1, by omega, by go_num, gr_drewN hgr _⟩
          case measure => simp [intOf]; omega
        · go_wp2_with fail
          refine (hSm2.out wr hgr).mono ?_
          rintro e w9 ⟨rfl, hg9⟩
          clear a0 a1 al b0 b1 bl c0 c1 cl r0 r1 rl
          obtain ⟨⟨a0, a1, al⟩, ⟨b0, b1, bl⟩, c0, c1, cl⟩ := hbk.out w9 (gr_trans hg48 (gr_trans hgr hg9))
          go_wp2_with fail
          go_ret
          exact ⟨rfl, gr_trans hg03.out (gr_trans hg48 (gr_trans hgr hg9))⟩

section
open Go.ChangeShapes Go.WideShapes Go.ChangeAt Go.RowKit
open Go.ChangeMaps (open_string shut_string)
set_option maxRecDepth 100000 in
theorem FnPart_lifted (os : Os) (started : os.Started) (H : Type) (enc : TypeId × Value → H) :
    ReturnsInHanded {} Try.checked os 7 .any (Rows.fnPartSpec.pre6 enc Try.prog Try.f7 Rows.fnPartRow.domain false) (Rows.fnPartSpec.post enc Try.prog Try.f7 false true false false) := by
  refine returnsInHanded_of_change (C := Try.checked) Try.own started (by kernel_rfl) Try.func7
    (ChangeSpec.witness6 (enc := enc) (C := Try.checked) false ⟨#[], #[.slice none 0 0], []⟩ 8 (by kernel_rfl) (by kernel_rfl) (by kernel_rfl) (by kernel_rfl)) ?_
  intro W base args ds gs before hval0 hW hcnd _
  have hval : ∀ (j : Nat) t v, Try.f7.params[j]? = some t → args[j]? = some v → Value.okWide Try.prog W .any base t v := hval0
  have hW' := hW
  obtain ⟨p, q, hA0, hV, rfl, hfz, hnd⟩ := hW
  have hA : DataW.TrodAll enc Try.prog W 0 (fun _ => true) true Try.f7.params.toList args.toList ds p := hA0
  rw [Try.params7] at hA hval
  obtain ⟨v0, vs0, d0, ds0, p0, q0, hargs, rfl, rfl, h0, r0⟩ := trodAll_cons hA
  obtain ⟨rfl, rfl, rfl⟩ := trodAll_nil r0
  obtain rfl : args = #[v0] := by cases args; simp_all
  obtain ⟨rfl, rfl⟩ := trodVars_none hV
  obtain ⟨A0, n0, c0, rfl⟩ := okWide_slice Try.underlying22 (hval 0 22 v0 rfl rfl)
  have k0 := h0
  have lt0 : ∀ x ∈ p0, x.block < W.heap.size := by obtain ⟨m, hm⟩ := k0; exact DataW.trod_lt m _ _ _ hm
  obtain ⟨z0, w0⟩ : ∃ zs, IsRow .u8 W A0 n0 c0 zs := by
    obtain ⟨fuel, hf⟩ := h0
    rcases open_ints Try.underlying22 Try.underlying5 (by kernel_rfl) hf with ⟨hcs, _⟩ | ⟨x, l, c, zs, hcs, _, hl, hm, hz, _, hcell, hwz⟩
    · simp [Value.cells] at hcs
      obtain ⟨rfl, rfl, rfl⟩ := hcs
      exact ⟨[], .inl ⟨rfl, rfl, rfl, rfl⟩⟩
    · simp [Value.cells] at hcs
      obtain ⟨rfl, rfl, rfl⟩ := hcs
      exact ⟨zs, .inr ⟨_, rfl, hl, hm, by simpa using hz, hcell, hwz⟩⟩
  clear hA0 hval0
  refine (FnPart_walk A0 n0 c0 z0 W w0).mono fun e W' ⟨he, hg⟩ => ?_
  subst he
  have bel := below_gr hg
  exact ⟨_, rfl, _, _, _, [], _, [], hW', trodAll_mk1 (shut_bool Try.underlying4 _), (trodAll_cons_mk (Below.trod Try.laidOut (by kernel_rfl) (of_decide_eq_true (by kernel_rfl)) k0 bel lt0) trodAll_mk0), rfl, bel.frame _, fun h => by cases h⟩
end

/-- The statement. -/
theorem FnPart_holds : Rows.FnPartSaid :=
  OpenClaim.holds_of_wide 7 Try.f7 rfl rfl rfl rfl rfl rfl rfl ⟨rfl, rfl, rfl, rfl, rfl⟩ rfl rfl rfl rfl rfl (by kernel_rfl) Try.func7 (by kernel_rfl)
    (of_decide_eq_true (by kernel_rfl)) (by unfold Func.isWrapper; first | (rw [if_pos (by decide +kernel)]; kernel_rfl) | (rw [if_neg (by decide +kernel)]; exact ⟨rfl, rfl⟩))
    (fun os started H enc _ => FnPart_lifted os started H enc)
end Go.Proofs.Ytkjkbcfifhakkaa
