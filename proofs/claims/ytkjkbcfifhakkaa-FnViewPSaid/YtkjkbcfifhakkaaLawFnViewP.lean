/- PROVED: 'laws.FnViewP' returns true for every input, and leaves its input as it was. No conditions. -/
import Derived.Test.YtkjkbcfifhakkaaPlayApi
import Derived.Test.YtkjkbcfifhakkaaMoves
import Derived.Test.YtkjkbcfifhakkaaPlayCut
import Derived.Test.YtkjkbcfifhakkaaPlayDraw3
import Derived.Test.YtkjkbcfifhakkaaRow
namespace Go.Proofs.Ytkjkbcfifhakkaa
open Go.RowKit

theorem wpAnyH_call {P : Program} {ops : Array Oper} {Q : Exit → Act → World → Prop} {S : World → Prop} {n : Nat} {L : Array Bool} {a : Act} {w : World} {j : Nat} {o : Oper} (hr : Region.ready .any ops L = [j]) (ho : ops[j]? = some o) (hw : Region.wanted o (yielded ops a.tmps) = true)
    (h : o.wp P a w (fun a' w' => S w' ∧ wpAnyH P .any ops Q S n (L.setIfInBounds j true) a' w') Q) : wpAnyH P .any ops Q S (n + 1) L a w := by
  refine ⟨fun e => (by rw [hr] at e; cases e), fun i hi => ?_⟩
  rw [hr] at hi
  obtain rfl := List.mem_singleton.1 hi
  unfold wpOp
  simp only [ho, hw, if_true]
  exact .inl h
/-- What the laws ask of a view. -/
structure ViewF (p : Pl) (o : Bool) (xs : List Int) : Prop where
  len : xs.length ≤ p.ms.length
  nil : xs.length = 0 ↔ p.ms.length = 0
  step : ∀ k, 0 < k → k < xs.length → ∃ u v : Nat, xs.getD (k - 1) 0 = (u : Int) ∧ xs.getD k 0 = (v : Int) ∧ u < v ∧ v < p.ms.length ∧ (mOpp (p.mv v) ≠ o → p.pt v = (u : Int))
  last : 0 < p.ms.length → xs.getD (xs.length - 1) 0 = (p.ms.length : Int) - 1
theorem viewF {t : Ty} {p : Pl} (hok : p.ok t = true) (o : Bool) : ViewF p o (vI p o p.ms.length) := by
  have hg : ∀ (V : List Nat) (i : Nat), (V.map fun k : Nat => (k : Int)).getD i 0 = ((V.getD i 0 : Nat) : Int) := fun V i => by
    simp only [List.getD, List.getElem?_map]
    cases V[i]? <;> rfl
  have hl : (vI p o p.ms.length).length = (p.view o p.ms.length).length := by simp [vI]
  refine ⟨by rw [hl]; exact Pl.view_length, ⟨fun h => ?_, fun h => ?_⟩, fun k h0 hk => ?_, fun h0 => ?_⟩
  · rcases Nat.eq_zero_or_pos p.ms.length with h1 | h1
    · exact h1
    · have := Pl.view_pos (p := p) (o := o) h1
      omega
  · rw [hl, h, Pl.view_zero]; rfl
  · rw [hl] at hk
    have h1 : k - 1 < (p.view o p.ms.length).length := by omega
    refine ⟨(p.view o p.ms.length)[k - 1], (p.view o p.ms.length)[k], ?_, ?_, ?_, Pl.view_getlt hk, fun hm => Pl.view_other hok (Nat.le_refl _) h0 hk hm⟩
    · unfold vI
      rw [hg]; simp [List.getD, h1]
    · unfold vI
      rw [hg]; simp [List.getD, hk]
    · exact List.pairwise_iff_getElem.1 Pl.view_sorted (k - 1) k h1 hk (by omega)
  · obtain ⟨i, hi⟩ : ∃ i, p.ms.length = i + 1 := ⟨p.ms.length - 1, by omega⟩
    have hp := Pl.view_pos (p := p) (o := o) (n := i + 1) (by omega)
    have h2 := Pl.view_last (p := p) (o := o) (i := i) hp
    rw [hl]
    unfold vI
    rw [hg, hi]
    have h3 : (p.view o (i + 1)).length - 1 < (p.view o (i + 1)).length := by omega
    have h4 : (p.view o (i + 1)).getD ((p.view o (i + 1)).length - 1) 0 = i := by
      rw [List.getD_eq_getElem?_getD, List.getElem?_eq_getElem h3]
      exact h2
    rw [h4]; omega

set_option maxRecDepth 100000 in
set_option maxHeartbeats 8000000 in
theorem FnViewP_walk (A : Option Addr) (n c : Nat) (zs : List Int) (w : World) (h : IsRow .u8 w A n c zs) :
    Calls Try.prog 5 #[.slice A n c] w fun e w' => e = .returned (.bool true) ∧ w.grownBy w' none := by
  by_cases hl : n > 1048576
  · go_enter Try.func5, Try.ntmps5
    go_wp2_with fail
    go_ret
    exact ⟨rfl, gr_refl _ _⟩
  · go_enter Try.func5, Try.ntmps5
    go_wp2_with fail
    refine (drawViewP_any A n c zs w h).mono ?_
    rintro e w1 ⟨r, p, PA, cA, PB, cB, rfl, hD, hg1⟩
    have hDh := Lib.hid hD
    have hr := hD.1
    have hp9 := hD.2.1
    have hq9 := hD.2.2.1
    clear hD
    have hgb := World.grownBy_alloc w1 (.cells #[.slice PA p.ms.length cA, .slice PB p.ps.length cB] 26) none
    have hb := Blk.new w1 26 #[.slice PA p.ms.length cA, .slice PB p.ps.length cB]
    have hS := hDh.out.2.2.2.2.1
    have hsmh := Lib.hid hDh.out.small
    go_wp2_with fail
    refine (viewP_any r p PA cA PB cB _ _ (by omega) (hS.grown0 hgb) hsmh.out).mono ?_
    rintro e w2 ⟨⟨VA, vc, rfl, hV1⟩, hg2⟩
    have hb2 := hb.grown0 hg2
    have d0 := hb2.cell 0
    have d1 := hb2.cell 1
    have dlt := hb2.lt
    simp only [List.getElem?_toArray, List.getElem?_cons_zero, List.getElem?_cons_succ] at d0 d1
    go_wp2_with fail
    refine (sViewP_any r p PA cA PB cB _ _ (by omega) ((hS.grown0 hgb).grown0 hg2) hsmh.out).mono ?_
    rintro e w3 ⟨⟨WA, wc, rfl, hV2⟩, hg3⟩
    have hgb3 := gr_trans hgb (gr_trans hg2 hg3)
    have hg03 := gr_trans hg1 hgb3
    have hV1' := own_keep hV1 hg3
    have hs1 := (own_sli hV1').1
    have hs2 := (own_sli hV2).1
    have hvl := viewL_length r p false
    have hSm := Lib.hid (fun (W : World) (hW : w3.grownBy W none) => sameInts_any (viewL r p false) (viewL r p false) VA WA vc wc _ _ W (hs1.grown0 hW) (hs2.grown0 hW) (by omega) (by omega))
    simp only [show ((viewL r p false) == (viewL r p false)) = true from by simp] at hSm
    cases hv : playOf r p with
    | false =>
      clear hv hs1 hs2 hV1 hV1' hV2
      generalize viewL r p false = xs at *
      go_wp2_with fail
      refine (hSm.out w3 (gr_refl _ _)).mono ?_
      rintro e w4 ⟨rfl, hg4⟩
      go_wp2_with fail
      refine (hSm.out w4 hg4).mono ?_
      rintro e w5 ⟨rfl, hg5⟩
      go_wp2_with fail
      go_ret
      exact ⟨rfl, gr_trans hg03 (gr_trans hg4 hg5)⟩
    | true =>
      obtain ⟨t, htr, hok, hat⟩ := playOf_some hv
      have hP : viewL r p false = vI p false p.ms.length := by unfold viewL; rw [hv]; rfl
      have hxf := viewF hok false
      rw [← hP] at hxf
      have hF := Lib.hid hxf
      have hmo := Lib.hid (show ∀ i, i < p.ms.length → (p.mv i).length ≤ 8 ∧ playerOf r (p.mv i) = if mOpp (p.mv i) then [79] else [80] from fun i hi => by
        have h1 := (Pl.ok_mv hok hi).1
        have h2 : moveOf r (p.mv i) = true := by unfold moveOf; rw [htr]; exact h1
        obtain ⟨c, q, hcq⟩ := isMove_cons' h1
        refine ⟨isMove_len hat h1, ?_⟩
        unfold playerOf
        rw [h2, hcq]; rfl)
      have hs1h := Lib.hid (fun (W : World) (hW : w3.grownBy W none) => hs1.grown0 hW)
      have hokh := Lib.hid hok
      have hll := Lib.hid (Pl.ok_iff.1 hok).2.1
      have hbk := Lib.hid (fun (W : World) (hW : w3.grownBy W none) => show W.cell? ⟨w1.heap.size, 0, none⟩ = some (.slice PA p.ms.length cA) ∧ W.cell? ⟨w1.heap.size, 1, none⟩ = some (.slice PB p.ps.length cB) ∧ w1.heap.size < W.heap.size from
        ⟨((hb2.grown0 hg3).grown0 hW).cell 0, ((hb2.grown0 hg3).grown0 hW).cell 1, ((hb2.grown0 hg3).grown0 hW).lt⟩)
      have hSh := Lib.hid (fun (W : World) (hW : w3.grownBy W none) => hS.grown0 (gr_trans hgb3 hW))
      have hg3h := Lib.hid hg03
      simp only [hll.out] at hbk
      clear hv htr hok hs1 hs2 hV1 hV1' hV2 hP hxf hS hb hgb hgb3 hb2 d0 d1 dlt hg03 hg1 hg2 hg3 h hq9
      obtain ⟨d0, d1, dlt⟩ := hbk.out w3 (gr_refl _ _)
      generalize viewL r p false = xs at *
      have hxn := hF.out.len
      go_wp2_with fail
      refine (hSm.out w3 (gr_refl _ _)).mono ?_
      rintro e w4 ⟨rfl, hg4⟩
      clear d0 d1 dlt
      obtain ⟨d0, d1, dlt⟩ := hbk.out w4 hg4
      clear hSm
      go_wp2_with fail
      go_loopw [10] (fun i wr => ∃ k : Nat, k ≤ xs.length ∧ i = .int .i64 (k : Int) ∧ w3.grownBy wr none) (fun i _ => xs.length - (intOf i).toNat)
      case atStart => exact ⟨0, Nat.zero_le _, rfl, hg4⟩
      case round =>
        clear d0 d1 dlt hg4
        obtain ⟨k, hkl, rfl, hgr⟩ := hrel
        obtain ⟨d0, d1, dlt⟩ := hbk.out wr hgr
        by_cases hlt : k < xs.length
        · by_cases hk0 : k = 0
          · subst hk0
            go_wp2_with fail
            go_quiet (fail)
            go_wp2_with fail
            go_quiet (fail)
            go_wp2_with fail
            go_roundw
            case rel => exact ⟨0 + 1, by omega, by go_num, gr_drewN hgr _⟩
            case measure => simp [intOf]; omega
          · obtain ⟨u, v, hu, hv, huv, hvn, hpo⟩ := hF.out.step k (by omega) hlt
            obtain ⟨hm8, hpl⟩ := hmo.out v hvn
            obtain ⟨hS1, hS2⟩ := hSh.out wr hgr
            rw [hll.out] at hS2
            obtain ⟨g1, o1, rfl, _, hc1⟩ := hS1 (by omega)
            obtain ⟨g2, o2, rfl, _, hc2⟩ := hS2 (by omega)
            obtain ⟨g3, o3, rfl, _, hc3⟩ := hs1h.out wr hgr (by omega)
            have x1 := hc1 v hvn
            have x2 := hc2 v hvn
            have x3 := hc3 k hlt
            have x4 := hc3 (k - 1) (by omega)
            rw [sv_lt p.ms hvn, ← mv_lt hvn] at x1
            rw [iv_lt p.ps (by rw [hll.out]; exact hvn), ← pt_lt (by rw [hll.out]; exact hvn)] at x2
            unfold iv at x3 x4
            rw [hv] at x3
            rw [hu] at x4
            have hkp := Lib.hid (fun (W : World) (hW : wr.grownBy W none) => show W.cell? ⟨w1.heap.size, 0, none⟩ = some (.slice (some ⟨g1, o1, none⟩) p.ms.length cA) ∧ W.cell? ⟨w1.heap.size, 1, none⟩ = some (.slice (some ⟨g2, o2, none⟩) p.ms.length cB) ∧ W.cell? ⟨g1, o1 + v, none⟩ = some (.string ⟨(p.mv v).toArray⟩) ∧ W.cell? ⟨g2, o2 + v, none⟩ = some (.int .i64 (p.pt v)) ∧ W.cell? ⟨g3, o3 + k, none⟩ = some (.int .i64 (v : Int)) ∧ W.cell? ⟨g3, o3 + (k - 1), none⟩ = some (.int .i64 (u : Int)) from
              ⟨(hbk.out W (gr_trans hgr hW)).1, (hbk.out W (gr_trans hgr hW)).2.1, (World.cell?_of_block (w := wr) (a := ⟨g1, o1 + v, none⟩) (hW.block g1 (World.block_lt_of_cell? wr _ x1) (by simp))).trans x1, (World.cell?_of_block (w := wr) (a := ⟨g2, o2 + v, none⟩) (hW.block g2 (World.block_lt_of_cell? wr _ x2) (by simp))).trans x2,
                (World.cell?_of_block (w := wr) (a := ⟨g3, o3 + k, none⟩) (hW.block g3 (World.block_lt_of_cell? wr _ x3) (by simp))).trans x3, (World.cell?_of_block (w := wr) (a := ⟨g3, o3 + (k - 1), none⟩) (hW.block g3 (World.block_lt_of_cell? wr _ x3) (by simp))).trans x4⟩)
            have hMP := movePlayer_any r (p.mv v)
            rw [hpl] at hMP
            have hMPh := Lib.hid hMP
            have hpoh := Lib.hid hpo
            have h0 : 0 ≤ (k : Int) := by omega
            have h1 : (k : Int) < (xs.length : Int) := by omega
            have h2 : 0 ≤ (k : Int) - 1 := by omega
            have h2' : 1 ≤ (k : Int) := by omega
            have h3 : (k : Int) - 1 < (xs.length : Int) := by omega
            have h4 : 0 ≤ (v : Int) := by omega
            have h5 : (v : Int) < (p.ms.length : Int) := by omega
            have h6 : ((k : Int) - 1).toNat = k - 1 := by omega
            have h7 : IntKind.i64.wrap ((k : Int) - 1) = (k : Int) - 1 := IntWalk.i64_in _ (by omega)
            have h8 : ¬ (v : Int) ≤ (u : Int) := by omega
            have h9 : decide (v ≤ u) = false := by simpa using huv
            have h10 : 0 < (k : Int) := by omega
            have h11 : decide (0 < k) = true := by simp; omega
            clear hu hv hpo hpl hS1 hS2 hc1 hc2 hc3 hMP
            go_upto_region 12 with fail
            go_quiet (fail)
            clear x1 x2 x3 x4 d0 d1 dlt
            go_wp2_with fail
            have hgx : wr.grownBy (wr.drewN (nq + 1)) none := gr_drewN (gr_refl _ _) _
            have hgx1 : wr.grownBy (wr.drewN nq).drew none := gr_drew (gr_drewN (gr_refl _ _) _)
            cases hm : mOpp (p.mv v) with
            | true =>
              simp only [hm, if_true] at hMPh
              have hpt := hpoh.out (by rw [hm]; decide)
              clear hm hpoh
              generalize p.mv v = mv at *
              generalize p.pt v = pv at *
              subst hpt
              go_region_held3 (fun w' => w'.cell? ⟨w1.heap.size, 0, none⟩ = some (.slice (some ⟨g1, o1, none⟩) p.ms.length cA) ∧ w'.cell? ⟨w1.heap.size, 1, none⟩ = some (.slice (some ⟨g2, o2, none⟩) p.ms.length cB) ∧ w'.cell? ⟨g1, o1 + v, none⟩ = some (.string ⟨mv.toArray⟩) ∧ w'.cell? ⟨g2, o2 + v, none⟩ = some (.int .i64 (u : Int)) ∧ w'.cell? ⟨g3, o3 + k, none⟩ = some (.int .i64 (v : Int)) ∧ w'.cell? ⟨g3, o3 + (k - 1), none⟩ = some (.int .i64 (u : Int)))
                (first | exact hkp.out _ (gr_trans hgx hg6) | exact hkp.out _ hgx1 | exact hkp.out _ hgx | go_keep)
                (first | (go_at_call 16; refine (hMPh.out _ (by omega) (by omega)).mono ?_; rintro e w6 ⟨rfl, hg6⟩))
              go_wp2_with fail
              go_roundw
              case rel => exact ⟨k + 1, by omega, by go_num, gr_trans hgr (gr_trans hgx hg6)⟩
              case measure => simp [intOf]; omega
            | false =>
              simp only [hm, Bool.false_eq_true, if_false] at hMPh
              clear hm hpoh
              generalize p.mv v = mv at *
              generalize p.pt v = pv at *
              obtain ⟨res, hrq⟩ : ∃ res, res = ([80] : List UInt8) := ⟨_, rfl⟩
              simp only [← hrq] at hMPh
              have hr1 : ¬ res = [79] := by rw [hrq]; decide
              have hr2 : (res == [79]) = false := by rw [hrq]; decide
              clear hrq
              refine wp_region_held (S := (fun w' => w'.cell? ⟨w1.heap.size, 0, none⟩ = some (.slice (some ⟨g1, o1, none⟩) p.ms.length cA) ∧ w'.cell? ⟨w1.heap.size, 1, none⟩ = some (.slice (some ⟨g2, o2, none⟩) p.ms.length cB) ∧ w'.cell? ⟨g1, o1 + v, none⟩ = some (.string ⟨mv.toArray⟩) ∧ w'.cell? ⟨g2, o2 + v, none⟩ = some (.int .i64 pv) ∧ w'.cell? ⟨g3, o3 + k, none⟩ = some (.int .i64 (v : Int)) ∧ w'.cell? ⟨g3, o3 + (k - 1), none⟩ = some (.int .i64 (u : Int)))) (by kernel_rfl) ?_
              have hSD := hkp.out _ hgx1
              refine wpAnyH_take (i := 0) (v := .int .i64 (k : Int)) rfl (by kernel_rfl) (by kernel_rfl) (by kernel_rfl) (fun _ _ _ h => h) (Or.inl ⟨by rfl, ?_⟩) hSD ?_
              · intro w' hS'
                obtain ⟨s0, s1, s2, s3, s4, s5⟩ := hS'
                go_simp
              try simp only [List.getElem_toArray, List.getElem_cons_zero, Act.put, List.setIfInBounds_toArray, List.set_cons_zero, List.set_cons_succ]
              refine wpAnyH_take (i := 1) (v := .bool true) rfl (by kernel_rfl) (by kernel_rfl) (by kernel_rfl) (fun _ _ _ h => h) (Or.inl ⟨by rfl, ?_⟩) hSD ?_
              · intro w' hS'
                obtain ⟨s0, s1, s2, s3, s4, s5⟩ := hS'
                go_simp
              try simp only [List.getElem_toArray, List.getElem_cons_succ, List.getElem_cons_zero, Act.put, List.setIfInBounds_toArray, List.set_cons_zero, List.set_cons_succ]
              refine wpAnyH_take (i := 2) (v := .bool true) rfl (by kernel_rfl) (by kernel_rfl) (by kernel_rfl) (fun _ _ _ h => h) (Or.inl ⟨by rfl, ?_⟩) hSD ?_
              · intro w' hS'
                obtain ⟨s0, s1, s2, s3, s4, s5⟩ := hS'
                go_simp
              try simp only [List.getElem_toArray, List.getElem_cons_succ, List.getElem_cons_zero, Act.put, List.setIfInBounds_toArray, List.set_cons_zero, List.set_cons_succ]
              refine wpAnyH_take (i := 3) (v := .string ⟨r.toArray⟩) rfl (by kernel_rfl) (by kernel_rfl) (by kernel_rfl) (fun _ _ _ h => h) (Or.inl ⟨by rfl, ?_⟩) hSD ?_
              · intro w' hS'
                obtain ⟨s0, s1, s2, s3, s4, s5⟩ := hS'
                go_simp
              try simp only [List.getElem_toArray, List.getElem_cons_succ, List.getElem_cons_zero, Act.put, List.setIfInBounds_toArray, List.set_cons_zero, List.set_cons_succ]
              refine wpAnyH_take (i := 4) (v := .pointer (some ⟨w1.heap.size, 0, none⟩)) rfl (by kernel_rfl) (by kernel_rfl) (by kernel_rfl) (fun _ _ _ h => h) (Or.inl ⟨by rfl, ?_⟩) hSD ?_
              · intro w' hS'
                obtain ⟨s0, s1, s2, s3, s4, s5⟩ := hS'
                go_simp
              try simp only [List.getElem_toArray, List.getElem_cons_succ, List.getElem_cons_zero, Act.put, List.setIfInBounds_toArray, List.set_cons_zero, List.set_cons_succ]
              refine wpAnyH_take (i := 5) (v := .slice (some ⟨g1, o1, none⟩) p.ms.length cA) rfl (by kernel_rfl) (by kernel_rfl) (by kernel_rfl) (fun _ _ _ h => h) (Or.inl ⟨by rfl, ?_⟩) hSD ?_
              · intro w' hS'
                obtain ⟨s0, s1, s2, s3, s4, s5⟩ := hS'
                go_simp
              try simp only [List.getElem_toArray, List.getElem_cons_succ, List.getElem_cons_zero, Act.put, List.setIfInBounds_toArray, List.set_cons_zero, List.set_cons_succ]
              refine wpAnyH_take (i := 6) (v := .slice (some ⟨g3, o3, none⟩) xs.length vc) rfl (by kernel_rfl) (by kernel_rfl) (by kernel_rfl) (fun _ _ _ h => h) (Or.inl ⟨by rfl, ?_⟩) hSD ?_
              · intro w' hS'
                obtain ⟨s0, s1, s2, s3, s4, s5⟩ := hS'
                go_simp
              try simp only [List.getElem_toArray, List.getElem_cons_succ, List.getElem_cons_zero, Act.put, List.setIfInBounds_toArray, List.set_cons_zero, List.set_cons_succ]
              refine wpAnyH_take (i := 7) (v := .int .i64 (k : Int)) rfl (by kernel_rfl) (by kernel_rfl) (by kernel_rfl) (fun _ _ _ h => h) (Or.inl ⟨by rfl, ?_⟩) hSD ?_
              · intro w' hS'
                obtain ⟨s0, s1, s2, s3, s4, s5⟩ := hS'
                go_simp
              try simp only [List.getElem_toArray, List.getElem_cons_succ, List.getElem_cons_zero, Act.put, List.setIfInBounds_toArray, List.set_cons_zero, List.set_cons_succ]
              refine wpAnyH_take (i := 8) (v := .pointer (some ⟨g3, o3 + k, none⟩)) rfl (by kernel_rfl) (by kernel_rfl) (by kernel_rfl) (fun _ _ _ h => h) (Or.inl ⟨by rfl, ?_⟩) hSD ?_
              · intro w' hS'
                obtain ⟨s0, s1, s2, s3, s4, s5⟩ := hS'
                go_simp
              try simp only [List.getElem_toArray, List.getElem_cons_succ, List.getElem_cons_zero, Act.put, List.setIfInBounds_toArray, List.set_cons_zero, List.set_cons_succ]
              refine wpAnyH_take (i := 9) (v := .int .i64 (v : Int)) rfl (by kernel_rfl) (by kernel_rfl) (by kernel_rfl) (fun _ _ _ h => h) (Or.inl ⟨by rfl, ?_⟩) hSD ?_
              · intro w' hS'
                obtain ⟨s0, s1, s2, s3, s4, s5⟩ := hS'
                go_simp
              try simp only [List.getElem_toArray, List.getElem_cons_succ, List.getElem_cons_zero, Act.put, List.setIfInBounds_toArray, List.set_cons_zero, List.set_cons_succ]
              refine wpAnyH_take (i := 10) (v := .pointer (some ⟨g1, o1 + v, none⟩)) rfl (by kernel_rfl) (by kernel_rfl) (by kernel_rfl) (fun _ _ _ h => h) (Or.inl ⟨by rfl, ?_⟩) hSD ?_
              · intro w' hS'
                obtain ⟨s0, s1, s2, s3, s4, s5⟩ := hS'
                go_simp
              try simp only [List.getElem_toArray, List.getElem_cons_succ, List.getElem_cons_zero, Act.put, List.setIfInBounds_toArray, List.set_cons_zero, List.set_cons_succ]
              refine wpAnyH_take (i := 11) (v := .string ⟨mv.toArray⟩) rfl (by kernel_rfl) (by kernel_rfl) (by kernel_rfl) (fun _ _ _ h => h) (Or.inl ⟨by rfl, ?_⟩) hSD ?_
              · intro w' hS'
                obtain ⟨s0, s1, s2, s3, s4, s5⟩ := hS'
                go_simp
              try simp only [List.getElem_toArray, List.getElem_cons_succ, List.getElem_cons_zero, Act.put, List.setIfInBounds_toArray, List.set_cons_zero, List.set_cons_succ]
              refine wpAnyH_call (j := 12) (by kernel_rfl) rfl (by rfl) ?_
              unfold Oper.wp execOp
              go_simp
              refine (hMPh.out _ (by omega) (by omega)).mono ?_
              rintro e w6 ⟨rfl, hg6⟩
              have hS6 := hkp.out _ (gr_trans hgx hg6)
              refine ⟨hS6, ?_⟩
              try simp only [List.getElem_toArray, List.getElem_cons_succ, List.getElem_cons_zero, Act.put, List.setIfInBounds_toArray, List.set_cons_zero, List.set_cons_succ]
              refine wpAnyH_take (i := 13) (v := .bool false) rfl (by kernel_rfl) (by kernel_rfl) (by kernel_rfl) (fun _ _ _ h => h) (Or.inl ⟨by rfl, ?_⟩) hS6 ?_
              · intro w' hS'
                obtain ⟨s0, s1, s2, s3, s4, s5⟩ := hS'
                go_simp
              try simp only [List.getElem_toArray, List.getElem_cons_succ, List.getElem_cons_zero, Act.put, List.setIfInBounds_toArray, List.set_cons_zero, List.set_cons_succ]
              refine wpAnyH_take (i := 14) (v := .bool false) rfl (by kernel_rfl) (by kernel_rfl) (by kernel_rfl) (fun _ _ _ h => h) (Or.inl ⟨by rfl, ?_⟩) hS6 ?_
              · intro w' hS'
                obtain ⟨s0, s1, s2, s3, s4, s5⟩ := hS'
                go_simp
              try simp only [List.getElem_toArray, List.getElem_cons_succ, List.getElem_cons_zero, Act.put, List.setIfInBounds_toArray, List.set_cons_zero, List.set_cons_succ]
              refine wpAnyH_take (i := 15) (v := .bool false) rfl (by kernel_rfl) (by kernel_rfl) (by kernel_rfl) (fun _ _ _ h => h) (Or.inl ⟨by rfl, ?_⟩) hS6 ?_
              · intro w' hS'
                obtain ⟨s0, s1, s2, s3, s4, s5⟩ := hS'
                go_simp
              try simp only [List.getElem_toArray, List.getElem_cons_succ, List.getElem_cons_zero, Act.put, List.setIfInBounds_toArray, List.set_cons_zero, List.set_cons_succ]
              refine wpAnyH_take (i := 16) (v := undef) rfl (by kernel_rfl) (by kernel_rfl) (by kernel_rfl) (fun _ _ _ h => h) (Or.inr ⟨by rfl, rfl⟩) hS6 ?_
              try simp only [List.getElem_toArray, List.getElem_cons_succ, List.getElem_cons_zero, Act.put, List.setIfInBounds_toArray, List.set_cons_zero, List.set_cons_succ]
              refine wpAnyH_take (i := 17) (v := undef) rfl (by kernel_rfl) (by kernel_rfl) (by kernel_rfl) (fun _ _ _ h => h) (Or.inr ⟨by rfl, rfl⟩) hS6 ?_
              try simp only [List.getElem_toArray, List.getElem_cons_succ, List.getElem_cons_zero, Act.put, List.setIfInBounds_toArray, List.set_cons_zero, List.set_cons_succ]
              refine wpAnyH_take (i := 18) (v := undef) rfl (by kernel_rfl) (by kernel_rfl) (by kernel_rfl) (fun _ _ _ h => h) (Or.inr ⟨by rfl, rfl⟩) hS6 ?_
              try simp only [List.getElem_toArray, List.getElem_cons_succ, List.getElem_cons_zero, Act.put, List.setIfInBounds_toArray, List.set_cons_zero, List.set_cons_succ]
              refine wpAnyH_take (i := 19) (v := undef) rfl (by kernel_rfl) (by kernel_rfl) (by kernel_rfl) (fun _ _ _ h => h) (Or.inr ⟨by rfl, rfl⟩) hS6 ?_
              try simp only [List.getElem_toArray, List.getElem_cons_succ, List.getElem_cons_zero, Act.put, List.setIfInBounds_toArray, List.set_cons_zero, List.set_cons_succ]
              refine wpAnyH_take (i := 20) (v := undef) rfl (by kernel_rfl) (by kernel_rfl) (by kernel_rfl) (fun _ _ _ h => h) (Or.inr ⟨by rfl, rfl⟩) hS6 ?_
              try simp only [List.getElem_toArray, List.getElem_cons_succ, List.getElem_cons_zero, Act.put, List.setIfInBounds_toArray, List.set_cons_zero, List.set_cons_succ]
              refine wpAnyH_take (i := 21) (v := undef) rfl (by kernel_rfl) (by kernel_rfl) (by kernel_rfl) (fun _ _ _ h => h) (Or.inr ⟨by rfl, rfl⟩) hS6 ?_
              try simp only [List.getElem_toArray, List.getElem_cons_succ, List.getElem_cons_zero, Act.put, List.setIfInBounds_toArray, List.set_cons_zero, List.set_cons_succ]
              refine wpAnyH_take (i := 22) (v := undef) rfl (by kernel_rfl) (by kernel_rfl) (by kernel_rfl) (fun _ _ _ h => h) (Or.inr ⟨by rfl, rfl⟩) hS6 ?_
              try simp only [List.getElem_toArray, List.getElem_cons_succ, List.getElem_cons_zero, Act.put, List.setIfInBounds_toArray, List.set_cons_zero, List.set_cons_succ]
              refine wpAnyH_take (i := 23) (v := undef) rfl (by kernel_rfl) (by kernel_rfl) (by kernel_rfl) (fun _ _ _ h => h) (Or.inr ⟨by rfl, rfl⟩) hS6 ?_
              try simp only [List.getElem_toArray, List.getElem_cons_succ, List.getElem_cons_zero, Act.put, List.setIfInBounds_toArray, List.set_cons_zero, List.set_cons_succ]
              refine wpAnyH_take (i := 24) (v := undef) rfl (by kernel_rfl) (by kernel_rfl) (by kernel_rfl) (fun _ _ _ h => h) (Or.inr ⟨by rfl, rfl⟩) hS6 ?_
              try simp only [List.getElem_toArray, List.getElem_cons_succ, List.getElem_cons_zero, Act.put, List.setIfInBounds_toArray, List.set_cons_zero, List.set_cons_succ]
              refine wpAnyH_take (i := 25) (v := undef) rfl (by kernel_rfl) (by kernel_rfl) (by kernel_rfl) (fun _ _ _ h => h) (Or.inr ⟨by rfl, rfl⟩) hS6 ?_
              try simp only [List.getElem_toArray, List.getElem_cons_succ, List.getElem_cons_zero, Act.put, List.setIfInBounds_toArray, List.set_cons_zero, List.set_cons_succ]
              refine wpAnyH_take (i := 26) (v := undef) rfl (by kernel_rfl) (by kernel_rfl) (by kernel_rfl) (fun _ _ _ h => h) (Or.inr ⟨by rfl, rfl⟩) hS6 ?_
              try simp only [List.getElem_toArray, List.getElem_cons_succ, List.getElem_cons_zero, Act.put, List.setIfInBounds_toArray, List.set_cons_zero, List.set_cons_succ]
              refine wpAnyH_take (i := 27) (v := undef) rfl (by kernel_rfl) (by kernel_rfl) (by kernel_rfl) (fun _ _ _ h => h) (Or.inr ⟨by rfl, rfl⟩) hS6 ?_
              try simp only [List.getElem_toArray, List.getElem_cons_succ, List.getElem_cons_zero, Act.put, List.setIfInBounds_toArray, List.set_cons_zero, List.set_cons_succ]
              refine wpAnyH_take (i := 28) (v := undef) rfl (by kernel_rfl) (by kernel_rfl) (by kernel_rfl) (fun _ _ _ h => h) (Or.inr ⟨by rfl, rfl⟩) hS6 ?_
              try simp only [List.getElem_toArray, List.getElem_cons_succ, List.getElem_cons_zero, Act.put, List.setIfInBounds_toArray, List.set_cons_zero, List.set_cons_succ]
              refine wpAnyH_take (i := 29) (v := undef) rfl (by kernel_rfl) (by kernel_rfl) (by kernel_rfl) (fun _ _ _ h => h) (Or.inr ⟨by rfl, rfl⟩) hS6 ?_
              try simp only [List.getElem_toArray, List.getElem_cons_succ, List.getElem_cons_zero, Act.put, List.setIfInBounds_toArray, List.set_cons_zero, List.set_cons_succ]
              refine wpAnyH_take (i := 30) (v := .bool false) rfl (by kernel_rfl) (by kernel_rfl) (by kernel_rfl) (fun _ _ _ h => h) (Or.inl ⟨by rfl, ?_⟩) hS6 ?_
              · intro w' hS'
                obtain ⟨s0, s1, s2, s3, s4, s5⟩ := hS'
                go_simp
              try simp only [List.getElem_toArray, List.getElem_cons_succ, List.getElem_cons_zero, Act.put, List.setIfInBounds_toArray, List.set_cons_zero, List.set_cons_succ]
              refine wpAnyH_done (by kernel_rfl) ?_ _
              go_wp2_with fail
              go_roundw
              case rel => exact ⟨k + 1, by omega, by go_num, gr_trans hgr (gr_trans hgx hg6)⟩
              case measure => simp [intOf]; omega
        · by_cases hn0 : p.ms.length = 0
          · have hx0 := hF.out.nil.2 hn0
            have hn1 : ((p.ms.length : Int) == 0) = true := by rw [beq_iff_eq]; omega
            have hx1 : ((xs.length : Int) == 0) = true := by rw [beq_iff_eq]; omega
            have hkn : ¬ (k : Int) < (xs.length : Int) := by omega
            have hnh := Lib.hid hn0
            clear hn0 hx0 hlt hkl
            go_wp2_with fail
            go_ret
            exact ⟨rfl, gr_trans hg3h.out hgr⟩
          · have hx0 : ¬ xs.length = 0 := fun h => hn0 (hF.out.nil.1 h)
            have hla := hF.out.last (by omega)
            obtain ⟨g3, o3, rfl, _, hc3⟩ := hs1h.out wr hgr (by omega)
            have x3 := hc3 (xs.length - 1) (by omega)
            unfold iv at x3
            rw [hla] at x3
            have hn1 : ((p.ms.length : Int) == 0) = false := by rw [beq_eq_false_iff_ne]; omega
            have hx1 : ((xs.length : Int) == 0) = false := by rw [beq_eq_false_iff_ne]; omega
            have hkn : ¬ (k : Int) < (xs.length : Int) := by omega
            have h2 : 0 ≤ (xs.length : Int) - 1 := by omega
            have h2' : 1 ≤ (xs.length : Int) := by omega
            have h3 : (xs.length : Int) - 1 < (xs.length : Int) := by omega
            have h6 : ((xs.length : Int) - 1).toNat = xs.length - 1 := by omega
            clear hla hn0 hx0 hc3
            go_wp2_with fail
            go_ret
            exact ⟨rfl, gr_trans hg3h.out hgr⟩

section
open Go.ChangeShapes Go.WideShapes Go.ChangeAt Go.RowKit
open Go.ChangeMaps (open_string shut_string)
set_option maxRecDepth 100000 in
theorem FnViewP_lifted (os : Os) (started : os.Started) (H : Type) (enc : TypeId × Value → H) :
    ReturnsInHanded {} Try.checked os 5 .any (Rows.fnViewPSpec.pre6 enc Try.prog Try.f5 Rows.fnViewPRow.domain false) (Rows.fnViewPSpec.post enc Try.prog Try.f5 false true false false) := by
  refine returnsInHanded_of_change (C := Try.checked) Try.own started (by kernel_rfl) Try.func5
    (ChangeSpec.witness6 (enc := enc) (C := Try.checked) false ⟨#[], #[.slice none 0 0], []⟩ 8 (by kernel_rfl) (by kernel_rfl) (by kernel_rfl) (by kernel_rfl)) ?_
  intro W base args ds gs before hval0 hW hcnd _
  have hval : ∀ (j : Nat) t v, Try.f5.params[j]? = some t → args[j]? = some v → Value.okWide Try.prog W .any base t v := hval0
  have hW' := hW
  obtain ⟨p, q, hA0, hV, rfl, hfz, hnd⟩ := hW
  have hA : DataW.TrodAll enc Try.prog W 0 (fun _ => true) true Try.f5.params.toList args.toList ds p := hA0
  rw [Try.params5] at hA hval
  obtain ⟨v0, vs0, d0, ds0, p0, q0, hargs, rfl, rfl, h0, r0⟩ := trodAll_cons hA
  obtain ⟨rfl, rfl, rfl⟩ := trodAll_nil r0
  obtain rfl : args = #[v0] := by cases args; simp_all
  obtain ⟨rfl, rfl⟩ := trodVars_none hV
  obtain ⟨A0, n0, c0, rfl⟩ := okWide_slice Try.underlying22 (hval 0 22 v0 rfl rfl)
  have k0 := h0
  have lt0 : ∀ x ∈ p0, x.block < W.heap.size := by obtain ⟨m, hm⟩ := k0; exact DataW.trod_lt m _ _ _ hm
  obtain ⟨z0, w0⟩ : ∃ zs, IsRow .u8 W A0 n0 c0 zs := by
    obtain ⟨fuel, hf⟩ := h0
    rcases open_ints Try.underlying22 Try.underlying5 (by kernel_rfl) hf with ⟨hcs, _⟩ | ⟨x, l, c, zs, hcs, _, hl, hm, hz, _, hcell, hwz⟩
    · simp [Value.cells] at hcs
      obtain ⟨rfl, rfl, rfl⟩ := hcs
      exact ⟨[], .inl ⟨rfl, rfl, rfl, rfl⟩⟩
    · simp [Value.cells] at hcs
      obtain ⟨rfl, rfl, rfl⟩ := hcs
      exact ⟨zs, .inr ⟨_, rfl, hl, hm, by simpa using hz, hcell, hwz⟩⟩
  clear hA0 hval0
  refine (FnViewP_walk A0 n0 c0 z0 W w0).mono fun e W' ⟨he, hg⟩ => ?_
  subst he
  have bel := below_gr hg
  exact ⟨_, rfl, _, _, _, [], _, [], hW', trodAll_mk1 (shut_bool Try.underlying4 _), (trodAll_cons_mk (Below.trod Try.laidOut (by kernel_rfl) (of_decide_eq_true (by kernel_rfl)) k0 bel lt0) trodAll_mk0), rfl, bel.frame _, fun h => by cases h⟩
end

/-- The statement. -/
theorem FnViewP_holds : Rows.FnViewPSaid :=
  OpenClaim.holds_of_wide 5 Try.f5 rfl rfl rfl rfl rfl rfl rfl ⟨rfl, rfl, rfl, rfl, rfl⟩ rfl rfl rfl rfl rfl (by kernel_rfl) Try.func5 (by kernel_rfl)
    (of_decide_eq_true (by kernel_rfl)) (by unfold Func.isWrapper; first | (rw [if_pos (by decide +kernel)]; kernel_rfl) | (rw [if_neg (by decide +kernel)]; exact ⟨rfl, rfl⟩))
    (fun os started H enc _ => FnViewP_lifted os started H enc)
end Go.Proofs.Ytkjkbcfifhakkaa
