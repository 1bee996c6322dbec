/- PROVED: 'laws.FnLegal' returns true for every input, and leaves its input as it was. No conditions. -/
import Derived.Test.YtkjkbcfifhakkaaDoorPlayApi
import Derived.Test.YtkjkbcfifhakkaaDoorPlayNextA
import Derived.Test.YtkjkbcfifhakkaaDoorPlayCut
import Derived.Test.YtkjkbcfifhakkaaDoorPlayDraw3
import Derived.Test.YtkjkbcfifhakkaaDoorSame
import Derived.Test.YtkjkbcfifhakkaaDoorCards
import Derived.Test.YtkjkbcfifhakkaaDoorTie
import Derived.SevenTiedAt
import Derived.LaidMore
import Derived.Stop.Joined
import Derived.Test.YtkjkbcfifhakkaaDoorRow
namespace Go.Proofs.YtkjkbcfifhakkaaDoor
open Go.RowKit

theorem legOf_iff {r : List UInt8} {p : Pl} : legOf r p = true ↔ visOf r p = true ∧ brOf r p = true := by
  unfold legOf visOf brOf
  simp only [Bool.and_eq_true]
  exact ⟨fun ⟨a, b, c⟩ => ⟨⟨a, b⟩, ⟨a, c⟩⟩, fun ⟨⟨a, b⟩, ⟨_, c⟩⟩ => ⟨a, b, c⟩⟩
theorem legOf_cut {r : List UInt8} {p : Pl} (h : legOf r p = true) (n : Nat) : legOf r (p.cut n) = true :=
  legOf_iff.2 ⟨visOf_cut (legOf_iff.1 h).1 n, brOf_cut (legOf_iff.1 h).2 n⟩
theorem cut_ms (p : Pl) (n : Nat) : (p.cut n).ms.length = min n p.ms.length := by simp [Pl.cut]
theorem cut_last {p : Pl} (hll : p.ps.length = p.ms.length) (hn : p.ms.length ≠ 0) : ∃ m x, p = (p.cut (p.ms.length - 1)).snoc m x := by
  obtain ⟨ms, ps⟩ := p
  simp only at hll hn
  have h1 : ms = ms.take (ms.length - 1) ++ [ms[ms.length - 1]'(by omega)] := by
    conv => lhs; rw [← List.take_length (l := ms), show ms.length = (ms.length - 1) + 1 by omega]
    rw [List.take_succ_eq_append_getElem (by omega)]
  have h2 : ps = ps.take (ms.length - 1) ++ [ps[ms.length - 1]'(by omega)] := by
    conv => lhs; rw [← List.take_length (l := ps), hll, show ms.length = (ms.length - 1) + 1 by omega]
    rw [List.take_succ_eq_append_getElem (by omega)]
  refine ⟨ms[ms.length - 1]'(by omega), ps[ms.length - 1]'(by omega), ?_⟩
  simp only [Pl.cut, Pl.snoc]
  rw [← h1, ← h2]
theorem next_has {r : List UInt8} {p : Pl} (h : legOf r p = true) (hn : p.ms.length ≠ 0) : nextOk r (p.cut (p.ms.length - 1)) = true ∧ p ∈ nextPl r (p.cut (p.ms.length - 1)) := by
  obtain ⟨t, htr, hlg, hat, h60⟩ := legOf_some h
  have hok : p.ok t = true := by unfold Pl.legal at hlg; simp only [Bool.and_eq_true] at hlg; exact hlg.1
  have hll := (Pl.ok_iff.1 hok).2.1
  have h1 : nextOk r (p.cut (p.ms.length - 1)) = true := by
    unfold nextOk
    rw [legOf_cut h, cut_ms]
    simp
    omega
  obtain ⟨m, x, hpx⟩ := cut_last hll hn
  refine ⟨h1, ?_⟩
  unfold nextPl
  rw [h1, htr]
  simp only [if_true]
  have hc : (p.cut (p.ms.length - 1)).ps.length = (p.cut (p.ms.length - 1)).ms.length := by simp [Pl.cut, hll]
  generalize p.cut (p.ms.length - 1) = c at *
  subst hpx
  exact Pl.in_next hat hc hlg
theorem next_mem {r : List UInt8} {pc q : Pl} (h : q ∈ nextPl r pc) : legOf r q = true ∧ ∃ m x, q = pc.snoc m x := by
  unfold nextPl at h
  by_cases hk : nextOk r pc = true
  · rw [if_pos hk] at h
    have hk2 := hk
    unfold nextOk at hk2
    simp at hk2
    obtain ⟨t, htr, hlg, hat, h60⟩ := legOf_some hk2.1
    rw [htr] at h
    obtain ⟨h1, h2⟩ := Pl.mem_next hat hlg (by omega) h
    refine ⟨?_, h2⟩
    unfold legOf playOf
    rw [htr]
    unfold Pl.legal at h1
    exact h1
  · rw [if_neg hk] at h
    cases h
theorem legOf_len {r : List UInt8} {p : Pl} (h : legOf r p = true) : p.ms.length ≤ 60 ∧ p.ps.length = p.ms.length := by
  obtain ⟨t, htr, hlg, hat, h60⟩ := legOf_some h
  have hok : p.ok t = true := by unfold Pl.legal at hlg; simp only [Bool.and_eq_true] at hlg; exact hlg.1
  exact ⟨h60, (Pl.ok_iff.1 hok).2.1⟩
theorem PDs.len {w : World} {base : Nat} {v : Value} {D : List PD} (h : PDs w base v D) : D.length ≤ maxLen := by
  obtain ⟨hl, ⟨rfl, h0⟩ | ⟨g, cap, cur, rfl, hbg, hr, h1, h2, h3, h4⟩⟩ := h.1
  · unfold maxLen; omega
  · omega
set_option maxHeartbeats 4000000 in
theorem FnLegal_walk (A : Option Addr) (n c : Nat) (zs : List Int) (w : World) (h : IsRow .u8 w A n c zs) :
    Calls Tryd.prog 4 #[.slice A n c] w fun e w' => e = .returned (.bool true) ∧ w.grownBy w' none := by
  by_cases hl : n > 1048576
  · go_enter Tryd.func4, Tryd.ntmps4
    go_wp2_with fail
    go_ret
    exact ⟨rfl, gr_refl _ _⟩
  · go_enter Tryd.func4, Tryd.ntmps4
    go_wp2_with fail
    refine (drawPlayLegal_any A n c zs w h).mono ?_
    rintro e w1 ⟨r, p, PA, cA, PB, cB, rfl, hD, hg1⟩
    have hDh := Lib.hid hD
    have hr := hD.1
    have hp9 := hD.2.1
    have hq9 := hD.2.2.1
    clear hD
    have hgb := World.grownBy_alloc w1 (.cells #[.slice PA p.ms.length cA, .slice PB p.ps.length cB] 26) none
    have hb := Blk.new w1 26 #[.slice PA p.ms.length cA, .slice PB p.ps.length cB]
    have hS := hDh.out.2.2.2.2.1
    have hsmh := Lib.hid hDh.out.small
    go_wp2_with fail
    refine (playLegal_any r p PA cA PB cB _ _ (by omega) (hS.grown0 hgb) hsmh.out).mono ?_
    rintro e w2 ⟨rfl, hg2⟩
    have hb2 := hb.grown0 hg2
    have d0 := hb2.cell 0
    have d1 := hb2.cell 1
    have dlt := hb2.lt
    simp only [List.getElem?_toArray, List.getElem?_cons_zero, List.getElem?_cons_succ] at d0 d1
    go_wp2_with fail
    refine (sPlayLegal_any r p PA cA PB cB _ _ (by omega) ((hS.grown0 hgb).grown0 hg2) hsmh.out).mono ?_
    rintro e w3 ⟨rfl, hg3⟩
    have hgb3 := gr_trans hgb (gr_trans hg2 hg3)
    have hg03 := gr_trans hg1 hgb3
    cases hv : legOf r p with
    | false =>
      clear hv
      go_wp2_with fail
      go_ret
      exact ⟨rfl, hg03⟩
    | true =>
      have hvh := Lib.hid hv
      obtain ⟨t, htr, hlg, hat, h60⟩ := legOf_some hv
      have hok : p.ok t = true := by unfold Pl.legal at hlg; simp only [Bool.and_eq_true] at hlg; exact hlg.1
      have hll := Lib.hid (Pl.ok_iff.1 hok).2.1
      have hVis := fun (W : World) (hW : w3.grownBy W none) => playVisible_any r p PA cA PB cB _ W (by omega) (hS.grown0 (gr_trans hgb3 hW)) hsmh.out
      rw [(legOf_iff.1 hv).1] at hVis
      have hBr := fun (W : World) (hW : w3.grownBy W none) => playBracketed_any r p PA cA PB cB _ W (by omega) (hS.grown0 (gr_trans hgb3 hW)) hsmh.out
      rw [(legOf_iff.1 hv).2] at hBr
      simp only [hll.out] at hVis hBr
      have hVh := Lib.hid hVis
      have hBh := Lib.hid hBr
      have hbk := Lib.hid (fun (W : World) (hW : w3.grownBy W none) => show W.cell? ⟨w1.heap.size, 0, none⟩ = some (.slice PA p.ms.length cA) ∧ W.cell? ⟨w1.heap.size, 1, none⟩ = some (.slice PB p.ps.length cB) ∧ w1.heap.size < W.heap.size from
        ⟨((hb2.grown0 hg3).grown0 hW).cell 0, ((hb2.grown0 hg3).grown0 hW).cell 1, ((hb2.grown0 hg3).grown0 hW).lt⟩)
      have hSh := Lib.hid (fun (W : World) (hW : w3.grownBy W none) => hS.grown0 (gr_trans hgb3 hW))
      have hg3h := Lib.hid hg03
      simp only [hll.out] at hbk
      clear hv htr hok hlg hS hb hgb hgb3 hb2 d0 d1 dlt hg03 hg1 hg2 hg3 h hq9 hVis hBr
      obtain ⟨d0, d1, dlt⟩ := hbk.out w3 (gr_refl _ _)
      by_cases hn0 : p.ms.length = 0
      · have hn1 : ((p.ms.length : Int) == 0) = true := by rw [beq_iff_eq]; omega
        have hn0h := Lib.hid hn0
        clear hn0
        go_wp2_with fail
        refine (hVh.out w3 (gr_refl _ _)).mono ?_
        rintro e w4 ⟨rfl, hg4⟩
        clear d0 d1 dlt
        obtain ⟨d0, d1, dlt⟩ := hbk.out w4 hg4
        go_wp2_with fail
        refine (hBh.out w4 hg4).mono ?_
        rintro e w5 ⟨rfl, hg5⟩
        go_wp2_with fail
        go_ret
        exact ⟨rfl, gr_trans hg3h.out (gr_trans hg4 hg5)⟩
      · have hn1 : ((p.ms.length : Int) == 0) = false := by rw [beq_eq_false_iff_ne]; omega
        have hS := hSh.out w3 (gr_refl _ _)
        have hC := cutPlay_any p PA cA PB cB _ (p.ms.length - 1) w3 hS (by omega) hll.out (by omega) hDh.out.2.2.2.2.2.1 hDh.out.2.2.2.2.2.2
        rw [hll.out, show ((p.ms.length - 1 : Nat) : Int) = (p.ms.length : Int) - 1 by omega] at hC
        have hCh := Lib.hid hC
        clear hC hS
        have hn3 : 1 ≤ (p.ms.length : Int) := by omega
        obtain ⟨hnk, hin⟩ := next_has hvh.out hn0
        have hsm1 := Lib.hid (SmallP.cut hsmh.out (p.ms.length - 1))
        go_wp2_with fail
        refine hCh.out.mono ?_
        rintro e w4 ⟨A', cA', B', cB', rfl, hO, hg4⟩
        generalize p.cut (p.ms.length - 1) = pc at *
        have hN := playNext_any r pc A' cA' B' cB' _ w4 (by omega) hO.sl hsm1.out
        unfold NextAPost at hN
        rw [hnk] at hN
        have hNh := Lib.hid hN
        have hinh := Lib.hid hin
        clear hN hin
        go_wp2_with fail
        refine hNh.out.mono ?_
        rintro e w5 ⟨AL, cL, D, rfl, hDs, hDp, hg5⟩
        have hg35 := gr_trans hg4 hg5
        have hfin : D.any (fun d => plEq d.p p) = true := by
          rw [List.any_eq_true]
          have := hinh.out
          rw [← hDp] at this
          obtain ⟨d, hd, hdp⟩ := List.mem_map.1 this
          exact ⟨d, hd, plEq_iff.2 hdp⟩
        have hfinh := Lib.hid hfin
        have hDsh := Lib.hid hDs
        have hszh := Lib.hid (fun (j : Nat) (hj : j < D.length) => show D[j].p.ms.length ≤ 60 ∧ D[j].p.ps.length ≤ 60 from by
          have h1 := legOf_len (next_mem (r := r) (pc := pc) (q := D[j].p) (by rw [← hDp]; exact List.mem_map.2 ⟨_, List.getElem_mem hj, rfl⟩)).1
          omega)
        have hDl := hDs.len
        unfold maxLen at hDl
        clear hfin hDs hDp
        go_wp2_with fail
        go_loopw [10, 11] (fun out i wr => ∃ (j : Nat), j ≤ D.length ∧ i = .int .i64 (j : Int) ∧ out = .bool ((D.take j).any (fun d => plEq d.p p)) ∧ w5.grownBy wr none) (fun _ i _ => D.length - (intOf i).toNat)
        case atStart => exact ⟨0, Nat.zero_le _, rfl, rfl, gr_refl _ _⟩
        case round =>
          obtain ⟨wi, hwi⟩ : ∃ wo, wo = wr := ⟨_, rfl⟩
          subst hwi
          obtain ⟨j, hjl, rfl, rfl, hgr⟩ := hrel
          have hgr3 := gr_trans hg35 hgr
          clear d0 d1 dlt
          obtain ⟨d0, d1, dlt⟩ := hbk.out wi hgr3
          by_cases hj : j < D.length
          · obtain ⟨g, cap, hvl, hgb, c0, c1⟩ := (hDsh.out.keep hgr).get hj
            injection hvl with e1 e2 e3
            subst e1 e3
            have hj0 : 0 ≤ (j : Int) := by omega
            have hj1 : (j : Int) < (D.length : Int) := by omega
            have hst : (D.take (j + 1)).any (fun d => plEq d.p p) = ((D.take j).any (fun d => plEq d.p p) || plEq D[j].p p) := by
              rw [List.take_succ_eq_append_getElem hj, List.any_append]
              simp
            have hsth := Lib.hid hst
            clear hst
            have hgx : wi.grownBy wi.drew none := gr_drew (gr_refl _ _)
            have hlt := World.block_lt_of_cell? wi ⟨g, 2 * j, none⟩ c0
            have hSp := Lib.hid (fun (W : World) (hW : wi.grownBy W none) => samePlay_any D[j].p p D[j].A D[j].cA D[j].B D[j].cB PA cA PB cB _ _ W ((hDsh.out.keep (gr_trans hgr hW)).2 _ (List.getElem_mem hj)).sl (hSh.out W (gr_trans hgr3 hW)) (by have := hszh.out j hj; omega) (by have := hszh.out j hj; omega) (by omega) (by have := hll.out; omega))
            have hkp := Lib.hid (fun (W : World) (hW : wi.grownBy W none) => show W.cell? ⟨g, j * 2, none⟩ = some D[j].a ∧ W.cell? ⟨g, j * 2 + 1, none⟩ = some D[j].b ∧ W.cell? ⟨w1.heap.size, 0, none⟩ = some (.slice PA p.ms.length cA) ∧ W.cell? ⟨w1.heap.size, 1, none⟩ = some (.slice PB p.ms.length cB) from by
              rw [Nat.mul_comm j 2]
              exact ⟨(World.cell?_of_block (w := wi) (a := ⟨g, 2 * j, none⟩) (hW.block g hlt (by simp))).trans c0, (World.cell?_of_block (w := wi) (a := ⟨g, 2 * j + 1, none⟩) (hW.block g hlt (by simp))).trans c1, (hbk.out W (gr_trans hgr3 hW)).1, (hbk.out W (gr_trans hgr3 hW)).2.1⟩)
            simp only [hll.out] at hSp
            clear c0 c1
            obtain ⟨c0, c1, _, _⟩ := hkp.out wi (gr_refl _ _)
            cases hfo : (D.take j).any (fun d => plEq d.p p) with
            | true =>
              have hso := hsth.out
              rw [hfo, Bool.true_or] at hso
              have hsoh := Lib.hid hso
              clear hso hfo
              go_wp2_with fail
              refine wp_region_held (S := (fun w' => w'.cell? ⟨g, j * 2, none⟩ = some D[j].a ∧ w'.cell? ⟨g, j * 2 + 1, none⟩ = some D[j].b ∧ w'.cell? ⟨w1.heap.size, 0, none⟩ = some (.slice PA p.ms.length cA) ∧ w'.cell? ⟨w1.heap.size, 1, none⟩ = some (.slice PB p.ms.length cB))) (by kernel_rfl) ?_
              have hSD := hkp.out _ hgx
              refine wpAnyH_take (i := 0) (v := .bool true) rfl (by kernel_rfl) (by kernel_rfl) (by kernel_rfl) (fun _ _ _ h => h) (Or.inl ⟨by rfl, ?_⟩) hSD ?_
              · intro w' hS'
                obtain ⟨s0, s1, s2, s3⟩ := hS'
                go_simp
              try simp only [List.getElem_toArray, List.getElem_cons_zero, Act.put, List.setIfInBounds_toArray, List.set_cons_zero, List.set_cons_succ]
              refine wpAnyH_take (i := 1) (v := .bool true) rfl (by kernel_rfl) (by kernel_rfl) (by kernel_rfl) (fun _ _ _ h => h) (Or.inl ⟨by rfl, ?_⟩) hSD ?_
              · intro w' hS'
                obtain ⟨s0, s1, s2, s3⟩ := hS'
                go_simp
              try simp only [List.getElem_toArray, List.getElem_cons_succ, List.getElem_cons_zero, Act.put, List.setIfInBounds_toArray, List.set_cons_zero, List.set_cons_succ]
              refine wpAnyH_take (i := 2) (v := undef) rfl (by kernel_rfl) (by kernel_rfl) (by kernel_rfl) (fun _ _ _ h => h) (Or.inr ⟨by rfl, rfl⟩) hSD ?_
              try simp only [List.getElem_toArray, List.getElem_cons_succ, List.getElem_cons_zero, Act.put, List.setIfInBounds_toArray, List.set_cons_zero, List.set_cons_succ]
              refine wpAnyH_take (i := 3) (v := undef) rfl (by kernel_rfl) (by kernel_rfl) (by kernel_rfl) (fun _ _ _ h => h) (Or.inr ⟨by rfl, rfl⟩) hSD ?_
              try simp only [List.getElem_toArray, List.getElem_cons_succ, List.getElem_cons_zero, Act.put, List.setIfInBounds_toArray, List.set_cons_zero, List.set_cons_succ]
              refine wpAnyH_take (i := 4) (v := undef) rfl (by kernel_rfl) (by kernel_rfl) (by kernel_rfl) (fun _ _ _ h => h) (Or.inr ⟨by rfl, rfl⟩) hSD ?_
              try simp only [List.getElem_toArray, List.getElem_cons_succ, List.getElem_cons_zero, Act.put, List.setIfInBounds_toArray, List.set_cons_zero, List.set_cons_succ]
              refine wpAnyH_take (i := 5) (v := undef) rfl (by kernel_rfl) (by kernel_rfl) (by kernel_rfl) (fun _ _ _ h => h) (Or.inr ⟨by rfl, rfl⟩) hSD ?_
              try simp only [List.getElem_toArray, List.getElem_cons_succ, List.getElem_cons_zero, Act.put, List.setIfInBounds_toArray, List.set_cons_zero, List.set_cons_succ]
              refine wpAnyH_take (i := 6) (v := undef) rfl (by kernel_rfl) (by kernel_rfl) (by kernel_rfl) (fun _ _ _ h => h) (Or.inr ⟨by rfl, rfl⟩) hSD ?_
              try simp only [List.getElem_toArray, List.getElem_cons_succ, List.getElem_cons_zero, Act.put, List.setIfInBounds_toArray, List.set_cons_zero, List.set_cons_succ]
              refine wpAnyH_take (i := 7) (v := undef) rfl (by kernel_rfl) (by kernel_rfl) (by kernel_rfl) (fun _ _ _ h => h) (Or.inr ⟨by rfl, rfl⟩) hSD ?_
              try simp only [List.getElem_toArray, List.getElem_cons_succ, List.getElem_cons_zero, Act.put, List.setIfInBounds_toArray, List.set_cons_zero, List.set_cons_succ]
              refine wpAnyH_take (i := 8) (v := .bool true) rfl (by kernel_rfl) (by kernel_rfl) (by kernel_rfl) (fun _ _ _ h => h) (Or.inl ⟨by rfl, ?_⟩) hSD ?_
              · intro w' hS'
                obtain ⟨s0, s1, s2, s3⟩ := hS'
                go_simp
              try simp only [List.getElem_toArray, List.getElem_cons_succ, List.getElem_cons_zero, Act.put, List.setIfInBounds_toArray, List.set_cons_zero, List.set_cons_succ]
              refine wpAnyH_take (i := 9) (v := .bool true) rfl (by kernel_rfl) (by kernel_rfl) (by kernel_rfl) (fun _ _ _ h => h) (Or.inl ⟨by rfl, ?_⟩) hSD ?_
              · intro w' hS'
                obtain ⟨s0, s1, s2, s3⟩ := hS'
                go_simp
              try simp only [List.getElem_toArray, List.getElem_cons_succ, List.getElem_cons_zero, Act.put, List.setIfInBounds_toArray, List.set_cons_zero, List.set_cons_succ]
              refine wpAnyH_done (by kernel_rfl) ?_ _
              go_wp2_with fail
              go_roundw
              case rel => exact ⟨j + 1, by omega, by go_num, by rw [hsoh.out], gr_trans hgr hgx⟩
              case measure => simp [intOf]; omega
            | false =>
              have hso := hsth.out
              rw [hfo, Bool.false_or] at hso
              have hsoh := Lib.hid hso
              clear hso hfo
              go_wp2_with fail
              go_region_held3 (fun w' => w'.cell? ⟨g, j * 2, none⟩ = some D[j].a ∧ w'.cell? ⟨g, j * 2 + 1, none⟩ = some D[j].b ∧ w'.cell? ⟨w1.heap.size, 0, none⟩ = some (.slice PA p.ms.length cA) ∧ w'.cell? ⟨w1.heap.size, 1, none⟩ = some (.slice PB p.ms.length cB))
                (first | exact hkp.out _ (gr_trans hgx hg6) | exact hkp.out _ hgx | go_keep)
                (first
                  | (go_at_call 17; refine (hSp.out _ hgx).mono ?_; rintro e w6 ⟨rfl, hg6⟩))
              all_goals go_wp2_with fail
              go_roundw
              case rel => exact ⟨j + 1, by omega, by go_num, by rw [hsoh.out], gr_trans hgr (gr_trans hgx hg6)⟩
              case measure => simp [intOf]; omega
          · obtain rfl : j = D.length := by omega
            rw [List.take_length, hfinh.out]
            go_wp2_with fail
            refine (hVh.out wi hgr3).mono ?_
            rintro e w6 ⟨rfl, hg6⟩
            have hg36 := gr_trans hgr3 hg6
            clear d0 d1 dlt
            obtain ⟨d0, d1, dlt⟩ := hbk.out w6 hg36
            go_wp2_with fail
            refine (hBh.out w6 hg36).mono ?_
            rintro e w7 ⟨rfl, hg7⟩
            go_wp2_with fail
            go_ret
            exact ⟨rfl, gr_trans hg3h.out (gr_trans hg36 hg7)⟩

section
open Go.ChangeShapes Go.WideShapes Go.ChangeAt Go.RowKit
open Go.ChangeMaps (open_string shut_string)
set_option maxRecDepth 100000 in
/-- The door's own heap meets the condition. -/
theorem FnLegal_door (os : Os) (args : Array Value) : laidMetH Tryd.prog Rows.fnLegalRow.laid ((World.doorLaid Tryd.prog 24 os).forCall (fun _ _ => 0) ⟨#[], args, []⟩).memory :=
  laidMetH_of_parts3 (fuel := 8) (laidMet_of_run' 8 (by kernel_rfl) (by kernel_rfl)) (by kernel_rfl) (by kernel_rfl)
set_option maxRecDepth 100000 in
theorem FnLegal_lifted (os : Os) (started : os.Started) (H : Type) (enc : TypeId × Value → H) :
    ReturnsInHanded {} Tryd.checked os 4 .any (fun w args => (Rows.fnLegalSpec.pre enc Tryd.prog Tryd.f4 [] false w args ∧ laidMetH Tryd.prog Rows.fnLegalRow.laid w) ∧ sizedMet enc Tryd.prog Tryd.f4 (OpenSpec.ofChange Rows.fnLegalSpec) false w args) (Rows.fnLegalSpec.post enc Tryd.prog Tryd.f4 false true false false) := by
  refine returnsInHanded_of_change_and (C := Tryd.checked) (X := fun w _ => laidMetH Tryd.prog Rows.fnLegalRow.laid w) (fun _ _ _ hh h => h.of_heap hh) Tryd.own started (by kernel_rfl) Tryd.func4
    (ChangeSpec.witness_shaped (enc := enc) (C := Tryd.checked) (os := os) (X := fun w _ => laidMetH Tryd.prog Rows.fnLegalRow.laid w) false (World.doorLaid Tryd.prog 24 os) #[.slice none 0 0] 8 rfl (World.shaped_of_RefB (by kernel_rfl) (by kernel_rfl)) (by kernel_rfl) (by kernel_rfl) (by kernel_rfl) (FnLegal_door os _)) ?_
  intro W base args ds gs before hval0 hW _ _ _ _
  have hval : ∀ (j : Nat) t v, Tryd.f4.params[j]? = some t → args[j]? = some v → Value.okWide Tryd.prog W .any base t v := hval0
  have hW' := hW
  obtain ⟨p, q, hA0, hV, rfl, hfz, hnd⟩ := hW
  have hA : DataW.TrodAll enc Tryd.prog W 0 (fun _ => true) true Tryd.f4.params.toList args.toList ds p := hA0
  rw [Tryd.params4] at hA hval
  obtain ⟨v0, vs0, d0, ds0, p0, q0, hargs, rfl, rfl, h0, r0⟩ := trodAll_cons hA
  obtain ⟨rfl, rfl, rfl⟩ := trodAll_nil r0
  obtain rfl : args = #[v0] := by cases args; simp_all
  obtain ⟨rfl, rfl⟩ := trodVars_none hV
  obtain ⟨A0, n0, c0, rfl⟩ := okWide_slice Tryd.underlying22 (hval 0 22 v0 rfl rfl)
  have k0 := h0
  have lt0 : ∀ x ∈ p0, x.block < W.heap.size := by obtain ⟨m, hm⟩ := k0; exact DataW.trod_lt m _ _ _ hm
  obtain ⟨z0, w0⟩ : ∃ zs, IsRow .u8 W A0 n0 c0 zs := by
    obtain ⟨fuel, hf⟩ := h0
    rcases open_ints Tryd.underlying22 Tryd.underlying5 (by kernel_rfl) hf with ⟨hcs, _⟩ | ⟨x, l, c, zs, hcs, _, hl, hm, hz, _, hcell, hwz⟩
    · simp [Value.cells] at hcs
      obtain ⟨rfl, rfl, rfl⟩ := hcs
      exact ⟨[], .inl ⟨rfl, rfl, rfl, rfl⟩⟩
    · simp [Value.cells] at hcs
      obtain ⟨rfl, rfl, rfl⟩ := hcs
      exact ⟨zs, .inr ⟨_, rfl, hl, hm, by simpa using hz, hcell, hwz⟩⟩
  clear hA0 hval0
  refine (FnLegal_walk A0 n0 c0 z0 W w0).mono fun e W' ⟨he, hg⟩ => ?_
  subst he
  have bel := below_gr hg
  exact ⟨_, rfl, _, _, _, [], _, [], hW', trodAll_mk1 (shut_bool Tryd.underlying4 _), (trodAll_cons_mk (Below.trod Tryd.laidOut (by kernel_rfl) (of_decide_eq_true (by kernel_rfl)) k0 bel lt0) trodAll_mk0), rfl, bel.frame _, fun h => by cases h⟩
end

/-- The statement. -/
theorem FnLegal_holds : Rows.FnLegalSaid :=
  OpenClaim.holds_of_wide 4 Tryd.f4 rfl rfl rfl rfl rfl rfl rfl ⟨rfl, rfl, rfl, rfl, rfl⟩ rfl rfl rfl rfl rfl (by kernel_rfl) Tryd.func4 (by kernel_rfl)
    (of_decide_eq_true (by kernel_rfl)) (by unfold Func.isWrapper; first | (rw [if_pos (by decide +kernel)]; kernel_rfl) | (rw [if_neg (by decide +kernel)]; exact ⟨rfl, rfl⟩))
    (fun os started H enc _ => FnLegal_lifted os started H enc)

/-- The card: the row, its listed variables tied to the program's text. -/
theorem FnLegal_card : Rows.FnLegalCardSaid :=
  Claim7.holds_tied_plain_at .later [] Rows.fnLegalCard.laidKinds true Rows.fnLegalCard.stood.harness Rows.fnLegalCard.stood.looks
    FnLegal_holds (fun _ h => by cases h) (by kernel_rfl) (fun _ h => by cases h) fnLegal_row_tie rfl ⟨rfl, rfl⟩ (by kernel_rfl) rfl
    (fun f fn hf hfn => by
      obtain rfl : f = 4 := Option.some.inj ((show Tryd.prog.funcNamed "loop.example/innocentgames/laws.FnLegal" = some 4 by kernel_rfl).symm.trans hf) |>.symm
      obtain rfl : fn = Tryd.f4 := (Option.some.inj (Tryd.func4.symm.trans hfn)).symm
      exact ⟨by kernel_rfl, fun j t ht => by
        rw [Tryd.params4] at ht
        have hm : t ∈ [22] := by simpa using Array.mem_of_getElem? ht
        have hall : ([22].all fun u => !Tryd.prog.wantsStandIn u) = true := by kernel_rfl
        exact (show Tryd.prog.wantsStandIn t = false by simpa using List.all_eq_true.1 hall t hm)⟩)
    (by kernel_rfl)
end Go.Proofs.YtkjkbcfifhakkaaDoor
