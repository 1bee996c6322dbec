/- PROVED: 'laws.FnNext' returns true for every input, and leaves its input as it was. No conditions. -/
import Derived.Test.YtkjkbcfifhakkaaDoorPlayApi
import Derived.Test.YtkjkbcfifhakkaaDoorPlayNextA
import Derived.Test.YtkjkbcfifhakkaaDoorPlayCut
import Derived.Test.YtkjkbcfifhakkaaDoorPlayDraw3
import Derived.Test.YtkjkbcfifhakkaaDoorSames
import Derived.Test.YtkjkbcfifhakkaaDoorCards
import Derived.Test.YtkjkbcfifhakkaaDoorTie
import Derived.SevenTiedAt
import Derived.LaidMore
import Derived.Stop.Joined
import Derived.Test.YtkjkbcfifhakkaaDoorRow
namespace Go.Proofs.YtkjkbcfifhakkaaDoor
open Go.RowKit

set_option maxHeartbeats 4000000 in
theorem FnNext_walk (A : Option Addr) (n c : Nat) (zs : List Int) (w : World) (h : IsRow .u8 w A n c zs) :
    Calls Tryd.prog 5 #[.slice A n c] w fun e w' => e = .returned (.bool true) ∧ w.grownBy w' none := by
  by_cases hl : n > 1048576
  · go_enter Tryd.func5, Tryd.ntmps5
    go_wp2_with fail
    go_ret
    exact ⟨rfl, gr_refl _ _⟩
  · go_enter Tryd.func5, Tryd.ntmps5
    go_wp2_with fail
    refine (drawPlayNext_any A n c zs w h).mono ?_
    rintro e w1 ⟨r, p, PA, cA, PB, cB, rfl, hD, hg1⟩
    have hDh := Lib.hid hD
    have hr := hD.1
    have hp9 := hD.2.1
    have hq9 := hD.2.2.1
    clear hD
    have hgb := World.grownBy_alloc w1 (.cells #[.slice PA p.ms.length cA, .slice PB p.ps.length cB] 26) none
    have hb := Blk.new w1 26 #[.slice PA p.ms.length cA, .slice PB p.ps.length cB]
    have hS := hDh.out.2.2.2.2.1
    have hsmh := Lib.hid hDh.out.small
    go_wp2_with fail
    refine (playNext_any r p PA cA PB cB _ _ (by omega) (hS.grown0 hgb) hsmh.out).mono ?_
    rintro e w2 ⟨AL, cL, D, rfl, hDs, hDp, hg2⟩
    have hb2 := hb.grown0 hg2
    have d0 := hb2.cell 0
    have d1 := hb2.cell 1
    have dlt := hb2.lt
    simp only [List.getElem?_toArray, List.getElem?_cons_zero, List.getElem?_cons_succ] at d0 d1
    go_wp2_with fail
    refine (sPlayNext_any r p PA cA PB cB _ _ (by omega) ((hS.grown0 hgb).grown0 hg2) hsmh.out).mono ?_
    rintro e w3 ⟨AM, cM, E, rfl, hEs, hEp, hg3⟩
    have hgb3 := gr_trans hgb (gr_trans hg2 hg3)
    have hg03 := gr_trans hg1 hgb3
    have hsz : ∀ j (hj : j < D.length), D[j].p.ms.length ≤ 60 ∧ D[j].p.ps.length = D[j].p.ms.length := fun j hj => legOf_len (next_el hDp hj).1
    have hszh := Lib.hid hsz
    have hSm := Lib.hid (fun (W : World) (hW : w3.grownBy W none) => samePlays_eq D E AL cL AM cM _ _ W ((hDs.keep hg3).keep hW) (hEs.keep hW) (by rw [hDp, hEp]) (fun j hj => by have := hszh.out j hj; omega))
    have hDsh := Lib.hid (hDs.keep hg3)
    have hDl := hDs.len
    unfold maxLen at hDl
    have hDph := Lib.hid hDp
    have hlen : E.length = D.length := by
      have h1 := congrArg List.length hDp
      have h2 := congrArg List.length hEp
      simp only [List.length_map] at h1 h2
      omega
    have hlenh := Lib.hid hlen
    clear hDs hEs hEp hDp hsz hlen
    cases hv : nextOk r p with
    | false =>
      clear hv
      go_wp2_with fail
      refine (hSm.out _ (gr_refl _ _)).mono ?_
      rintro e w4 ⟨rfl, hg4⟩
      go_wp2_with fail
      refine (hSm.out _ hg4).mono ?_
      rintro e w5 ⟨rfl, hg5⟩
      go_wp2_with fail
      go_ret
      exact ⟨rfl, gr_trans hg03 (gr_trans hg4 hg5)⟩
    | true =>
      have hvh := Lib.hid hv
      have hvl : legOf r p = true := by
        unfold nextOk at hv
        simp at hv
        exact hv.1
      have hll := Lib.hid (legOf_len hvl).2
      have hbk := Lib.hid (fun (W : World) (hW : w3.grownBy W none) => show W.cell? ⟨w1.heap.size, 0, none⟩ = some (.slice PA p.ms.length cA) ∧ W.cell? ⟨w1.heap.size, 1, none⟩ = some (.slice PB p.ps.length cB) ∧ w1.heap.size < W.heap.size from
        ⟨((hb2.grown0 hg3).grown0 hW).cell 0, ((hb2.grown0 hg3).grown0 hW).cell 1, ((hb2.grown0 hg3).grown0 hW).lt⟩)
      have hSh := Lib.hid (fun (W : World) (hW : w3.grownBy W none) => hS.grown0 (gr_trans hgb3 hW))
      have hg3h := Lib.hid hg03
      simp only [hll.out] at hbk
      clear hv hvl hS hb hgb hgb3 hb2 d0 d1 dlt hg03 hg1 hg2 hg3 h hq9
      obtain ⟨d0, d1, dlt⟩ := hbk.out w3 (gr_refl _ _)
      go_wp2_with fail
      refine (hSm.out _ (gr_refl _ _)).mono ?_
      rintro e w4 ⟨rfl, hg4⟩
      clear d0 d1 dlt
      obtain ⟨d0, d1, dlt⟩ := hbk.out w4 hg4
      go_wp2_with fail
      go_loopw [10] (fun i wr => ∃ (j : Nat), j ≤ D.length ∧ i = .int .i64 (j : Int) ∧ w3.grownBy wr none) (fun i _ => D.length - (intOf i).toNat)
      case atStart => exact ⟨0, Nat.zero_le _, rfl, hg4⟩
      case round =>
        obtain ⟨wi, hwi⟩ : ∃ wo, wo = wr := ⟨_, rfl⟩
        subst hwi
        obtain ⟨j, hjl, rfl, hgr⟩ := hrel
        clear d0 d1 dlt
        obtain ⟨d0, d1, dlt⟩ := hbk.out wi hgr
        by_cases hj : j < D.length
        · obtain ⟨g, cap, hvl, hgb, c0, c1⟩ := (hDsh.out.keep hgr).get hj
          injection hvl with e1 e2 e3
          subst e1 e3
          have hj0 : 0 ≤ (j : Int) := by omega
          have hj1 : (j : Int) < (D.length : Int) := by omega
          have hgx : wi.grownBy wi.drew none := gr_drew (gr_refl _ _)
          have hlt := World.block_lt_of_cell? wi ⟨g, 2 * j, none⟩ c0
          obtain ⟨hleg, m, x, hsn⟩ := next_el hDph.out hj
          have hl1 : D[j].p.ms.length = p.ms.length + 1 := by rw [hsn]; simp [Pl.snoc]
          have hl2 : D[j].p.ps.length = p.ms.length + 1 := by rw [(legOf_len hleg).2, hl1]
          have hcut : D[j].p.cut p.ms.length = p := by rw [hsn]; exact snoc_cut hll.out m x
          have hO := fun (W : World) (hW : wi.grownBy W none) => (hDsh.out.keep (gr_trans hgr hW)).2 _ (List.getElem_mem hj)
          obtain ⟨_, _, _, htr9, hlg9, hat9, _⟩ : True ∧ True ∧ ∃ t, Ty.read r = some t ∧ D[j].p.legal t = true ∧ t.atoms ≤ 15 ∧ D[j].p.ms.length ≤ 60 := ⟨trivial, trivial, legOf_some hleg⟩
          have hsmj : SmallP D[j].p := ⟨⟨by omega, fun z hz => Nat.le_trans ((legal_small hat9 hlg9).2 z hz) (by decide)⟩, by omega⟩
          have hLg := fun (W : World) (hW : wi.grownBy W none) => playLegal_any r D[j].p D[j].A D[j].cA D[j].B D[j].cB _ W (by omega) (hO W hW).sl hsmj
          have hCt := fun (W : World) (hW : wi.grownBy W none) => cutPlay_any D[j].p D[j].A D[j].cA D[j].B D[j].cB _ p.ms.length W (hO W hW).sl (by omega) (by omega) (by omega) (own_cap (hO W hW).1) (own_cap (hO W hW).2)
          have hSp := fun (W : World) (hW : wi.grownBy W none) (A' : Option Addr) (c' : Nat) (B' : Option Addr) (d' : Nat) (F : Nat → Prop) (k : PlS W F p A' B') => samePlay_any p p A' c' B' d' PA cA PB cB F _ W k (hSh.out W (gr_trans hgr hW)) (by omega) (by have := hll.out; omega) (by omega) (by have := hll.out; omega)
          have hkp0 := fun (W : World) (hW : wi.grownBy W none) => show W.cell? ⟨g, j * 2, none⟩ = some (.slice D[j].A D[j].p.ms.length D[j].cA) ∧ W.cell? ⟨g, j * 2 + 1, none⟩ = some (.slice D[j].B D[j].p.ps.length D[j].cB) ∧ W.cell? ⟨w1.heap.size, 0, none⟩ = some (.slice PA p.ms.length cA) ∧ W.cell? ⟨w1.heap.size, 1, none⟩ = some (.slice PB p.ms.length cB) from by
            rw [Nat.mul_comm j 2]
            exact ⟨(World.cell?_of_block (w := wi) (a := ⟨g, 2 * j, none⟩) (hW.block g hlt (by simp))).trans c0, (World.cell?_of_block (w := wi) (a := ⟨g, 2 * j + 1, none⟩) (hW.block g hlt (by simp))).trans c1, (hbk.out W (gr_trans hgr hW)).1, (hbk.out W (gr_trans hgr hW)).2.1⟩
          simp only [hleg, hl1, hl2] at hLg
          simp only [hcut, hl1, hl2, hll.out] at hCt
          simp only [plEq_self, hll.out] at hSp
          simp only [hl1, hl2] at hkp0
          have hne : ((p.ms.length + 1 : Nat) : Int) = (p.ms.length : Int) + 1 := by omega
          have hLgh := Lib.hid hLg
          have hCth := Lib.hid hCt
          have hSph := Lib.hid hSp
          have hkp := Lib.hid hkp0
          clear c0 c1 hlt hsn hl1 hl2 hcut hO htr9 hlg9 hat9 hsmj hLg hCt hSp hkp0 hleg
          obtain ⟨c0, c1, _, _⟩ := hkp.out wi (gr_refl _ _)
          have hbig : p.ms.length + 1 ≤ 10 := by omega
          have hne2 : (((p.ms.length + 1 : Nat) : Int) == (p.ms.length : Int) + 1) = true := by rw [beq_iff_eq]; exact hne
          have hne3 : (((p.ms.length + 1 : Nat) : Int) != (p.ms.length : Int) + 1) = false := by rw [hne]; exact bne_self_eq_false _
          have hwr : IntKind.i64.wrap ((p.ms.length : Int) + 1) = (p.ms.length : Int) + 1 := IntWalk.i64_in _ (by omega)
          generalize hDA : D[j].A = xA at *
          generalize hDB : D[j].B = xB at *
          generalize hDcA : D[j].cA = xcA at *
          generalize hDcB : D[j].cB = xcB at *
          clear hDA hDB hDcA hDcB hne
          generalize p.ms.length + 1 = N at *
          go_wp2_with fail
          go_region_held3 (fun w' => w'.cell? ⟨g, j * 2, none⟩ = some (.slice xA N xcA) ∧ w'.cell? ⟨g, j * 2 + 1, none⟩ = some (.slice xB N xcB) ∧ w'.cell? ⟨w1.heap.size, 0, none⟩ = some (.slice PA p.ms.length cA) ∧ w'.cell? ⟨w1.heap.size, 1, none⟩ = some (.slice PB p.ms.length cB))
            (first | exact hkp.out _ (gr_trans hgx (gr_trans hg6 (gr_trans hg7 hg8))) | exact hkp.out _ (gr_trans hgx (gr_trans hg6 hg7)) | exact hkp.out _ (gr_trans hgx hg6) | exact hkp.out _ hgx | go_keep)
            (first
              | (go_at_call 12; refine (hLgh.out _ hgx).mono ?_; rintro e w6 ⟨rfl, hg6⟩)
              | (go_at_call 10; refine (hCth.out _ (gr_trans hgx hg6)).mono ?_; rintro e w7 ⟨A', cA', B', cB', rfl, hO, hg7⟩)
              | (go_at_call 17; refine (hSph.out _ (gr_trans hgx (gr_trans hg6 hg7)) _ _ _ _ _ hO.sl).mono ?_; rintro e w8 ⟨rfl, hg8⟩))
          go_wp2_with fail
          have hg8w := gr_trans hgr (gr_trans hgx (gr_trans hg6 (gr_trans hg7 hg8)))
          clear hLgh hCth hSph
          go_loopw [11] (fun i wr => ∃ (k : Nat), k ≤ j ∧ i = .int .i64 (k : Int) ∧ w3.grownBy wr none) (fun i _ => j - (intOf i).toNat)
          case atStart => exact ⟨0, Nat.zero_le _, rfl, hg8w⟩
          case round =>
            clear hkp c0 c1 hgr hgx hg6 hg7 hg8 hg8w hO hbig hne2 hne3 hwr
            obtain ⟨wj, hwj⟩ : ∃ wo, wo = wr := ⟨_, rfl⟩
            subst hwj
            obtain ⟨k, hkl, rfl, hgr⟩ := hrel
            by_cases hk : k < j
            · have hk2 : k < D.length := by omega
              obtain ⟨g2, cap2, hvl, _, c0, c1⟩ := (hDsh.out.keep hgr).get hj
              have hgg : g2 = g := by cases hvl; rfl
              rw [hgg] at c0 c1
              clear hvl hgg
              obtain ⟨g3, cap3, hvl, _, k0, k1⟩ := (hDsh.out.keep hgr).get hk2
              have hgg : g3 = g := by cases hvl; rfl
              rw [hgg] at k0 k1
              clear hvl hgg
              have hk0 : 0 ≤ (k : Int) := by omega
              have hk1 : (k : Int) < (D.length : Int) := by omega
              have hkj : (k : Int) < (j : Int) := by omega
              have hgx : wj.grownBy wj.drew none := gr_drew (gr_refl _ _)
              have hlt := World.block_lt_of_cell? wj ⟨g, 2 * j, none⟩ c0
              have hSp := fun (W : World) (hW : wj.grownBy W none) => samePlay_any D[j].p D[k].p D[j].A D[j].cA D[j].B D[j].cB D[k].A D[k].cA D[k].B D[k].cB _ _ W ((hDsh.out.keep (gr_trans hgr hW)).2 _ (List.getElem_mem hj)).sl ((hDsh.out.keep (gr_trans hgr hW)).2 _ (List.getElem_mem hk2)).sl (by have := hszh.out j hj; omega) (by have := hszh.out j hj; omega) (by have := hszh.out k hk2; omega) (by have := hszh.out k hk2; omega)
              rw [next_ne hDph.out hk hj] at hSp
              have hSph := Lib.hid hSp
              have hkp := Lib.hid (fun (W : World) (hW : wj.grownBy W none) => show W.cell? ⟨g, j * 2, none⟩ = some D[j].a ∧ W.cell? ⟨g, j * 2 + 1, none⟩ = some D[j].b ∧ W.cell? ⟨g, k * 2, none⟩ = some D[k].a ∧ W.cell? ⟨g, k * 2 + 1, none⟩ = some D[k].b from by
                rw [Nat.mul_comm j 2, Nat.mul_comm k 2]
                exact ⟨(World.cell?_of_block (w := wj) (a := ⟨g, 2 * j, none⟩) (hW.block g hlt (by simp))).trans c0, (World.cell?_of_block (w := wj) (a := ⟨g, 2 * j + 1, none⟩) (hW.block g hlt (by simp))).trans c1, (World.cell?_of_block (w := wj) (a := ⟨g, 2 * k, none⟩) (hW.block g hlt (by simp))).trans k0, (World.cell?_of_block (w := wj) (a := ⟨g, 2 * k + 1, none⟩) (hW.block g hlt (by simp))).trans k1⟩)
              clear c0 c1 k0 k1 hSp hlt
              obtain ⟨c0, c1, k0, k1⟩ := hkp.out wj (gr_refl _ _)
              go_wp2_with fail
              go_region_held3 (fun w' => w'.cell? ⟨g, j * 2, none⟩ = some D[j].a ∧ w'.cell? ⟨g, j * 2 + 1, none⟩ = some D[j].b ∧ w'.cell? ⟨g, k * 2, none⟩ = some D[k].a ∧ w'.cell? ⟨g, k * 2 + 1, none⟩ = some D[k].b)
                (first | exact hkp.out _ (gr_trans hgx hg6) | exact hkp.out _ hgx | go_keep)
                (first
                  | (go_at_call 17; refine (hSph.out _ hgx).mono ?_; rintro e w6 ⟨rfl, hg6⟩))
              go_wp2_with fail
              go_roundw
              case rel => exact ⟨k + 1, by omega, by go_num, gr_trans hgr (gr_trans hgx hg6)⟩
              case measure => simp [intOf]; omega
            · obtain rfl : k = j := by omega
              go_wp2_with fail
              go_roundw
              case rel => exact ⟨k + 1, by omega, by go_num, hgr⟩
              case measure => simp [intOf]; omega
        · obtain rfl : j = D.length := by omega
          go_wp2_with fail
          go_ret
          exact ⟨rfl, gr_trans hg3h.out hgr⟩

section
open Go.ChangeShapes Go.WideShapes Go.ChangeAt Go.RowKit
open Go.ChangeMaps (open_string shut_string)
set_option maxRecDepth 100000 in
/-- The door's own heap meets the condition. -/
theorem FnNext_door (os : Os) (args : Array Value) : laidMetH Tryd.prog Rows.fnNextRow.laid ((World.doorLaid Tryd.prog 24 os).forCall (fun _ _ => 0) ⟨#[], args, []⟩).memory :=
  laidMetH_of_parts3 (fuel := 8) (laidMet_of_run' 8 (by kernel_rfl) (by kernel_rfl)) (by kernel_rfl) (by kernel_rfl)
set_option maxRecDepth 100000 in
theorem FnNext_lifted (os : Os) (started : os.Started) (H : Type) (enc : TypeId × Value → H) :
    ReturnsInHanded {} Tryd.checked os 5 .any (fun w args => (Rows.fnNextSpec.pre enc Tryd.prog Tryd.f5 [] false w args ∧ laidMetH Tryd.prog Rows.fnNextRow.laid w) ∧ sizedMet enc Tryd.prog Tryd.f5 (OpenSpec.ofChange Rows.fnNextSpec) false w args) (Rows.fnNextSpec.post enc Tryd.prog Tryd.f5 false true false false) := by
  refine returnsInHanded_of_change_and (C := Tryd.checked) (X := fun w _ => laidMetH Tryd.prog Rows.fnNextRow.laid w) (fun _ _ _ hh h => h.of_heap hh) Tryd.own started (by kernel_rfl) Tryd.func5
    (ChangeSpec.witness_shaped (enc := enc) (C := Tryd.checked) (os := os) (X := fun w _ => laidMetH Tryd.prog Rows.fnNextRow.laid w) false (World.doorLaid Tryd.prog 24 os) #[.slice none 0 0] 8 rfl (World.shaped_of_RefB (by kernel_rfl) (by kernel_rfl)) (by kernel_rfl) (by kernel_rfl) (by kernel_rfl) (FnNext_door os _)) ?_
  intro W base args ds gs before hval0 hW _ _ _ _
  have hval : ∀ (j : Nat) t v, Tryd.f5.params[j]? = some t → args[j]? = some v → Value.okWide Tryd.prog W .any base t v := hval0
  have hW' := hW
  obtain ⟨p, q, hA0, hV, rfl, hfz, hnd⟩ := hW
  have hA : DataW.TrodAll enc Tryd.prog W 0 (fun _ => true) true Tryd.f5.params.toList args.toList ds p := hA0
  rw [Tryd.params5] at hA hval
  obtain ⟨v0, vs0, d0, ds0, p0, q0, hargs, rfl, rfl, h0, r0⟩ := trodAll_cons hA
  obtain ⟨rfl, rfl, rfl⟩ := trodAll_nil r0
  obtain rfl : args = #[v0] := by cases args; simp_all
  obtain ⟨rfl, rfl⟩ := trodVars_none hV
  obtain ⟨A0, n0, c0, rfl⟩ := okWide_slice Tryd.underlying22 (hval 0 22 v0 rfl rfl)
  have k0 := h0
  have lt0 : ∀ x ∈ p0, x.block < W.heap.size := by obtain ⟨m, hm⟩ := k0; exact DataW.trod_lt m _ _ _ hm
  obtain ⟨z0, w0⟩ : ∃ zs, IsRow .u8 W A0 n0 c0 zs := by
    obtain ⟨fuel, hf⟩ := h0
    rcases open_ints Tryd.underlying22 Tryd.underlying5 (by kernel_rfl) hf with ⟨hcs, _⟩ | ⟨x, l, c, zs, hcs, _, hl, hm, hz, _, hcell, hwz⟩
    · simp [Value.cells] at hcs
      obtain ⟨rfl, rfl, rfl⟩ := hcs
      exact ⟨[], .inl ⟨rfl, rfl, rfl, rfl⟩⟩
    · simp [Value.cells] at hcs
      obtain ⟨rfl, rfl, rfl⟩ := hcs
      exact ⟨zs, .inr ⟨_, rfl, hl, hm, by simpa using hz, hcell, hwz⟩⟩
  clear hA0 hval0
  refine (FnNext_walk A0 n0 c0 z0 W w0).mono fun e W' ⟨he, hg⟩ => ?_
  subst he
  have bel := below_gr hg
  exact ⟨_, rfl, _, _, _, [], _, [], hW', trodAll_mk1 (shut_bool Tryd.underlying4 _), (trodAll_cons_mk (Below.trod Tryd.laidOut (by kernel_rfl) (of_decide_eq_true (by kernel_rfl)) k0 bel lt0) trodAll_mk0), rfl, bel.frame _, fun h => by cases h⟩
end

/-- The statement. -/
theorem FnNext_holds : Rows.FnNextSaid :=
  OpenClaim.holds_of_wide 5 Tryd.f5 rfl rfl rfl rfl rfl rfl rfl ⟨rfl, rfl, rfl, rfl, rfl⟩ rfl rfl rfl rfl rfl (by kernel_rfl) Tryd.func5 (by kernel_rfl)
    (of_decide_eq_true (by kernel_rfl)) (by unfold Func.isWrapper; first | (rw [if_pos (by decide +kernel)]; kernel_rfl) | (rw [if_neg (by decide +kernel)]; exact ⟨rfl, rfl⟩))
    (fun os started H enc _ => FnNext_lifted os started H enc)

/-- The card: the row, its listed variables tied to the program's text. -/
theorem FnNext_card : Rows.FnNextCardSaid :=
  Claim7.holds_tied_plain_at .later [] Rows.fnNextCard.laidKinds true Rows.fnNextCard.stood.harness Rows.fnNextCard.stood.looks
    FnNext_holds (fun _ h => by cases h) (by kernel_rfl) (fun _ h => by cases h) fnNext_row_tie rfl ⟨rfl, rfl⟩ (by kernel_rfl) rfl
    (fun f fn hf hfn => by
      obtain rfl : f = 5 := Option.some.inj ((show Tryd.prog.funcNamed "loop.example/innocentgames/laws.FnNext" = some 5 by kernel_rfl).symm.trans hf) |>.symm
      obtain rfl : fn = Tryd.f5 := (Option.some.inj (Tryd.func5.symm.trans hfn)).symm
      exact ⟨by kernel_rfl, fun j t ht => by
        rw [Tryd.params5] at ht
        have hm : t ∈ [22] := by simpa using Array.mem_of_getElem? ht
        have hall : ([22].all fun u => !Tryd.prog.wantsStandIn u) = true := by kernel_rfl
        exact (show Tryd.prog.wantsStandIn t = false by simpa using List.all_eq_true.1 hall t hm)⟩)
    (by kernel_rfl)
end Go.Proofs.YtkjkbcfifhakkaaDoor
