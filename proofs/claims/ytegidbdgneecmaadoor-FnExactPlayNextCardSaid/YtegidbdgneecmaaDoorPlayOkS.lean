/- Plays of a type: the reference's reader. -/
import Derived.Test.YtegidbdgneecmaaDoorPlayOk
namespace Go.Proofs.YtegidbdgneecmaaDoor
open Go.RowKit

set_option maxHeartbeats 2000000 in
theorem l2Valid_any (t : Ty) (T : Option Addr) (c0 : Nat) (p : Pl) (A : Option Addr) (cA : Nat) (B : Option Addr) (cB : Nat) (F G : Nat → Prop) (w : World) (hk : TreeV w F (.slice T t.args.length c0) t) (ht : t.atoms ≤ 15) (h : PlS w G p A B) (hsm : SmallP p) :
    Calls Tryd.prog 49 #[.agg #[.slice T t.args.length c0], .agg #[.slice A p.ms.length cA, .slice B p.ps.length cB]] w fun e w' => e = .returned (.bool (p.ok t)) ∧ w.grownBy w' none := by
  obtain ⟨⟨hs1, hs2⟩, hs3⟩ := hsm
  have hs2h := Lib.hid hs2
  clear hs2
  have hg00 := World.grownBy_alloc w (.cells #[.slice T t.args.length c0] 41) none
  have hg0 := gr_alloc hg00 (.cells #[.slice A p.ms.length cA, .slice B p.ps.length cB] 30)
  by_cases hl60 : p.ms.length > 60
  · have hR := Lib.hid (show p.ok t = false by rw [Bool.eq_false_iff]; intro hp; have := (Pl.ok_iff.1 hp).1; omega)
    go_enter Tryd.func49, Tryd.ntmps49
    go_wp2_with fail
    go_ret
    exact ⟨by rw [hR.out]; rfl, hg0⟩
  by_cases hl0 : p.ps.length ≠ p.ms.length
  · have hb : ((p.ps.length : Int) != (p.ms.length : Int)) = true := by rw [bne_iff_ne]; omega
    have hR := Lib.hid (show p.ok t = false by rw [Bool.eq_false_iff]; intro hp; have := (Pl.ok_iff.1 hp).2.1; omega)
    go_enter Tryd.func49, Tryd.ntmps49
    go_wp2_with fail
    go_ret
    exact ⟨by rw [hR.out]; rfl, hg0⟩
  have hll : p.ps.length = p.ms.length := by omega
  have hbx := Blk.new (w.alloc (.cells #[.slice T t.args.length c0] 41)) 30 #[.slice A p.ms.length cA, .slice B p.ps.length cB]
  have hbt := (Blk.new w 41 #[.slice T t.args.length c0]).alloc (.cells #[.slice A p.ms.length cA, .slice B p.ps.length cB] 30)
  rw [World.size_alloc] at hbx
  have hk0 := hk.grown0 hg0
  have h0 := h.grown0 hg0
  obtain ⟨hA, hB⟩ := h0
  rw [hll] at hA hB hk0 hg0 hbx hbt ⊢
  have hllh := Lib.hid hll
  clear hll h hk hl0
  go_enter Tryd.func49, Tryd.ntmps49
  go_wp2_with fail
  go_loopw [5] (fun i wr => ∃ (k : Nat), k ≤ p.ms.length ∧ i = .int .i64 (k : Int) ∧ (∀ j, j < k → Pl.okAt t p j = true) ∧ w.grownBy wr none ∧ ((w.alloc (.cells #[.slice T t.args.length c0] 41)).alloc (.cells #[.slice A p.ms.length cA, .slice B p.ms.length cB] 30)).grownBy wr none) (fun i _ => p.ms.length - (intOf i).toNat)
  case atStart => exact ⟨0, Nat.zero_le _, rfl, fun j hj => absurd hj (by omega), hg0, gr_refl _ _⟩
  case round =>
    obtain ⟨k, hkl, rfl, hall, hgw, hgx⟩ := hrel
    have hallh := Lib.hid hall
    have hbw := hbx.grown0 hgx
    have hbu := hbt.grown0 hgx
    have d0 := hbw.cell 0
    have d1 := hbw.cell 1
    have t0 := hbu.cell 0
    simp only [List.getElem?_toArray, List.getElem?_cons_zero, List.getElem?_cons_succ] at d0 d1 t0
    clear hall
    by_cases hlt : k < p.ms.length
    · have hpl : k < p.ps.length := by rw [hllh.out]; exact hlt
      obtain ⟨g, o, rfl, _, hcell⟩ := (hA.grown0 hgx) (by omega)
      obtain ⟨g2, o2, rfl, _, hcell2⟩ := (hB.grown0 hgx) (by omega)
      have c1 := hcell k hlt
      have c2 := hcell2 k hlt
      have gl1 : g < wr.heap.size := World.block_lt_of_cell? wr ⟨g, o + k, none⟩ c1
      have gl2 : g2 < wr.heap.size := World.block_lt_of_cell? wr ⟨g2, o2 + k, none⟩ c2
      rw [sv_lt p.ms hlt, ← mv_lt hlt] at c1
      rw [iv_lt p.ps hpl, ← pt_lt hpl] at c2
      have hml : (p.mv k).length ≤ 1048576 := by rw [mv_lt hlt]; exact hs2h.out _ (List.getElem_mem hlt)
      have hcellh := Lib.hid hcell
      have hmv := l1Move_any t T c0 (p.mv k) _ wr (hk0.grown0 hgx) ht (by omega)
      have keep := Lib.hid (fun (W : World) (hW : wr.grownBy W none) => show W.cell? ⟨g2, o2 + k, none⟩ = some (.int .i64 (p.pt k)) ∧ W.cell? ⟨w.heap.size + 1, 0, none⟩ = some (.slice (some ⟨g, o, none⟩) p.ms.length cA) ∧ W.cell? ⟨w.heap.size + 1, 1, none⟩ = some (.slice (some ⟨g2, o2, none⟩) p.ms.length cB) from
        ⟨(World.cell?_of_block (w := wr) (a := ⟨g2, o2 + k, none⟩) (hW.block g2 gl2 (by simp))).trans c2, (World.cell?_of_block (w := wr) (a := ⟨w.heap.size + 1, 0, none⟩) (hW.block _ hbw.lt (by simp))).trans d0, (World.cell?_of_block (w := wr) (a := ⟨w.heap.size + 1, 1, none⟩) (hW.block _ hbw.lt (by simp))).trans d1⟩)
      clear hcell hcell2
      cases h1 : isMove t (p.mv k) with
      | false =>
        have hR := Lib.hid (ok_false hlt (okAt_isMove h1))
        rw [h1] at hmv
        have hm3 := Lib.hid hmv
        clear h1 hmv
        generalize p.mv k = m at *
        generalize p.pt k = x at *
        go_wp2_with fail
        refine hm3.out.mono ?_
        rintro e w2 ⟨rfl, hg2⟩
        go_wp2_with fail
        go_ret
        exact ⟨by rw [hR.out]; rfl, gr_trans hgw hg2⟩
      | true =>
        obtain ⟨c, r, hcr⟩ := isMove_cons' h1
        rw [h1] at hmv
        obtain ⟨e, he⟩ : ∃ e, (k % 2 == 0) = e := ⟨_, rfl⟩
        have hmo : mOpp (p.mv k) = byOpp c r := by rw [hcr]; rfl
        have hrl : r.length ≤ 1048576 := by have := hml; rw [hcr] at this; simp at this; omega
        have hfalse := Lib.hid (fun h => ok_false (p := p) (t := t) hlt h)
        have hok : byOpp c r = e → Pl.okAt t p k = (if k = 0 then c :: r == [113] && p.pt k == -1 else decide (0 ≤ p.pt k) && decide (p.pt k < k) && p.mv (p.pt k).toNat == enab c r) := by
          intro hw
          unfold Pl.okAt
          rw [h1, hmo, hw, he]
          by_cases hk0 : k = 0
          · subst hk0
            rw [hcr]; simp
          · rw [if_neg hk0, if_neg hk0, hcr]; simp [mEn]
        have hmvj := Lib.hid (fun (j : Nat) (hj : j < k) => show isMove t (p.mv j) = true from (Pl.okAt_iff.1 (hallh.out j hj)).1)
        have hcj := Lib.hid (fun (W : World) (hW : wr.grownBy W none) (j : Nat) (hj : j < k) => show W.cell? ⟨g, o + j, none⟩ = some (.string ⟨(p.mv j).toArray⟩) by
          have h := hcellh.out j (by omega)
          rw [sv_lt p.ms (by omega), ← mv_lt (by omega)] at h
          exact (World.cell?_of_block (w := wr) (a := ⟨g, o + j, none⟩) (hW.block g gl1 (by simp))).trans h)
        rw [hcr] at c1 hmv
        have hm3 := Lib.hid hmv
        have hokh := Lib.hid hok
        have hmoh := Lib.hid hmo
        have heh := Lib.hid he
        clear hok hmo he h1 hcr hml hcellh hbw hbu hmv
        generalize p.pt k = x at *
        by_cases hw : byOpp c r = e
        · have hokh2 := Lib.hid (hokh.out hw)
          have hwho : who c r = (k : Int) % 2 := by
            unfold who
            rw [hw, ← heh.out]
            cases hz : (k % 2 == 0)
            · have := par_odd hz; rw [this]; rfl
            · have := par_even hz; rw [this]; rfl
          have hB2 := fun W => l1Player_any c r W (by omega)
          rw [hwho] at hB2
          have hB3 := Lib.hid hB2
          clear hokh hw hwho hB2
          by_cases hz : k = 0
          · subst hz
            simp only [Nat.add_zero] at c1 c2 keep
            have hok0 := hokh2.out
            rw [if_pos rfl] at hok0
            have hok0h := Lib.hid hok0
            clear hok0
            cases hq : (c :: r == [113]) with
            | false =>
              have hq2 : (c :: r != [113]) = true := by rw [bne, hq]; rfl
              have hR := Lib.hid (hfalse.out (by rw [hok0h.out, hq]; rfl))
              go_wp2_with fail
              refine hm3.out.mono ?_
              rintro e w2 ⟨rfl, hg2⟩
              obtain ⟨q2, q0, q1⟩ := keep.out w2 hg2
              have qlt := gr_trans hgw hg2
              go_wp2_with fail
              refine (hB3.out w2).mono ?_
              rintro e w' ⟨rfl, rfl⟩
              go_wp2_with fail
              go_ret
              exact ⟨by rw [hR.out]; rfl, qlt⟩
            | true =>
              by_cases hx : x = -1
              · subst hx
                have hR := Lib.hid (show Pl.okAt t p 0 = true by rw [hok0h.out, hq]; rfl)
                obtain ⟨rfl, rfl⟩ := List.cons.inj (beq_iff_eq.1 hq)
                clear hq
                go_wp2_with fail
                refine hm3.out.mono ?_
                rintro e w2 ⟨rfl, hg2⟩
                obtain ⟨q2, q0, q1⟩ := keep.out w2 hg2
                have qlt := gr_trans hgw hg2
                go_wp2_with fail
                refine (hB3.out w2).mono ?_
                rintro e w' ⟨rfl, rfl⟩
                go_wp2_with fail
                go_roundw
                case rel =>
                  refine ⟨1, by omega, by go_num, fun j hj => ?_, qlt, gr_trans hgx hg2⟩
                  obtain rfl : j = 0 := by omega
                  exact hR.out
                case measure => simp [intOf]; omega
              · have hx1 : (x == -1) = false := by rw [beq_eq_false_iff_ne]; exact hx
                have hx2 : (x != -1) = true := by rw [bne_iff_ne]; exact hx
                have hR := Lib.hid (hfalse.out (by rw [hok0h.out, hx1]; simp))
                obtain ⟨rfl, rfl⟩ := List.cons.inj (beq_iff_eq.1 hq)
                clear hq hx
                go_wp2_with fail
                refine hm3.out.mono ?_
                rintro e w2 ⟨rfl, hg2⟩
                obtain ⟨q2, q0, q1⟩ := keep.out w2 hg2
                have qlt := gr_trans hgw hg2
                go_wp2_with fail
                refine (hB3.out w2).mono ?_
                rintro e w' ⟨rfl, rfl⟩
                go_wp2_with fail
                go_ret
                exact ⟨by rw [hR.out]; rfl, qlt⟩
          · have hok0 := hokh2.out
            rw [if_neg hz] at hok0
            have hok0h := Lib.hid hok0
            have hz1 : ((k : Int) == 0) = false := by rw [beq_eq_false_iff_ne]; omega
            clear hok0
            by_cases hx : 0 ≤ x ∧ x ≤ (k : Int) - 1
            · obtain ⟨hx1, hx2⟩ := hx
              obtain ⟨j, rfl⟩ := Int.eq_ofNat_of_zero_le hx1
              have hjk : j < k := by omega
              have hj1 := hmvj.out j hjk
              have hok1 := hok0h.out
              rw [show decide (0 ≤ (j : Int)) = true by rw [decide_eq_true_eq]; omega, show decide ((j : Int) < (k : Int)) = true by rw [decide_eq_true_eq]; omega, Int.toNat_natCast] at hok1
              have hcw := Lib.hid (fun W hW => hcj.out W hW j hjk)
              obtain ⟨c', r', hcr'⟩ := isMove_cons' hj1
              have hcw2 := hcw.out
              rw [hcr'] at hcw2 hok1
              have hcw3 := Lib.hid hcw2
              have hok1h := Lib.hid hok1
              have hjg : j < p.ms.length := by omega
              have hj3 : 0 ≤ (j : Int) := by omega
              have hL := Lib.hid (fun W => show Calls Tryd.prog 61 #[.int .i64 (j : Int), .int .i64 0, .int .i64 ((k : Int) - 1)] W fun e w' => e = .returned (.bool true) ∧ W = w' from by
                have h := l6In_any (j : Int) 0 ((k : Int) - 1) W
                rw [show (decide (0 ≤ (j : Int)) && decide ((j : Int) ≤ (k : Int) - 1)) = true by rw [Bool.and_eq_true, decide_eq_true_eq, decide_eq_true_eq]; omega] at h
                exact h)
              have hE := Lib.hid (fun W => l1Enabler_any c r W (by omega))
              clear hok1 hj1 hcr' hcw2 hcw hx1 hx2
              cases hq2 : (c' :: r' == enab c r) with
              | true =>
                have hq3 : (c' :: r' != enab c r) = false := by rw [bne, hq2]; rfl
                have hR := Lib.hid (show Pl.okAt t p k = true by rw [hok1h.out, hq2]; rfl)
                generalize enab c r = y at *
                go_wp2_with fail
                refine hm3.out.mono ?_
                rintro e w2 ⟨rfl, hg2⟩
                obtain ⟨q2, q0, q1⟩ := keep.out w2 hg2
                have qlt := gr_trans hgw hg2
                go_wp2_with fail
                refine (hB3.out w2).mono ?_
                rintro e w' ⟨rfl, rfl⟩
                have hcm := hcw3.out w2 hg2
                go_wp2_with fail
                go_quiet ((first | (go_at_call 61; exact quiet_eq (hL.out _)) | (go_at_call 39; exact quiet_eq (hE.out _))))
                go_wp2_with fail
                go_roundw
                case rel =>
                  refine ⟨k + 1, by omega, by go_num, fun i hi => ?_, gr_drewN qlt _, gr_drewN (gr_trans hgx hg2) _⟩
                  by_cases hik : i = k
                  · subst hik; exact hR.out
                  · exact hallh.out i (by omega)
                case measure => simp [intOf]; omega
              | false =>
                have hq3 : (c' :: r' != enab c r) = true := by rw [bne, hq2]; rfl
                have hR := Lib.hid (hfalse.out (by rw [hok1h.out, hq2]; rfl))
                generalize enab c r = y at *
                go_wp2_with fail
                refine hm3.out.mono ?_
                rintro e w2 ⟨rfl, hg2⟩
                obtain ⟨q2, q0, q1⟩ := keep.out w2 hg2
                have qlt := gr_trans hgw hg2
                go_wp2_with fail
                refine (hB3.out w2).mono ?_
                rintro e w' ⟨rfl, rfl⟩
                have hcm := hcw3.out w2 hg2
                go_wp2_with fail
                go_quiet ((first | (go_at_call 61; exact quiet_eq (hL.out _)) | (go_at_call 39; exact quiet_eq (hE.out _))))
                go_wp2_with fail
                go_ret
                exact ⟨by rw [hR.out]; rfl, gr_drewN qlt _⟩
            · have hR := Lib.hid (hfalse.out (by
                rw [hok0h.out]
                by_cases h1 : 0 ≤ x
                · rw [show decide (x < (k : Int)) = false by rw [decide_eq_false_iff_not]; omega]; simp
                · rw [show decide (0 ≤ x) = false by rw [decide_eq_false_iff_not]; omega]; rfl))
              have hL := Lib.hid (fun W => show Calls Tryd.prog 61 #[.int .i64 x, .int .i64 0, .int .i64 ((k : Int) - 1)] W fun e w' => e = .returned (.bool false) ∧ W = w' from by
                have h := l6In_any x 0 ((k : Int) - 1) W
                rw [show (decide (0 ≤ x) && decide (x ≤ (k : Int) - 1)) = false by rw [Bool.eq_false_iff, ne_eq, Bool.and_eq_true, decide_eq_true_eq, decide_eq_true_eq]; exact hx] at h
                exact h)
              clear hx
              go_wp2_with fail
              refine hm3.out.mono ?_
              rintro e w2 ⟨rfl, hg2⟩
              obtain ⟨q2, q0, q1⟩ := keep.out w2 hg2
              have qlt := gr_trans hgw hg2
              go_wp2_with fail
              refine (hB3.out w2).mono ?_
              rintro e w' ⟨rfl, rfl⟩
              go_wp2_with fail
              go_quiet ((go_at_call 61; exact quiet_eq (hL.out _)))
              go_wp2_with fail
              go_ret
              exact ⟨by rw [hR.out]; rfl, gr_drewN qlt _⟩
        · have hwho : (who c r != (k : Int) % 2) = true := by
            rw [bne_iff_ne]
            intro h
            refine hw ?_
            rw [← heh.out]
            unfold who at h
            cases hz : (k % 2 == 0)
            · have := par_odd hz; rw [this] at h; cases hq : byOpp c r <;> rw [hq] at h <;> simp at h ⊢
            · have := par_even hz; rw [this] at h; cases hq : byOpp c r <;> rw [hq] at h <;> simp at h ⊢
          have hR := Lib.hid (hfalse.out (okAt_who (by rw [hmoh.out, heh.out]; exact hw)))
          have hB3 := Lib.hid (fun W => l1Player_any c r W (by omega))
          clear hw
          go_wp2_with fail
          refine hm3.out.mono ?_
          rintro e w2 ⟨rfl, hg2⟩
          go_wp2_with fail
          refine (hB3.out w2).mono ?_
          rintro e w' ⟨rfl, rfl⟩
          go_wp2_with fail
          go_ret
          exact ⟨by rw [hR.out]; rfl, gr_trans hgw hg2⟩
    · obtain rfl : k = p.ms.length := by omega
      have hR := Lib.hid (show p.ok t = true from Pl.ok_iff.2 ⟨by omega, hllh.out, hallh.out⟩)
      go_wp2_with fail
      go_ret
      exact ⟨by rw [hR.out]; rfl, hgw⟩
set_option maxHeartbeats 400000 in
theorem sPlayValid_any (r : List UInt8) (p : Pl) (A : Option Addr) (cA : Nat) (B : Option Addr) (cB : Nat) (G : Nat → Prop) (w : World) (hr : r.length ≤ 1099511627776) (h : PlS w G p A B) (hsm : SmallP p) :
    Calls Tryd.prog 31 #[.string ⟨r.toArray⟩, .agg #[.slice A p.ms.length cA, .slice B p.ps.length cB]] w fun e w' => e = .returned (.bool (playOf r p)) ∧ w.grownBy w' none := by
  have hg0 := World.grownBy_alloc w (.cells #[.slice A p.ms.length cA, .slice B p.ps.length cB] 30) none
  have hbx := Blk.new w 30 #[.slice A p.ms.length cA, .slice B p.ps.length cB]
  have hsmh := Lib.hid hsm
  clear hsm
  go_enter Tryd.func31, Tryd.ntmps31
  go_wp2_with fail
  refine (l1Type_any r _ hr).mono ?_
  rintro e w1 ⟨hg, hm1⟩
  have hg1 := gr_trans hg0 hg
  cases hp : Ty.read r with
  | none =>
    have hV := Lib.hid (show playOf r p = false by unfold playOf; rw [hp])
    rw [hp] at hm1
    obtain ⟨t, T, c, rfl, ht⟩ := hm1
    clear hp
    go_wp2_with fail
    go_ret
    exact ⟨by rw [hV.out]; rfl, gr_alloc hg1 _⟩
  | some t =>
    have hV := Lib.hid (show playOf r p = p.ok t by unfold playOf; rw [hp])
    have ha := (Ty.read_some hp).2
    rw [hp] at hm1
    obtain ⟨T, c, rfl, ht⟩ := hm1
    clear hp
    have hg2 := World.grownBy_alloc w1 (.cells #[.slice T t.args.length c] 41) none
    have ht1 := ht.grown0 hg2
    have hbw := (hbx.grown0 hg).grown0 hg2
    have d0 := hbw.cell 0
    have d1 := hbw.cell 1
    simp only [List.getElem?_toArray, List.getElem?_cons_zero, List.getElem?_cons_succ] at d0 d1
    have h1 := (h.grown0 hg1).grown0 hg2
    have hv := Lib.hid (l2Valid_any t T c p A cA B cB _ G _ ht1 ha h1 hsmh.out)
    have hbw1 := hbx.grown0 hg
    have e0 := hbw1.cell 0
    have e1 := hbw1.cell 1
    have dlt := hbw1.lt
    simp only [List.getElem?_toArray, List.getElem?_cons_zero, List.getElem?_cons_succ] at e0 e1
    clear hbw hbw1
    go_wp2_with fail
    refine hv.out.mono ?_
    rintro e w2 ⟨rfl, hg3⟩
    go_wp2_with fail
    go_ret
    exact ⟨by rw [hV.out]; rfl, gr_trans (gr_trans hg1 hg2) hg3⟩
end Go.Proofs.YtegidbdgneecmaaDoor
