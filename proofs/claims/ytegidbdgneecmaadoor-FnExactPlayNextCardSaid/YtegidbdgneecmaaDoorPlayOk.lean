/- Plays of a type: both readers of them. -/
import Derived.Test.YtegidbdgneecmaaDoorPlayMem
namespace Go.Proofs.YtegidbdgneecmaaDoor
open Go.RowKit

/-- A callee that leaves the world alone, inside a quiet region. -/
theorem quiet_eq {P : Program} {f : FuncId} {args : Array Value} {w : World} {n : Nat} {v : Value} (h : Calls P f args (w.drewN n) fun e w' => e = .returned v ∧ w.drewN n = w') : Calls P f args (w.drewN n) fun e w'' => e = .returned v ∧ ∃ m, w'' = w.drewN m :=
  h.mono fun _ _ ⟨he, hm⟩ => ⟨he, n, hm.symm⟩

theorem okAt_isMove {t : Ty} {p : Pl} {i : Nat} (h : isMove t (p.mv i) = false) : Pl.okAt t p i = false := by
  unfold Pl.okAt; rw [h]; rfl
theorem okAt_who {t : Ty} {p : Pl} {i : Nat} (h : mOpp (p.mv i) ≠ (i % 2 == 0)) : Pl.okAt t p i = false := by
  unfold Pl.okAt; rw [show (mOpp (p.mv i) == (i % 2 == 0)) = false from by simpa using h]; simp
theorem okAt_zero {t : Ty} {p : Pl} (h1 : isMove t (p.mv 0) = true) (h2 : mOpp (p.mv 0) = true) : Pl.okAt t p 0 = (p.mv 0 == [113] && p.pt 0 == -1) := by
  unfold Pl.okAt; rw [h1, h2]; rfl
theorem okAt_pos {t : Ty} {p : Pl} {i : Nat} (h0 : 0 < i) (h1 : isMove t (p.mv i) = true) (h2 : mOpp (p.mv i) = (i % 2 == 0)) :
    Pl.okAt t p i = (decide (0 ≤ p.pt i) && decide (p.pt i < i) && p.mv (p.pt i).toNat == mEn (p.mv i)) := by
  unfold Pl.okAt; rw [h1, h2, if_neg (by omega)]; simp
theorem ok_false {t : Ty} {p : Pl} {i : Nat} (hi : i < p.ms.length) (h : Pl.okAt t p i = false) : p.ok t = false := by
  rw [Bool.eq_false_iff]
  intro hp
  have := (Pl.ok_iff.1 hp).2.2 i hi
  rw [h] at this
  cases this
theorem mv_lt {p : Pl} {i : Nat} (h : i < p.ms.length) : p.mv i = p.ms[i] := by simp [Pl.mv, List.getD, h]
theorem pt_lt {p : Pl} {i : Nat} (h : i < p.ps.length) : p.pt i = p.ps[i] := by simp [Pl.pt, List.getD, h]
theorem par_even {k : Nat} (h : (k % 2 == 0) = true) : (k : Int) % 2 = 0 := by have := beq_iff_eq.1 h; omega
theorem par_odd {k : Nat} (h : (k % 2 == 0) = false) : (k : Int) % 2 = 1 := by have := beq_eq_false_iff_ne.1 h; omega

set_option maxHeartbeats 2000000 in
theorem hasPlay_any (q : Nat) (t : Ty) (p : Pl) (A : Option Addr) (cA : Nat) (B : Option Addr) (cB : Nat) (F G : Nat → Prop) (w : World) (hk : KindP w F q t) (ht : t.atoms ≤ 15) (h : PlS w G p A B) (hsm : SmallP p) :
    Calls Tryd.prog 47 #[.pointer (some ⟨q, 0, none⟩), .agg #[.slice A p.ms.length cA, .slice B p.ps.length cB]] w fun e w' => e = .returned (.bool (p.ok t)) ∧ w.grownBy w' none := by
  obtain ⟨⟨hs1, hs2⟩, hs3⟩ := hsm
  have hs2h := Lib.hid hs2
  clear hs2
  have hg0 := World.grownBy_alloc w (.cells #[.slice A p.ms.length cA, .slice B p.ps.length cB] 30) none
  by_cases hl60 : p.ms.length > 60
  · have hR := Lib.hid (show p.ok t = false by rw [Bool.eq_false_iff]; intro hp; have := (Pl.ok_iff.1 hp).1; omega)
    go_enter Tryd.func47, Tryd.ntmps47
    go_wp2_with fail
    go_ret
    exact ⟨by rw [hR.out]; rfl, hg0⟩
  by_cases hl0 : p.ps.length ≠ p.ms.length
  · have hb : ((p.ps.length : Int) != (p.ms.length : Int)) = true := by rw [bne_iff_ne]; omega
    have hR := Lib.hid (show p.ok t = false by rw [Bool.eq_false_iff]; intro hp; have := (Pl.ok_iff.1 hp).2.1; omega)
    go_enter Tryd.func47, Tryd.ntmps47
    go_wp2_with fail
    go_ret
    exact ⟨by rw [hR.out]; rfl, hg0⟩
  have hll : p.ps.length = p.ms.length := by omega
  have hbx := Blk.new w 30 #[.slice A p.ms.length cA, .slice B p.ps.length cB]
  have hk0 := hk.grown0 hg0
  have h0 := h.grown0 hg0
  obtain ⟨hA, hB⟩ := h0
  rw [hll] at hA hB hk0 hg0 hbx ⊢
  have hllh := Lib.hid hll
  clear hll h hk hl0
  go_enter Tryd.func47, Tryd.ntmps47
  go_wp2_with fail
  go_loopw [24] (fun i wr => ∃ (k : Nat), k ≤ p.ms.length ∧ i = .int .i64 (k : Int) ∧ (∀ j, j < k → Pl.okAt t p j = true) ∧ w.grownBy wr none ∧ (w.alloc (.cells #[.slice A p.ms.length cA, .slice B p.ms.length cB] 30)).grownBy wr none) (fun i _ => p.ms.length - (intOf i).toNat)
  case atStart => exact ⟨0, Nat.zero_le _, rfl, fun j hj => absurd hj (by omega), hg0, gr_refl _ _⟩
  case round =>
    obtain ⟨k, hkl, rfl, hall, hgw, hgx⟩ := hrel
    have hallh := Lib.hid hall
    have hbw := hbx.grown0 hgx
    have d0 := hbw.cell 0
    have d1 := hbw.cell 1
    have dlt := hbw.lt
    simp only [List.getElem?_toArray, List.getElem?_cons_zero, List.getElem?_cons_succ] at d0 d1
    clear hall
    by_cases hlt : k < p.ms.length
    · have hpl : k < p.ps.length := by rw [hllh.out]; exact hlt
      obtain ⟨g, o, rfl, _, hcell⟩ := (hA.grown0 hgx) (by omega)
      obtain ⟨g2, o2, rfl, _, hcell2⟩ := (hB.grown0 hgx) (by omega)
      have c1 := hcell k hlt
      have c2 := hcell2 k hlt
      rw [sv_lt p.ms hlt, ← mv_lt hlt] at c1
      rw [iv_lt p.ps hpl, ← pt_lt hpl] at c2
      have hml : (p.mv k).length ≤ 1048576 := by rw [mv_lt hlt]; exact hs2h.out _ (List.getElem_mem hlt)
      have hcellh := Lib.hid hcell
      have hmv := Lib.hid (hasMove_any q t (p.mv k) _ wr (hk0.grown0 hgx) ht (by omega))
      clear hcell hcell2
      cases h1 : isMove t (p.mv k) with
      | false =>
        have hR := Lib.hid (ok_false hlt (okAt_isMove h1))
        have hm2 := hmv.out
        rw [h1] at hm2
        have hm3 := Lib.hid hm2
        clear h1 hm2 hmv
        generalize p.mv k = m at *
        generalize p.pt k = x at *
        go_wp2_with fail
        refine hm3.out.mono ?_
        rintro e w' ⟨rfl, rfl⟩
        go_wp2_with fail
        go_ret
        exact ⟨by rw [hR.out]; rfl, hgw⟩
      | true =>
        obtain ⟨c, r, hcr⟩ := isMove_cons' h1
        have hm2 := hmv.out
        rw [h1] at hm2
        have hm3 := Lib.hid hm2
        clear hm2 hmv
        obtain ⟨e, he⟩ : ∃ e, (k % 2 == 0) = e := ⟨_, rfl⟩
        have hx : ((k : Int) % 2 == 0) = e := by rw [← he, Bool.eq_iff_iff, beq_iff_eq, beq_iff_eq]; omega
        have hmo : mOpp (p.mv k) = byOpp c r := by rw [hcr]; rfl
        have hrl : r.length ≤ 1048576 := by have := hml; rw [hcr] at this; simp at this; omega
        have hfalse := Lib.hid (fun h => ok_false (p := p) (t := t) hlt h)
        have hok : byOpp c r = e → Pl.okAt t p k = (if k = 0 then c :: r == [113] && p.pt k == -1 else decide (0 ≤ p.pt k) && decide (p.pt k < k) && p.mv (p.pt k).toNat == enab c r) := by
          intro hw
          unfold Pl.okAt
          rw [h1, hmo, hw, he]
          by_cases hk0 : k = 0
          · subst hk0
            rw [hcr]; simp
          · rw [if_neg hk0, if_neg hk0, hcr]; simp [mEn]
        have hmvj := Lib.hid (fun (j : Nat) (hj : j < k) => show isMove t (p.mv j) = true from (Pl.okAt_iff.1 (hallh.out j hj)).1)
        have hcj := Lib.hid (fun (j : Nat) (hj : j < k) => show wr.cell? ⟨g, o + j, none⟩ = some (.string ⟨(p.mv j).toArray⟩) by
          have h := hcellh.out j (by omega)
          rw [sv_lt p.ms (by omega), ← mv_lt (by omega)] at h
          exact h)
        rw [hcr] at c1 hm3
        have hokh := Lib.hid hok
        have hmoh := Lib.hid hmo
        have heh := Lib.hid he
        have hptl := Lib.hid (fun (_ : Unit) => hlt)
        clear hok hmo he h1 hcr hml hcellh hbw
        generalize p.pt k = x at *
        by_cases hw : byOpp c r = e
        · have hokh2 := Lib.hid (hokh.out hw)
          clear hokh
          have hB2 := byOpponent_any c r wr (by omega)
          rw [hw] at hB2
          have hB3 := Lib.hid hB2
          clear hw hB2
          by_cases hz : k = 0
          · subst hz
            simp only [Nat.add_zero] at c1 c2
            obtain rfl : e = true := by have := heh.out; simpa using this.symm
            have hok0 := hokh2.out
            rw [if_pos rfl] at hok0
            have hok0h := Lib.hid hok0
            clear hok0
            by_cases hx1 : x < -1
            · have hR := Lib.hid (hfalse.out (by rw [hok0h.out, show (x == -1) = false by rw [beq_eq_false_iff_ne]; omega]; simp))
              go_wp2_with fail
              refine hm3.out.mono ?_
              rintro e w' ⟨rfl, rfl⟩
              go_wp2_with fail
              refine hB3.out.mono ?_
              rintro e w' ⟨rfl, rfl⟩
              go_wp2_with fail
              all_goals go_ret
              all_goals exact ⟨by rw [hR.out]; rfl, hgw⟩
            · by_cases hx2 : 0 ≤ x
              · have hR := Lib.hid (hfalse.out (by rw [hok0h.out, show (x == -1) = false by rw [beq_eq_false_iff_ne]; omega]; simp))
                go_wp2_with fail
                refine hm3.out.mono ?_
                rintro e w' ⟨rfl, rfl⟩
                go_wp2_with fail
                refine hB3.out.mono ?_
                rintro e w' ⟨rfl, rfl⟩
                go_wp2_with fail
                all_goals go_ret
                all_goals exact ⟨by rw [hR.out]; rfl, hgw⟩
              · obtain rfl : x = -1 := by omega
                cases hq : (c :: r == [113]) with
                | false =>
                  have hq2 : (c :: r != [113]) = true := by rw [bne, hq]; rfl
                  have hR := Lib.hid (hfalse.out (by rw [hok0h.out, hq]; rfl))
                  go_wp2_with fail
                  refine hm3.out.mono ?_
                  rintro e w' ⟨rfl, rfl⟩
                  go_wp2_with fail
                  refine hB3.out.mono ?_
                  rintro e w' ⟨rfl, rfl⟩
                  go_wp2_with fail
                  go_quiet (fail)
                  go_wp2_with fail
                  all_goals go_ret
                  all_goals exact ⟨by rw [hR.out]; rfl, gr_drewN hgw _⟩
                | true =>
                  have hR := Lib.hid (show Pl.okAt t p 0 = true by rw [hok0h.out, hq]; rfl)
                  obtain ⟨rfl, rfl⟩ := List.cons.inj (beq_iff_eq.1 hq)
                  clear hq
                  go_wp2_with fail
                  refine hm3.out.mono ?_
                  rintro e w' ⟨rfl, rfl⟩
                  go_wp2_with fail
                  refine hB3.out.mono ?_
                  rintro e w' ⟨rfl, rfl⟩
                  go_wp2_with fail
                  go_quiet (fail)
                  go_wp2_with fail
                  go_roundw
                  case rel =>
                    refine ⟨1, by omega, by go_num, fun j hj => ?_, gr_drewN hgw _, gr_drewN hgx _⟩
                    obtain rfl : j = 0 := by omega
                    exact hR.out
                  case measure => simp [intOf]; omega
          · have hok0 := hokh2.out
            rw [if_neg hz] at hok0
            have hok0h := Lib.hid hok0
            have hz1 : ((k : Int) == 0) = false := by rw [beq_eq_false_iff_ne]; omega
            have hz2 : 0 < k := by omega
            have hz3 : decide (0 < k) = true := by rw [decide_eq_true_eq]; omega
            have hz4 : decide (0 < (k : Int)) = true := by rw [decide_eq_true_eq]; omega
            clear hok0
            by_cases hx1 : x < -1
            · have hR := Lib.hid (hfalse.out (by rw [hok0h.out, show decide (0 ≤ x) = false by rw [decide_eq_false_iff_not]; omega]; rfl))
              go_wp2_with fail
              refine hm3.out.mono ?_
              rintro e w' ⟨rfl, rfl⟩
              go_wp2_with fail
              refine hB3.out.mono ?_
              rintro e w' ⟨rfl, rfl⟩
              go_wp2_with fail
              all_goals go_ret
              all_goals exact ⟨by rw [hR.out]; rfl, hgw⟩
            · by_cases hx2 : (k : Int) ≤ x
              · have hR := Lib.hid (hfalse.out (by rw [hok0h.out, show decide (x < (k : Int)) = false by rw [decide_eq_false_iff_not]; omega]; simp))
                go_wp2_with fail
                refine hm3.out.mono ?_
                rintro e w' ⟨rfl, rfl⟩
                go_wp2_with fail
                refine hB3.out.mono ?_
                rintro e w' ⟨rfl, rfl⟩
                go_wp2_with fail
                all_goals go_ret
                all_goals exact ⟨by rw [hR.out]; rfl, hgw⟩
              · by_cases hx3 : x = -1
                · subst hx3
                  have hR := Lib.hid (hfalse.out (by rw [hok0h.out]; rfl))
                  go_wp2_with fail
                  refine hm3.out.mono ?_
                  rintro e w' ⟨rfl, rfl⟩
                  go_wp2_with fail
                  refine hB3.out.mono ?_
                  rintro e w' ⟨rfl, rfl⟩
                  go_wp2_with fail
                  all_goals go_ret
                  all_goals exact ⟨by rw [hR.out]; rfl, hgw⟩
                · obtain ⟨j, rfl⟩ := Int.eq_ofNat_of_zero_le (show 0 ≤ x by omega)
                  have hjk : j < k := by omega
                  have hx4 : ((j : Int) == -1) = false := by rw [beq_eq_false_iff_ne]; omega
                  have hj1 := hmvj.out j hjk
                  have hj2 := hcj.out j hjk
                  have hok1 := hok0h.out
                  rw [show decide (0 ≤ (j : Int)) = true by rw [decide_eq_true_eq]; omega, show decide ((j : Int) < (k : Int)) = true by rw [decide_eq_true_eq]; omega, Int.toNat_natCast] at hok1
                  obtain ⟨c', r', hcr'⟩ := isMove_cons' hj1
                  rw [hcr'] at hj2 hok1
                  have hok1h := Lib.hid hok1
                  have hjg : j < p.ms.length := by omega
                  have hj3 : 0 ≤ (j : Int) := by omega
                  clear hok1 hj1 hcr' hx3
                  cases hq : (c :: r == [113]) with
                  | true =>
                    have hq3 := beq_iff_eq.1 hq
                    have hE := Lib.hid (show enab c r = [] by cases hq3; rfl)
                    clear hq3
                    have hR := Lib.hid (hfalse.out (by rw [hok1h.out, hE.out]; rfl))
                    go_wp2_with fail
                    refine hm3.out.mono ?_
                    rintro e w' ⟨rfl, rfl⟩
                    go_wp2_with fail
                    refine hB3.out.mono ?_
                    rintro e w' ⟨rfl, rfl⟩
                    go_wp2_with fail
                    go_quiet (fail)
                    go_wp2_with fail
                    all_goals go_ret
                    all_goals exact ⟨by rw [hR.out]; rfl, gr_drewN hgw _⟩
                  | false =>
                    have hE := Lib.hid (fun W => enabler_any c r W (by omega))
                    cases hq2 : (c' :: r' == enab c r) with
                    | true =>
                      have hq3 : (c' :: r' != enab c r) = false := by rw [bne, hq2]; rfl
                      have hR := Lib.hid (show Pl.okAt t p k = true by rw [hok1h.out, hq2]; rfl)
                      generalize enab c r = y at *
                      go_wp2_with fail
                      refine hm3.out.mono ?_
                      rintro e w' ⟨rfl, rfl⟩
                      go_wp2_with fail
                      refine hB3.out.mono ?_
                      rintro e w' ⟨rfl, rfl⟩
                      go_wp2_with fail
                      go_quiet ((go_at_call 59; exact quiet_eq (hE.out _)))
                      go_wp2_with fail
                      go_roundw
                      case rel =>
                        refine ⟨k + 1, by omega, by go_num, fun i hi => ?_, gr_drewN hgw _, gr_drewN hgx _⟩
                        by_cases hik : i = k
                        · subst hik; exact hR.out
                        · exact hallh.out i (by omega)
                      case measure => simp [intOf]; omega
                    | false =>
                      have hq3 : (c' :: r' != enab c r) = true := by rw [bne, hq2]; rfl
                      have hR := Lib.hid (hfalse.out (by rw [hok1h.out, hq2]; rfl))
                      generalize enab c r = y at *
                      go_wp2_with fail
                      refine hm3.out.mono ?_
                      rintro e w' ⟨rfl, rfl⟩
                      go_wp2_with fail
                      refine hB3.out.mono ?_
                      rintro e w' ⟨rfl, rfl⟩
                      go_wp2_with fail
                      go_quiet ((go_at_call 59; exact quiet_eq (hE.out _)))
                      go_wp2_with fail
                      go_ret
                      exact ⟨by rw [hR.out]; rfl, gr_drewN hgw _⟩
        · have hw2 : byOpp c r = !e := by cases hq : byOpp c r <;> cases e <;> simp_all
          have hR := Lib.hid (hfalse.out (okAt_who (by rw [hmoh.out, heh.out]; exact hw)))
          have hB2 := byOpponent_any c r wr (by omega)
          rw [hw2] at hB2
          have hB3 := Lib.hid hB2
          clear hw hw2 hB2
          go_wp2_with fail
          refine hm3.out.mono ?_
          rintro e w' ⟨rfl, rfl⟩
          go_wp2_with fail
          refine hB3.out.mono ?_
          rintro e w' ⟨rfl, rfl⟩
          go_wp2_with fail
          go_ret
          exact ⟨by rw [hR.out]; rfl, hgw⟩
    · obtain rfl : k = p.ms.length := by omega
      have hR := Lib.hid (show p.ok t = true from Pl.ok_iff.2 ⟨by omega, hllh.out, hallh.out⟩)
      go_wp2_with fail
      go_ret
      exact ⟨by rw [hR.out]; rfl, hgw⟩
/-- Is it a play of the type of a text? -/
def playOf (r : List UInt8) (p : Pl) : Bool := match Ty.read r with | none => false | some t => p.ok t

set_option maxHeartbeats 400000 in
theorem playValid_any (r : List UInt8) (p : Pl) (A : Option Addr) (cA : Nat) (B : Option Addr) (cB : Nat) (G : Nat → Prop) (w : World) (hr : r.length ≤ 1099511627776) (h : PlS w G p A B) (hsm : SmallP p) :
    Calls Tryd.prog 41 #[.string ⟨r.toArray⟩, .agg #[.slice A p.ms.length cA, .slice B p.ps.length cB]] w fun e w' => e = .returned (.bool (playOf r p)) ∧ w.grownBy w' none := by
  have hg0 := World.grownBy_alloc w (.cells #[.slice A p.ms.length cA, .slice B p.ps.length cB] 30) none
  have hbx := Blk.new w 30 #[.slice A p.ms.length cA, .slice B p.ps.length cB]
  have hsmh := Lib.hid hsm
  clear hsm
  go_enter Tryd.func41, Tryd.ntmps41
  go_wp2_with fail
  refine (readKind_any r _ hr).mono ?_
  rintro e w1 ⟨hg, hm1⟩
  have hbw := hbx.grown0 hg
  have d0 := hbw.cell 0
  have d1 := hbw.cell 1
  have dlt := hbw.lt
  simp only [List.getElem?_toArray, List.getElem?_cons_zero, List.getElem?_cons_succ] at d0 d1
  have hg1 := gr_trans hg0 hg
  have h1 := h.grown0 hg1
  cases hp : Ty.read r with
  | none =>
    have hV := Lib.hid (show playOf r p = false by unfold playOf; rw [hp])
    rw [hp] at hm1
    subst hm1
    clear hp
    go_wp2_with fail
    go_ret
    exact ⟨by rw [hV.out]; rfl, hg1⟩
  | some t =>
    have hV := Lib.hid (show playOf r p = p.ok t by unfold playOf; rw [hp])
    have ha := (Ty.read_some hp).2
    rw [hp] at hm1
    obtain ⟨q, rfl, hk⟩ := hm1
    clear hp
    go_wp2_with fail
    refine (hasPlay_any q t p A cA B cB _ G w1 hk ha h1 hsmh.out).mono ?_
    rintro e w2 ⟨rfl, hg2⟩
    go_wp2_with fail
    go_ret
    exact ⟨by rw [hV.out]; rfl, gr_trans hg1 hg2⟩
end Go.Proofs.YtegidbdgneecmaaDoor
