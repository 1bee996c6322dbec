/- Visible, bracketed: the reference's. -/
import Derived.Test.YtegidbdgneecmaaDoorPlayRest
import Derived.Test.YtegidbdgneecmaaDoorPlayViewS
namespace Go.Proofs.YtegidbdgneecmaaDoor
open Go.RowKit

set_option maxHeartbeats 2000000 in
theorem l2Visible_any (t : Ty) (p : Pl) (hp : p.ok t = true) (A : Option Addr) (cA : Nat) (B : Option Addr) (cB : Nat) (G : Nat → Prop) (w : World) (h : PlS w G p A B) (hsm : SmallP p) :
    Calls Tryd.prog 32 #[.agg #[.slice A p.ms.length cA, .slice B p.ps.length cB]] w fun e w' => e = .returned (.bool p.vis) ∧ w.grownBy w' none := by
  have h60 := (Pl.ok_iff.1 hp).1
  have hll := (Pl.ok_iff.1 hp).2.1
  have hml := Lib.hid hsm.1.2
  have hg0 := World.grownBy_alloc w (.cells #[.slice A p.ms.length cA, .slice B p.ps.length cB] 30) none
  have hbx := Blk.new w 30 #[.slice A p.ms.length cA, .slice B p.ps.length cB]
  have hpl := Lib.hid (fun (W : World) (hW : (w.alloc (.cells #[.slice A p.ms.length cA, .slice B p.ps.length cB] 30)).grownBy W none) (o : Bool) (wh : Int) (hwh : wh = whoI o) (k : Nat) (hk : k ≤ p.ms.length) => l2View_any t p hp A cA B cB G o wh hwh k W ((h.grown0 hg0).grown0 hW) hsm hk)
  obtain ⟨hA, hB⟩ := h.grown0 hg0
  rw [hll] at hA hB hg0 hbx hpl ⊢
  have hllh := Lib.hid hll
  have hph := Lib.hid hp
  clear hll h hsm hp
  go_enter Tryd.func32, Tryd.ntmps32
  go_wp2_with fail
  go_loopw [3] (fun i wr => ∃ (k : Nat), 1 ≤ k ∧ i = .int .i64 (k : Int) ∧ k ≤ p.ms.length + 1 ∧ (∀ j, j < k → j < p.ms.length → p.visAt j = true) ∧ (w.alloc (.cells #[.slice A p.ms.length cA, .slice B p.ms.length cB] 30)).grownBy wr none) (fun i _ => 1 + p.ms.length - (intOf i).toNat)
  case atStart => exact ⟨1, Nat.le_refl _, rfl, by omega, fun j hj _ => by obtain rfl : j = 0 := by omega
                                                                           rfl, gr_refl _ _⟩
  case round =>
    obtain ⟨k, hk1, rfl, hkn, hall, hgx⟩ := hrel
    have hallh := Lib.hid hall
    clear hall
    have hbw := hbx.grown0 hgx
    have d0 := hbw.cell 0
    have d1 := hbw.cell 1
    simp only [List.getElem?_toArray, List.getElem?_cons_zero, List.getElem?_cons_succ] at d0 d1
    by_cases hlt : k < p.ms.length
    · have hpl' : k < p.ps.length := by rw [hllh.out]; exact hlt
      obtain ⟨g, o1, rfl, _, _⟩ := hA (by omega)
      obtain ⟨g2, o2, rfl, _, _⟩ := hB (by omega)
      obtain ⟨c, r, hcr⟩ := isMove_cons' (Pl.ok_mv hph.out hlt).1
      have hmo : mOpp (p.mv k) = byOpp c r := by rw [hcr]; rfl
      have hva := Lib.hid (visAt_eq (p := p) (by omega : 0 < k) hmo)
      have hrl : r.length ≤ 1048576 := by
        have h := hml.out _ (List.getElem_mem hlt)
        rw [← mv_lt hlt, hcr] at h
        simp at h
        omega
      have hcl := fun (W : World) (hW : (w.alloc (.cells #[.slice (some ⟨g, o1, none⟩) p.ms.length cA, .slice (some ⟨g2, o2, none⟩) p.ms.length cB] 30)).grownBy W none) => show Cells W w.heap.size ⟨g, o1, none⟩ ⟨g2, o2, none⟩ p.ms.length cA cB k (c :: r) (p.pt k) from by
        have h := (hA.grown0 hW).at_ hlt
        rw [sv_lt p.ms hlt, ← mv_lt hlt, hcr] at h
        have h2 := (hB.grown0 hW).at_ hlt
        rw [iv_lt p.ps hpl', ← pt_lt hpl'] at h2
        exact ⟨(hbx.grown0 hW).cell 0, (hbx.grown0 hW).cell 1, h, h2⟩
      have hclh := Lib.hid hcl
      obtain ⟨_, _, c1, c2⟩ := hcl wr hgx
      simp only at c1 c2
      have hpar : (k : Int) % 2 = whoI (byOpp c r) := by
        have h := (Pl.ok_mv hph.out hlt).2
        rw [hmo] at h
        rw [h]
        unfold whoI
        cases hz : (k % 2 == 0)
        · have := par_odd hz; rw [this]; rfl
        · have := par_even hz; rw [this]; rfl
      have hVl := vI_length p (byOpp c r) k
      have hV := Lib.hid (fun W hW => hpl.out W hW (byOpp c r) ((k : Int) % 2) hpar k (by omega))
      have hk0 : 0 ≤ (k : Int) := by omega
      have hgd : (w.alloc (.cells #[.slice (some ⟨g, o1, none⟩) p.ms.length cA, .slice (some ⟨g2, o2, none⟩) p.ms.length cB] 30)).grownBy wr.drew none := gr_drew hgx
      clear hcl hcr hmo hbw hpar
      generalize byOpp c r = o at *
      generalize p.pt k = x at *
      generalize vI p o k = V at *
      go_wp2_with fail
      go_region_held3 (fun w' => w'.cell? ⟨w.heap.size, 0, none⟩ = some (.slice (some ⟨g, o1, none⟩) p.ms.length cA) ∧ w'.cell? ⟨w.heap.size, 1, none⟩ = some (.slice (some ⟨g2, o2, none⟩) p.ms.length cB) ∧ w'.cell? ⟨g, o1 + k, none⟩ = some (.string ⟨(c :: r).toArray⟩) ∧ w'.cell? ⟨g2, o2 + k, none⟩ = some (.int .i64 x))
        (first | go_keep | exact hclh.out _ hgx2)
        (first
          | (go_at_call 35; refine (hV.out _ hgd).mono ?_; rintro e w2 ⟨V', c', rfl, hownV, hg2⟩; have hgx2 := gr_trans hgd hg2; have hSV := (own_sli hownV).1)
          | (go_at_call 37; refine (l2Has_any V x _ _ _ _ hSV (by omega)).mono ?_; rintro e w' ⟨rfl, rfl⟩))
      cases hh : hasI V x with
      | true =>
        have hR := Lib.hid (hva.out.trans hh)
        clear hh
        go_wp2_with fail
        go_roundw
        case rel =>
          refine ⟨k + 1, by omega, by go_num, by omega, fun j hj hjl => ?_, hgx2⟩
          by_cases hjk : j = k
          · subst hjk; exact hR.out
          · exact hallh.out j (by omega) hjl
        case measure => simp [intOf]; omega
      | false =>
        have hR := Lib.hid (vis_no hlt (hva.out.trans hh))
        clear hh
        go_wp2_with fail
        go_ret
        exact ⟨by rw [hR.out]; rfl, gr_trans hg0 hgx2⟩
    · have hR := Lib.hid (show p.vis = true from Pl.vis_iff.2 fun j hj => hallh.out j (by omega) hj)
      go_wp2_with fail
      go_ret
      exact ⟨by rw [hR.out]; rfl, gr_trans hg0 hgx⟩
set_option maxHeartbeats 2000000 in
theorem l2Pending_any (t : Ty) (p : Pl) (hp : p.ok t = true) (A : Option Addr) (cA : Nat) (B : Option Addr) (cB : Nat) (G : Nat → Prop) (n : Nat) (w : World) (h : PlS w G p A B) (hsm : SmallP p) (hn : n ≤ p.ms.length) :
    Calls Tryd.prog 40 #[.agg #[.slice A p.ms.length cA, .slice B p.ps.length cB], .int .i64 (n : Int)] w fun e w' => e = .returned (.int .i64 (pendI p n [])) ∧ w.grownBy w' none := by
  have h60 := (Pl.ok_iff.1 hp).1
  have hll := (Pl.ok_iff.1 hp).2.1
  have hml := Lib.hid hsm.1.2
  have hg0 := World.grownBy_alloc w (.cells #[.slice A p.ms.length cA, .slice B p.ps.length cB] 30) none
  have hbx := Blk.new w 30 #[.slice A p.ms.length cA, .slice B p.ps.length cB]
  obtain ⟨hA, hB⟩ := h.grown0 hg0
  rw [hll] at hA hB hg0 hbx ⊢
  have hE := own_empty (w := (w.alloc (.cells #[.slice A p.ms.length cA, .slice B p.ms.length cB] 30))) (base := (w.alloc (.cells #[.slice A p.ms.length cA, .slice B p.ms.length cB] 30)).heap.size) 3 (Nat.le_refl _)
  have hllh := Lib.hid hll
  have hph := Lib.hid hp
  clear hll h hsm hp
  go_enter Tryd.func40, Tryd.ntmps40
  go_wp2_with fail
  go_loopw [5, 6] (fun u i wr => ∃ (m : Nat) (a : List Int), m ≤ n ∧ i = .int .i64 ((m : Int) - 1) ∧ a.length + m ≤ n ∧ pendI p n [] = pendI p m a ∧ wr.ownsRow (w.alloc (.cells #[.slice A p.ms.length cA, .slice B p.ms.length cB] 30)).heap.size 3 1 u a.length (a.map intv) ∧ (w.alloc (.cells #[.slice A p.ms.length cA, .slice B p.ms.length cB] 30)).grownBy wr none) (fun _ i _ => (intOf i + 1).toNat)
  case atStart => exact ⟨n, [], Nat.le_refl _, rfl, by simp, rfl, by simpa using hE, gr_alloc (gr_refl _ _) _⟩
  case round =>
    obtain ⟨m, a, hmn, rfl, hLm, hvI, hown, hgx⟩ := hrel
    obtain ⟨Ao, co, rfl, _⟩ := own_form hown
    have hvh := Lib.hid hvI
    clear hvI
    cases m with
    | zero =>
      have hR := Lib.hid (show pendI p n [] = -1 by rw [hvh.out]; rfl)
      have hx0 : (((0 : Nat) : Int) - 1) = -1 := rfl
      rw [hx0]
      clear hx0
      go_wp2_with fail
      go_ret
      exact ⟨ret_int hR.out.symm, gr_trans hg0 hgx⟩
    | succ j =>
      have hx0 : (((j + 1 : Nat) : Int) - 1) = (j : Int) := by omega
      rw [hx0]
      have hjl : j < p.ms.length := by omega
      have hpl : j < p.ps.length := by rw [hllh.out]; exact hjl
      obtain ⟨g, o1, rfl, _, _⟩ := hA (by omega)
      obtain ⟨g2, o2, rfl, _, _⟩ := hB (by omega)
      obtain ⟨c, r, hcr⟩ := isMove_cons' (Pl.ok_mv hph.out hjl).1
      have hrl : r.length ≤ 1048576 := by
        have h := hml.out _ (List.getElem_mem hjl)
        rw [← mv_lt hjl, hcr] at h
        simp at h
        omega
      have c1 := (hA.grown0 hgx).at_ hjl
      have c2 := (hB.grown0 hgx).at_ hjl
      rw [sv_lt p.ms hjl, ← mv_lt hjl, hcr] at c1
      rw [iv_lt p.ps hpl, ← pt_lt hpl] at c2
      have hbw := hbx.grown0 hgx
      have d0 := hbw.cell 0
      have d1 := hbw.cell 1
      simp only [List.getElem?_toArray, List.getElem?_cons_zero, List.getElem?_cons_succ] at d0 d1
      have hmQ : mQ (p.mv j) = (c == 113) := by rw [hcr]; rfl
      have h0 : 0 < (⟨(c :: r).toArray⟩ : ByteArray).size := by simp [ByteArray.size]
      have hbv := byte_val (c :: r) 0 (by simp) h0
      simp only [List.getElem_cons_zero] at hbv
      have e1 := byte0_ne c 113 113 rfl
      have e2 := byte0_eq c 113 113 rfl
      clear hx0 hcr hbw
      cases hq : (c == 113) with
      | false =>
        rw [hq] at hmQ e1 e2
        have hstep := Lib.hid (show pendI p n [] = pendI p j (a ++ [p.pt j]) by rw [hvh.out]; unfold pendI; simp [Pl.pend, hmQ])
        clear hq hmQ
        generalize p.pt j = x at *
        have hg1 := World.grownBy_alloc wr (.cells #[.int .i64 x] 3) none
        have hownA := own_keep hown hg1
        have hbase : (w.alloc (.cells #[.slice (some ⟨g, o1, none⟩) p.ms.length cA, .slice (some ⟨g2, o2, none⟩) p.ms.length cB] 30)).heap.size ≤ (wr.alloc (.cells #[.int .i64 x] 3)).heap.size := Nat.le_trans hgx.size (by rw [World.size_alloc wr]; omega)
        have hsl := sl_one wr 3 (.int .i64 x)
        go_wp2_with (at_builtin; refine wpList_app rfl _ _ 23 rfl (w.alloc (.cells #[.slice (some ⟨g, o1, none⟩) p.ms.length cA, .slice (some ⟨g2, o2, none⟩) p.ms.length cB] 30)).heap.size 3 (.int .i64 0) 8 Tryd.underlying23 info_int rfl _ _ _ _ rfl hownA _ 1 1 _ rfl _ hsl (fun _ _ => rfl) (by unfold maxLen; omega) (by omega) hbase ?_; intro A' cap w3 hown3 hg3 hat3; have hgx3 := gr_own (gr_trans hgx hg1) hownA hg3)
        go_roundw
        case rel =>
          refine ⟨j, a ++ [x], by omega, rfl, by rw [List.length_append, List.length_singleton]; omega, hstep.out, ?_, hgx3⟩
          rw [List.length_append, List.map_append]
          exact hown3
        case measure => simp [intOf]
      | true =>
        rw [hq] at hmQ e1 e2
        have hS := (own_sli hown).1
        have hH := Lib.hid (l2Has_any a (j : Int) Ao co _ wr hS (by omega))
        cases hin : a.contains (j : Int) with
        | true =>
          have hstep := Lib.hid (show pendI p n [] = pendI p j a by rw [hvh.out]; unfold pendI; rw [List.contains_iff_mem] at hin; simp [Pl.pend, hmQ, hin])
          have hH2 := hH.out
          rw [show hasI a (j : Int) = true from hin] at hH2
          have hH3 := Lib.hid hH2
          clear hq hmQ hin hH2 hH
          go_wp2_with fail
          refine hH3.out.mono ?_
          rintro e w' ⟨rfl, rfl⟩
          go_wp2_with fail
          go_roundw
          case rel => exact ⟨j, a, by omega, rfl, by omega, hstep.out, hown, hgx⟩
          case measure => simp [intOf]
        | false =>
          have hR := Lib.hid (show pendI p n [] = (j : Int) by
            rw [hvh.out]; unfold pendI
            have hin2 : (j : Int) ∉ a := by intro h; rw [← List.contains_iff_mem, hin] at h; cases h
            simp [Pl.pend, hmQ, hin2])
          have hH2 := hH.out
          rw [show hasI a (j : Int) = false from hin] at hH2
          have hH3 := Lib.hid hH2
          clear hq hmQ hin hH2 hH
          go_wp2_with fail
          refine hH3.out.mono ?_
          rintro e w' ⟨rfl, rfl⟩
          go_wp2_with fail
          go_ret
          exact ⟨ret_int hR.out.symm, gr_trans hg0 hgx⟩
set_option maxHeartbeats 2000000 in
theorem l2Bracketed_any (t : Ty) (p : Pl) (hp : p.ok t = true) (A : Option Addr) (cA : Nat) (B : Option Addr) (cB : Nat) (G : Nat → Prop) (w : World) (h : PlS w G p A B) (hsm : SmallP p) :
    Calls Tryd.prog 33 #[.agg #[.slice A p.ms.length cA, .slice B p.ps.length cB]] w fun e w' => e = .returned (.bool p.br) ∧ w.grownBy w' none := by
  have h60 := (Pl.ok_iff.1 hp).1
  have hll := (Pl.ok_iff.1 hp).2.1
  have hml := Lib.hid hsm.1.2
  have hg0 := World.grownBy_alloc w (.cells #[.slice A p.ms.length cA, .slice B p.ps.length cB] 30) none
  have hbx := Blk.new w 30 #[.slice A p.ms.length cA, .slice B p.ps.length cB]
  have hpl := Lib.hid (fun (W : World) (hW : (w.alloc (.cells #[.slice A p.ms.length cA, .slice B p.ps.length cB] 30)).grownBy W none) (k : Nat) (hk : k ≤ p.ms.length) => l2Pending_any t p hp A cA B cB G k W ((h.grown0 hg0).grown0 hW) hsm hk)
  obtain ⟨hA, hB⟩ := h.grown0 hg0
  rw [hll] at hA hB hg0 hbx hpl ⊢
  have hllh := Lib.hid hll
  have hph := Lib.hid hp
  clear hll h hsm hp
  go_enter Tryd.func33, Tryd.ntmps33
  go_wp2_with fail
  go_loopw [3] (fun i wr => ∃ (k : Nat), i = .int .i64 (k : Int) ∧ k ≤ p.ms.length ∧ (∀ j, j < k → p.brAt j = true) ∧ (w.alloc (.cells #[.slice A p.ms.length cA, .slice B p.ms.length cB] 30)).grownBy wr none) (fun i _ => p.ms.length - (intOf i).toNat)
  case atStart => exact ⟨0, rfl, by omega, fun j hj => absurd hj (by omega), gr_refl _ _⟩
  case round =>
    obtain ⟨k, rfl, hkn, hall, hgx⟩ := hrel
    have hallh := Lib.hid hall
    clear hall
    have hbw := hbx.grown0 hgx
    have d0 := hbw.cell 0
    have d1 := hbw.cell 1
    simp only [List.getElem?_toArray, List.getElem?_cons_zero, List.getElem?_cons_succ] at d0 d1
    by_cases hlt : k < p.ms.length
    · have hpl' : k < p.ps.length := by rw [hllh.out]; exact hlt
      obtain ⟨g, o1, rfl, _, _⟩ := hA (by omega)
      obtain ⟨g2, o2, rfl, _, _⟩ := hB (by omega)
      obtain ⟨c, r, hcr⟩ := isMove_cons' (Pl.ok_mv hph.out hlt).1
      have hmQ : mQ (p.mv k) = (c == 113) := by rw [hcr]; rfl
      have hba := brAt_eq (p := p) (k := k)
      rw [hmQ] at hba
      have hrl : r.length ≤ 1048576 := by
        have h := hml.out _ (List.getElem_mem hlt)
        rw [← mv_lt hlt, hcr] at h
        simp at h
        omega
      have hcl := fun (W : World) (hW : (w.alloc (.cells #[.slice (some ⟨g, o1, none⟩) p.ms.length cA, .slice (some ⟨g2, o2, none⟩) p.ms.length cB] 30)).grownBy W none) => show Cells W w.heap.size ⟨g, o1, none⟩ ⟨g2, o2, none⟩ p.ms.length cA cB k (c :: r) (p.pt k) from by
        have h := (hA.grown0 hW).at_ hlt
        rw [sv_lt p.ms hlt, ← mv_lt hlt, hcr] at h
        have h2 := (hB.grown0 hW).at_ hlt
        rw [iv_lt p.ps hpl', ← pt_lt hpl'] at h2
        exact ⟨(hbx.grown0 hW).cell 0, (hbx.grown0 hW).cell 1, h, h2⟩
      have hclh := Lib.hid hcl
      obtain ⟨_, _, c1, c2⟩ := hcl wr hgx
      simp only at c1 c2
      have h0 : 0 < (⟨(c :: r).toArray⟩ : ByteArray).size := by simp [ByteArray.size]
      have hbv := byte_val (c :: r) 0 (by simp) h0
      simp only [List.getElem_cons_zero] at hbv
      have e1 := byte0_ne c 113 113 rfl
      have e2 := byte0_eq c 113 113 rfl
      have hV := Lib.hid (fun W hW => hpl.out W hW k (by omega))
      have hk0 : 0 ≤ (k : Int) := by omega
      clear hcl hcr hmQ hbw
      generalize p.pt k = x at *
      generalize pendI p k [] = y at *
      cases hq : (c == 113) with
      | true =>
        rw [hq] at hba e1 e2
        have hR := Lib.hid (show p.brAt k = true by rw [hba]; rfl)
        clear hq hba
        go_wp2_with fail
        go_quiet (fail)
        go_wp2_with fail
        go_roundw
        case rel =>
          refine ⟨k + 1, by go_num, by omega, fun j hj => ?_, gr_drewN hgx _⟩
          by_cases hjk : j = k
          · subst hjk; exact hR.out
          · exact hallh.out j (by omega)
        case measure => simp [intOf]; omega
      | false =>
        rw [hq] at hba e1 e2
        have hbah := Lib.hid hba
        clear hq hba
        have hgd : (w.alloc (.cells #[.slice (some ⟨g, o1, none⟩) p.ms.length cA, .slice (some ⟨g2, o2, none⟩) p.ms.length cB] 30)).grownBy wr.drew none := gr_drew hgx
        go_wp2_with fail
        go_region_held3 (fun w' => w'.cell? ⟨w.heap.size, 0, none⟩ = some (.slice (some ⟨g, o1, none⟩) p.ms.length cA) ∧ w'.cell? ⟨w.heap.size, 1, none⟩ = some (.slice (some ⟨g2, o2, none⟩) p.ms.length cB) ∧ w'.cell? ⟨g, o1 + k, none⟩ = some (.string ⟨(c :: r).toArray⟩) ∧ w'.cell? ⟨g2, o2 + k, none⟩ = some (.int .i64 x))
          (first | go_keep | exact hclh.out _ hgx2)
          (first
            | (go_at_call 40; refine (hV.out _ hgd).mono ?_; rintro e w2 ⟨rfl, hg2⟩; have hgx2 := gr_trans hgd hg2))
        cases he : (x == y) with
        | true =>
          have he2 : (x != y) = false := by rw [bne, he]; rfl
          have hR := Lib.hid (hbah.out.trans (by rw [he]; rfl) : p.brAt k = true)
          go_wp2_with fail
          go_roundw
          case rel =>
            refine ⟨k + 1, by go_num, by omega, fun j hj => ?_, hgx2⟩
            by_cases hjk : j = k
            · subst hjk; exact hR.out
            · exact hallh.out j (by omega)
          case measure => simp [intOf]; omega
        | false =>
          have he2 : (x != y) = true := by rw [bne, he]; rfl
          have hR := Lib.hid (br_no hlt (hbah.out.trans (by rw [he]; rfl)))
          go_wp2_with fail
          go_ret
          exact ⟨by rw [hR.out]; rfl, gr_trans hg0 hgx2⟩
    · have hR := Lib.hid (show p.br = true from Pl.br_iff.2 fun j hj => hallh.out j (by omega))
      go_wp2_with fail
      go_ret
      exact ⟨by rw [hR.out]; rfl, gr_trans hg0 hgx⟩
end Go.Proofs.YtegidbdgneecmaaDoor
