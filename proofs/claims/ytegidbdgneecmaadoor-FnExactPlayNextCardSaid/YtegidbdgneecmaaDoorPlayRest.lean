/- Visible, bracketed: the program's. -/
import Derived.Test.YtegidbdgneecmaaDoorPlayPend
import Derived.Deep.RegionHeld3
namespace Go.Proofs.YtegidbdgneecmaaDoor
open Go.RowKit

theorem visAt_eq {p : Pl} {k : Nat} (h0 : 0 < k) {o : Bool} (ho : mOpp (p.mv k) = o) : p.visAt k = hasI (vI p o k) (p.pt k) := by
  unfold Pl.visAt hasI vI
  rw [ho, show (k == 0) = false by rw [beq_eq_false_iff_ne]; omega, Bool.false_or]
theorem brAt_eq {p : Pl} {k : Nat} : p.brAt k = (mQ (p.mv k) || p.pt k == pendI p k []) := rfl
theorem vis_no {p : Pl} {k : Nat} (hk : k < p.ms.length) (h : p.visAt k = false) : p.vis = false := by
  rw [Bool.eq_false_iff]
  intro hv
  have := Pl.vis_iff.1 hv k hk
  rw [h] at this
  cases this
theorem br_no {p : Pl} {k : Nat} (hk : k < p.ms.length) (h : p.brAt k = false) : p.br = false := by
  rw [Bool.eq_false_iff]
  intro hv
  have := Pl.br_iff.1 hv k hk
  rw [h] at this
  cases this

/-- What of a play lies where, in a world and all later ones. -/
def Cells (w : World) (b : Nat) (A B : Addr) (n cA cB k : Nat) (m : List UInt8) (x : Int) : Prop :=
  w.cell? ⟨b, 0, none⟩ = some (.slice (some A) n cA) ∧ w.cell? ⟨b, 1, none⟩ = some (.slice (some B) n cB) ∧ w.cell? ⟨A.block, A.off + k, none⟩ = some (.string ⟨m.toArray⟩) ∧ w.cell? ⟨B.block, B.off + k, none⟩ = some (.int .i64 x)

set_option maxHeartbeats 2000000 in
theorem visible_any (t : Ty) (p : Pl) (hp : p.ok t = true) (A : Option Addr) (cA : Nat) (B : Option Addr) (cB : Nat) (G : Nat → Prop) (w : World) (h : PlS w G p A B) (hsm : SmallP p) :
    Calls Tryd.prog 51 #[.agg #[.slice A p.ms.length cA, .slice B p.ps.length cB]] w fun e w' => e = .returned (.bool p.vis) ∧ w.grownBy w' none := by
  have h60 := (Pl.ok_iff.1 hp).1
  have hll := (Pl.ok_iff.1 hp).2.1
  have hml := Lib.hid hsm.1.2
  have hg0 := World.grownBy_alloc w (.cells #[.slice A p.ms.length cA, .slice B p.ps.length cB] 30) none
  have hbx := Blk.new w 30 #[.slice A p.ms.length cA, .slice B p.ps.length cB]
  have hpl := Lib.hid (fun (W : World) (hW : (w.alloc (.cells #[.slice A p.ms.length cA, .slice B p.ps.length cB] 30)).grownBy W none) (o : Bool) (k : Nat) (hk : k ≤ p.ms.length) => view_any t p hp A cA B cB G o k W ((h.grown0 hg0).grown0 hW) hsm hk)
  obtain ⟨hA, hB⟩ := h.grown0 hg0
  rw [hll] at hA hB hg0 hbx hpl ⊢
  have hllh := Lib.hid hll
  have hph := Lib.hid hp
  clear hll h hsm hp
  go_enter Tryd.func51, Tryd.ntmps51
  go_wp2_with fail
  go_loopw [3] (fun i wr => ∃ (k : Nat), 1 ≤ k ∧ i = .int .i64 (k : Int) ∧ k ≤ p.ms.length + 1 ∧ (∀ j, j < k → j < p.ms.length → p.visAt j = true) ∧ (w.alloc (.cells #[.slice A p.ms.length cA, .slice B p.ms.length cB] 30)).grownBy wr none) (fun i _ => 1 + p.ms.length - (intOf i).toNat)
  case atStart => exact ⟨1, Nat.le_refl _, rfl, by omega, fun j hj _ => by obtain rfl : j = 0 := by omega
                                                                           rfl, gr_refl _ _⟩
  case round =>
    obtain ⟨k, hk1, rfl, hkn, hall, hgx⟩ := hrel
    have hallh := Lib.hid hall
    clear hall
    have hbw := hbx.grown0 hgx
    have d0 := hbw.cell 0
    have d1 := hbw.cell 1
    simp only [List.getElem?_toArray, List.getElem?_cons_zero, List.getElem?_cons_succ] at d0 d1
    by_cases hlt : k < p.ms.length
    · have hpl' : k < p.ps.length := by rw [hllh.out]; exact hlt
      obtain ⟨g, o1, rfl, _, _⟩ := hA (by omega)
      obtain ⟨g2, o2, rfl, _, _⟩ := hB (by omega)
      obtain ⟨c, r, hcr⟩ := isMove_cons' (Pl.ok_mv hph.out hlt).1
      have hmo : mOpp (p.mv k) = byOpp c r := by rw [hcr]; rfl
      have hva := Lib.hid (visAt_eq (p := p) (by omega : 0 < k) hmo)
      have hrl : r.length ≤ 1048576 := by
        have h := hml.out _ (List.getElem_mem hlt)
        rw [← mv_lt hlt, hcr] at h
        simp at h
        omega
      have hcl := fun (W : World) (hW : (w.alloc (.cells #[.slice (some ⟨g, o1, none⟩) p.ms.length cA, .slice (some ⟨g2, o2, none⟩) p.ms.length cB] 30)).grownBy W none) => show Cells W w.heap.size ⟨g, o1, none⟩ ⟨g2, o2, none⟩ p.ms.length cA cB k (c :: r) (p.pt k) from by
        have h := (hA.grown0 hW).at_ hlt
        rw [sv_lt p.ms hlt, ← mv_lt hlt, hcr] at h
        have h2 := (hB.grown0 hW).at_ hlt
        rw [iv_lt p.ps hpl', ← pt_lt hpl'] at h2
        exact ⟨(hbx.grown0 hW).cell 0, (hbx.grown0 hW).cell 1, h, h2⟩
      have hclh := Lib.hid hcl
      obtain ⟨_, _, c1, c2⟩ := hcl wr hgx
      simp only at c1 c2
      have hB2 := Lib.hid (fun W => byOpponent_any c r W (by omega))
      have hVl := vI_length p (byOpp c r) k
      have hV := Lib.hid (fun W hW => hpl.out W hW (byOpp c r) k (by omega))
      have hk0 : 0 ≤ (k : Int) := by omega
      have hgd : (w.alloc (.cells #[.slice (some ⟨g, o1, none⟩) p.ms.length cA, .slice (some ⟨g2, o2, none⟩) p.ms.length cB] 30)).grownBy wr.drew none := gr_drew hgx
      clear hcl hcr hmo hbw
      generalize byOpp c r = o at *
      generalize p.pt k = x at *
      generalize vI p o k = V at *
      go_wp2_with fail
      go_region_held3 (fun w' => w'.cell? ⟨w.heap.size, 0, none⟩ = some (.slice (some ⟨g, o1, none⟩) p.ms.length cA) ∧ w'.cell? ⟨w.heap.size, 1, none⟩ = some (.slice (some ⟨g2, o2, none⟩) p.ms.length cB) ∧ w'.cell? ⟨g, o1 + k, none⟩ = some (.string ⟨(c :: r).toArray⟩) ∧ w'.cell? ⟨g2, o2 + k, none⟩ = some (.int .i64 x))
        (first | go_keep | exact hclh.out _ hgx2)
        (first
          | (go_at_call 58; refine (hB2.out _).mono ?_; rintro e w' ⟨rfl, rfl⟩)
          | (go_at_call 63; refine (hV.out _ hgd).mono ?_; rintro e w2 ⟨V', c', rfl, hownV, hg2⟩; have hgx2 := gr_trans hgd hg2; have hSV := (own_sli hownV).1)
          | (go_at_call 62; refine (contains_any V x _ _ _ _ hSV (by omega)).mono ?_; rintro e w' ⟨rfl, rfl⟩))
      cases hh : hasI V x with
      | true =>
        have hR := Lib.hid (hva.out.trans hh)
        clear hh
        go_wp2_with fail
        go_roundw
        case rel =>
          refine ⟨k + 1, by omega, by go_num, by omega, fun j hj hjl => ?_, hgx2⟩
          by_cases hjk : j = k
          · subst hjk; exact hR.out
          · exact hallh.out j (by omega) hjl
        case measure => simp [intOf]; omega
      | false =>
        have hR := Lib.hid (vis_no hlt (hva.out.trans hh))
        clear hh
        go_wp2_with fail
        go_ret
        exact ⟨by rw [hR.out]; rfl, gr_trans hg0 hgx2⟩
    · have hR := Lib.hid (show p.vis = true from Pl.vis_iff.2 fun j hj => hallh.out j (by omega) hj)
      go_wp2_with fail
      go_ret
      exact ⟨by rw [hR.out]; rfl, gr_trans hg0 hgx⟩
set_option maxHeartbeats 2000000 in
theorem bracketed_any (t : Ty) (p : Pl) (hp : p.ok t = true) (A : Option Addr) (cA : Nat) (B : Option Addr) (cB : Nat) (G : Nat → Prop) (w : World) (h : PlS w G p A B) (hsm : SmallP p) :
    Calls Tryd.prog 52 #[.agg #[.slice A p.ms.length cA, .slice B p.ps.length cB]] w fun e w' => e = .returned (.bool p.br) ∧ w.grownBy w' none := by
  have h60 := (Pl.ok_iff.1 hp).1
  have hll := (Pl.ok_iff.1 hp).2.1
  have hml := Lib.hid hsm.1.2
  have hg0 := World.grownBy_alloc w (.cells #[.slice A p.ms.length cA, .slice B p.ps.length cB] 30) none
  have hbx := Blk.new w 30 #[.slice A p.ms.length cA, .slice B p.ps.length cB]
  have hpl := Lib.hid (fun (W : World) (hW : (w.alloc (.cells #[.slice A p.ms.length cA, .slice B p.ps.length cB] 30)).grownBy W none) (k : Nat) (hk : k ≤ p.ms.length) => pending_any t p hp A cA B cB G k W ((h.grown0 hg0).grown0 hW) hsm hk)
  obtain ⟨hA, hB⟩ := h.grown0 hg0
  rw [hll] at hA hB hg0 hbx hpl ⊢
  have hllh := Lib.hid hll
  have hph := Lib.hid hp
  clear hll h hsm hp
  go_enter Tryd.func52, Tryd.ntmps52
  go_wp2_with fail
  go_loopw [8] (fun i wr => ∃ (k : Nat), i = .int .i64 (k : Int) ∧ k ≤ p.ms.length ∧ (∀ j, j < k → p.brAt j = true) ∧ (w.alloc (.cells #[.slice A p.ms.length cA, .slice B p.ms.length cB] 30)).grownBy wr none) (fun i _ => p.ms.length - (intOf i).toNat)
  case atStart => exact ⟨0, rfl, by omega, fun j hj => absurd hj (by omega), gr_refl _ _⟩
  case round =>
    obtain ⟨k, rfl, hkn, hall, hgx⟩ := hrel
    have hallh := Lib.hid hall
    clear hall
    have hbw := hbx.grown0 hgx
    have d0 := hbw.cell 0
    have d1 := hbw.cell 1
    simp only [List.getElem?_toArray, List.getElem?_cons_zero, List.getElem?_cons_succ] at d0 d1
    by_cases hlt : k < p.ms.length
    · have hpl' : k < p.ps.length := by rw [hllh.out]; exact hlt
      obtain ⟨g, o1, rfl, _, _⟩ := hA (by omega)
      obtain ⟨g2, o2, rfl, _, _⟩ := hB (by omega)
      obtain ⟨c, r, hcr⟩ := isMove_cons' (Pl.ok_mv hph.out hlt).1
      have hmQ : mQ (p.mv k) = (c == 113) := by rw [hcr]; rfl
      have hba := brAt_eq (p := p) (k := k)
      rw [hmQ] at hba
      have hrl : r.length ≤ 1048576 := by
        have h := hml.out _ (List.getElem_mem hlt)
        rw [← mv_lt hlt, hcr] at h
        simp at h
        omega
      have hcl := fun (W : World) (hW : (w.alloc (.cells #[.slice (some ⟨g, o1, none⟩) p.ms.length cA, .slice (some ⟨g2, o2, none⟩) p.ms.length cB] 30)).grownBy W none) => show Cells W w.heap.size ⟨g, o1, none⟩ ⟨g2, o2, none⟩ p.ms.length cA cB k (c :: r) (p.pt k) from by
        have h := (hA.grown0 hW).at_ hlt
        rw [sv_lt p.ms hlt, ← mv_lt hlt, hcr] at h
        have h2 := (hB.grown0 hW).at_ hlt
        rw [iv_lt p.ps hpl', ← pt_lt hpl'] at h2
        exact ⟨(hbx.grown0 hW).cell 0, (hbx.grown0 hW).cell 1, h, h2⟩
      have hclh := Lib.hid hcl
      obtain ⟨_, _, c1, c2⟩ := hcl wr hgx
      simp only at c1 c2
      have hQ := fun W => isQuestion_any c r W (by omega)
      have hV := Lib.hid (fun W hW => hpl.out W hW k (by omega))
      have hk0 : 0 ≤ (k : Int) := by omega
      clear hcl hcr hmQ hbw
      generalize p.pt k = x at *
      generalize pendI p k [] = y at *
      cases hq : (c == 113) with
      | true =>
        rw [hq] at hQ hba
        have hQh := Lib.hid hQ
        have hR := Lib.hid (show p.brAt k = true by rw [hba]; rfl)
        clear hq hQ hba
        go_wp2_with fail
        go_quiet ((go_at_call 64; exact quiet_eq (hQh.out _)))
        go_wp2_with fail
        go_roundw
        case rel =>
          refine ⟨k + 1, by go_num, by omega, fun j hj => ?_, gr_drewN hgx _⟩
          by_cases hjk : j = k
          · subst hjk; exact hR.out
          · exact hallh.out j (by omega)
        case measure => simp [intOf]; omega
      | false =>
        rw [hq] at hQ hba
        have hQh := Lib.hid hQ
        have hbah := Lib.hid hba
        clear hq hQ hba
        have hgd : (w.alloc (.cells #[.slice (some ⟨g, o1, none⟩) p.ms.length cA, .slice (some ⟨g2, o2, none⟩) p.ms.length cB] 30)).grownBy wr.drew none := gr_drew hgx
        go_wp2_with fail
        go_region_held3 (fun w' => w'.cell? ⟨w.heap.size, 0, none⟩ = some (.slice (some ⟨g, o1, none⟩) p.ms.length cA) ∧ w'.cell? ⟨w.heap.size, 1, none⟩ = some (.slice (some ⟨g2, o2, none⟩) p.ms.length cB) ∧ w'.cell? ⟨g, o1 + k, none⟩ = some (.string ⟨(c :: r).toArray⟩) ∧ w'.cell? ⟨g2, o2 + k, none⟩ = some (.int .i64 x))
          (first | go_keep | exact hclh.out _ hgx2)
          (first
            | (go_at_call 64; refine (hQh.out _).mono ?_; rintro e w' ⟨rfl, rfl⟩)
            | (go_at_call 65; refine (hV.out _ hgd).mono ?_; rintro e w2 ⟨rfl, hg2⟩; have hgx2 := gr_trans hgd hg2))
        cases he : (x == y) with
        | true =>
          have he2 : (x != y) = false := by rw [bne, he]; rfl
          have hR := Lib.hid (hbah.out.trans (by rw [he]; rfl) : p.brAt k = true)
          go_wp2_with fail
          go_roundw
          case rel =>
            refine ⟨k + 1, by go_num, by omega, fun j hj => ?_, hgx2⟩
            by_cases hjk : j = k
            · subst hjk; exact hR.out
            · exact hallh.out j (by omega)
          case measure => simp [intOf]; omega
        | false =>
          have he2 : (x != y) = true := by rw [bne, he]; rfl
          have hR := Lib.hid (br_no hlt (hbah.out.trans (by rw [he]; rfl)))
          go_wp2_with fail
          go_ret
          exact ⟨by rw [hR.out]; rfl, gr_trans hg0 hgx2⟩
    · have hR := Lib.hid (show p.br = true from Pl.br_iff.2 fun j hj => hallh.out j (by omega))
      go_wp2_with fail
      go_ret
      exact ⟨by rw [hR.out]; rfl, gr_trans hg0 hgx⟩
/-- Visible and bracketed (behind a name). -/
def legB (p : Pl) : Bool := p.vis && p.br
set_option maxHeartbeats 400000 in
theorem legal_any (t : Ty) (p : Pl) (hp : p.ok t = true) (A : Option Addr) (cA : Nat) (B : Option Addr) (cB : Nat) (G : Nat → Prop) (w : World) (h : PlS w G p A B) (hsm : SmallP p) :
    Calls Tryd.prog 42 #[.agg #[.slice A p.ms.length cA, .slice B p.ps.length cB]] w fun e w' => e = .returned (.bool (legB p)) ∧ w.grownBy w' none := by
  have hg0 := World.grownBy_alloc w (.cells #[.slice A p.ms.length cA, .slice B p.ps.length cB] 30) none
  have hbx := Blk.new w 30 #[.slice A p.ms.length cA, .slice B p.ps.length cB]
  have h0 := h.grown0 hg0
  have hsmh := Lib.hid hsm
  have hph := Lib.hid hp
  clear hp hsm
  go_enter Tryd.func42, Tryd.ntmps42
  go_wp2_with fail
  refine (visible_any t p hph.out A cA B cB G _ h0 hsmh.out).mono ?_
  rintro e w1 ⟨rfl, hg1⟩
  have hbw := hbx.grown0 hg1
  have d0 := hbw.cell 0
  have d1 := hbw.cell 1
  simp only [List.getElem?_toArray, List.getElem?_cons_zero, List.getElem?_cons_succ] at d0 d1
  cases hv : p.vis with
  | false =>
    have hR := Lib.hid (show legB p = false by unfold legB; rw [hv]; rfl)
    clear hv
    go_wp2_with fail
    go_ret
    exact ⟨by rw [hR.out]; rfl, gr_trans hg0 hg1⟩
  | true =>
    have hR := Lib.hid (show legB p = p.br by unfold legB; rw [hv]; rfl)
    clear hv
    go_wp2_with fail
    refine (bracketed_any t p hph.out A cA B cB G _ (h0.grown0 hg1) hsmh.out).mono ?_
    rintro e w2 ⟨rfl, hg2⟩
    go_wp2_with fail
    go_ret
    exact ⟨by rw [hR.out]; rfl, gr_trans hg0 (gr_trans hg1 hg2)⟩
end Go.Proofs.YtegidbdgneecmaaDoor
