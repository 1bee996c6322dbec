/- markPlayS: marks a list of plays. (Draft.) -/
import Derived.Test.YtegidbdgneecmaaDoorHeldPlayS
namespace Go.Proofs.YtegidbdgneecmaaDoor
open Go.RowKit

/-- The rows of the plays, those below j marked. -/
def MI (w : World) (base : Nat) (D : List PD) (k j : Nat) : Prop :=
  ∀ i (hi : i < D.length), ∃ vs us, w.ownsRow base 9 1 (.slice D[i].A D[i].p.ms.length D[i].cA) D[i].p.ms.length vs ∧ w.ownsRow base 3 1 (.slice D[i].B D[i].p.ps.length D[i].cB) D[i].p.ps.length us ∧
    (i < j → vs = (marks (offs D k i) D[i].p.ms.length).map strv ∧ us = (imarks (offs D k i + D[i].p.ms.length) D[i].p.ps.length).map intv)
theorem Apart.ne {D : List PD} (h : Apart D) {i j : Nat} (hi : i < D.length) (hj : j < D.length) (hne : i ≠ j) : (∀ g, D[i].a.ownBlock = some g → some g ≠ D[j].a.ownBlock) ∧ (∀ g, D[i].b.ownBlock = some g → some g ≠ D[j].b.ownBlock) := by
  rcases Nat.lt_or_gt_of_ne hne with hl | hl
  · have h2 := (List.pairwise_iff_getElem.1 h) i j hi hj hl
    exact ⟨fun g hg e => h2.1 g hg e.symm, fun g hg e => h2.2 g hg e.symm⟩
  · have h2 := (List.pairwise_iff_getElem.1 h) j i hj hi hl
    exact ⟨fun g hg e => h2.1 g e.symm hg, fun g hg e => h2.2 g e.symm hg⟩
theorem own_diff {w : World} {b b' n n' : Nat} {e e' : TypeId} {v u : Value} {xs ys : List Value} (h : w.ownsRow b e 1 v n xs) (k : w.ownsRow b' e' 1 u n' ys) (hne : e ≠ e') : ∀ g, v.ownBlock = some g → some g ≠ u.ownBlock := fun g hg hx => by
  obtain ⟨_, h1⟩ := own_ty h hg
  obtain ⟨_, h2⟩ := own_ty k hx.symm
  unfold Blk at h1 h2
  rw [h1] at h2
  injection h2 with h3
  injection h3 with _ h4 _
  exact hne h4
theorem own_keepX {w w' : World} {base : Nat} {e : TypeId} {v : Value} {n : Nat} {xs : List Value} {x : Option Nat} (h : w.ownsRow base e 1 v n xs) (hg : w.grownBy w' x) (hx : ∀ g, v.ownBlock = some g → some g ≠ x) : w'.ownsRow base e 1 v n xs :=
  own_keep2 h hg fun g a _ => hx g a
theorem MI.step {w w2 w3 : World} {base : Nat} {D : List PD} {k j : Nat} (h : MI w base D k j) (ha : Apart D) (hj : j < D.length)
    (hg2 : w.grownBy w2 D[j].a.ownBlock) (hA : w2.ownsRow base 9 1 D[j].a D[j].p.ms.length ((marks (offs D k j) D[j].p.ms.length).map strv))
    (hg3 : w2.grownBy w3 D[j].b.ownBlock) (hB : w3.ownsRow base 3 1 D[j].b D[j].p.ps.length ((imarks (offs D k j + D[j].p.ms.length) D[j].p.ps.length).map intv)) : MI w3 base D k (j + 1) := by
  intro i hi
  obtain ⟨vs, us, h1, h2, h3⟩ := h i hi
  obtain ⟨vj, uj, j1, j2, _⟩ := h j hj
  by_cases hij : i = j
  · subst hij
    exact ⟨_, _, own_keepX hA hg3 (own_diff hA (own_keepX j2 hg2 (own_diff j2 j1 (by decide))) (by decide)), hB, fun _ => ⟨rfl, rfl⟩⟩
  · have hn := ha.ne hi hj hij
    have k1 := own_keepX h1 hg2 hn.1
    have k2 := own_keepX h2 hg2 (own_diff h2 j1 (by decide))
    have jb := own_keepX j2 hg2 (own_diff j2 j1 (by decide))
    exact ⟨vs, us, own_keepX k1 hg3 (own_diff k1 jb (by decide)), own_keepX k2 hg3 hn.2, fun hlt => h3 (by omega)⟩
theorem own2_diff {w : World} {b b' n n' : Nat} {e : TypeId} {v u : Value} {xs ys : List Value} (h : w.ownsRow b 30 2 v n xs) (k : w.ownsRow b' e 1 u n' ys) (hne : 30 ≠ e) : ∀ g, v.ownBlock = some g → some g ≠ u.ownBlock := fun g hg hx => by
  obtain ⟨_, _, h1⟩ := own2_ty h hg
  obtain ⟨_, h2⟩ := own_ty k hx.symm
  unfold Blk at h1 h2
  rw [h1] at h2
  injection h2 with h3
  injection h3 with _ h4 _
  exact hne h4
set_option maxHeartbeats 4000000 in
theorem markPlayS_any (D : List PD) (A : Option Addr) (cA base b2 k : Nat) (Wb w : World) (hrow : w.ownsRow b2 30 2 (.slice A D.length cA) D.length (D.flatMap PD.cells)) (hm : MI w base D k 0) (ha : Apart D)
    (hWb : Wb.heap.size ≤ base) (hgb : Wb.grownBy w none)
    (hk1 : 1 ≤ k) (hT : ∀ j ≤ D.length, offs D k j ≤ 100000000) (hs : ∀ j (hj : j < D.length), D[j].p.ms.length ≤ 1000 ∧ D[j].p.ps.length ≤ 1000) (hD : D.length ≤ 100000000) :
    Calls Tryd.prog 11 #[.slice A D.length cA, .int .i64 (k : Int)] w fun e w' => e = .returned (.int .i64 (offs D k D.length : Int)) ∧ MI w' base D k D.length ∧ w'.ownsRow b2 30 2 (.slice A D.length cA) D.length (D.flatMap PD.cells) ∧ Wb.grownBy w' none := by
  have hrowh := Lib.hid hrow
  have hmh := Lib.hid hm
  have hTh := Lib.hid hT
  have hsh := Lib.hid hs
  have hah := Lib.hid ha
  clear hrow hm hT hs ha
  go_enter Tryd.func11, Tryd.ntmps11
  go_wp2_with fail
  go_loopw [1, 5] (fun c i wr => ∃ (j : Nat), j ≤ D.length ∧ i = .int .i64 (j : Int) ∧ c = .int .i64 (offs D k j : Int) ∧ MI wr base D k j ∧ wr.ownsRow b2 30 2 (.slice A D.length cA) D.length (D.flatMap PD.cells) ∧ Wb.grownBy wr none) (fun _ i _ => D.length - (intOf i).toNat)
  case atStart => exact ⟨0, Nat.zero_le _, rfl, rfl, hmh.out, hrowh.out, hgb⟩
  case round =>
    obtain ⟨wi, hwi⟩ : ∃ wo, wo = wr := ⟨_, rfl⟩
    subst hwi
    obtain ⟨j, hjl, rfl, rfl, hM, hR, hgr⟩ := hrel
    have hMh := Lib.hid hM
    have hRh := Lib.hid hR
    clear hM hR
    by_cases hj : j < D.length
    · have ho0 := hTh.out j hjl
      have ho1 := hTh.out (j + 1) hj
      have hos := Lib.hid (offs_succ (k := k) hj)
      have hsj := hsh.out j hj
      have ho2 : 1 ≤ offs D k j := by unfold offs; omega
      obtain ⟨vs, us, r1, r2, _⟩ := hMh.out j hj
      have hS1 := Lib.hid (markStringS_any base D[j].p.ms.length D[j].cA (offs D k j) D[j].A vs wi r1 (by omega) (by omega) (by omega))
      have hS2 := Lib.hid (fun (W : World) (h : W.ownsRow base 3 1 (.slice D[j].B D[j].p.ps.length D[j].cB) D[j].p.ps.length us) => markIntS_any base D[j].p.ps.length D[j].cB (offs D k j + D[j].p.ms.length) D[j].B us W h (by omega) (by omega) (by omega))
      have r1h := Lib.hid r1
      have r2h := Lib.hid r2
      obtain ⟨g, cap, hvl, _, c0, c1⟩ := row2_get hRh.out hj
      injection hvl with e1 e2 e3
      subst e1 e3
      have hj0 : 0 ≤ (j : Int) := by omega
      have hj1 : (j : Int) < (D.length : Int) := by omega
      rw [Nat.mul_comm 2 j] at c0 c1
      unfold PD.a at c0
      clear c1 r1 r2
      go_wp2_with fail
      refine hS1.out.mono ?_
      rintro e w2 ⟨rfl, q1, hg2⟩
      have hR2 := Lib.hid (own2_keep hRh.out hg2 (own2_diff hRh.out r1h.out (by decide)))
      have q2 := own_keepX r2h.out hg2 (own_diff r2h.out r1h.out (by decide))
      obtain ⟨g', cap', hvl, _, _, c1⟩ := row2_get hR2.out hj
      have hgg : g' = g := by cases hvl; rfl
      rw [hgg, Nat.mul_comm 2 j] at c1
      unfold PD.b at c1
      have q1h := Lib.hid q1
      have q2h := Lib.hid q2
      clear c0 hvl hgg q1 q2
      go_wp2_with fail
      refine (hS2.out w2 q2h.out).mono ?_
      rintro e w3 ⟨rfl, q3, hg3⟩
      have hg4 := gr_x (gr_x hgr hg2 (fun g hg => Nat.le_trans hWb (own_base r1h.out hg))) hg3 (fun g hg => Nat.le_trans hWb (own_base q2h.out hg))
      have hM3 := Lib.hid (hMh.out.step hah.out hj hg2 q1h.out hg3 q3)
      have hR3 := Lib.hid (own2_keep hR2.out hg3 (own2_diff hR2.out q2h.out (by decide)))
      clear q3
      go_wp2_with fail
      go_roundw
      case rel => exact ⟨j + 1, by omega, by go_num, by first | (rw [hos.out]; done) | (rw [hos.out]; simp only [Int.natCast_add]; done) | (rw [hos.out]; congr 1; omega), hM3.out, hR3.out, hg4⟩
      case measure => simp [intOf]; omega
    · obtain rfl : j = D.length := by omega
      go_wp2_with fail
      go_ret
      exact ⟨rfl, hMh.out, hRh.out, hgr⟩
end Go.Proofs.YtegidbdgneecmaaDoor
