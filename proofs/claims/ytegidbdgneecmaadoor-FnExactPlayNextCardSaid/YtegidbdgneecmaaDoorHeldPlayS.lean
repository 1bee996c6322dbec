/- heldPlayS: the marks of a list of plays are there. -/
import Derived.Test.YtegidbdgneecmaaDoorEqPlayS
import Derived.Test.YtegidbdgneecmaaDoorPlayNextJ
namespace Go.Proofs.YtegidbdgneecmaaDoor
open Go.RowKit

def PD.wt (d : PD) : Nat := d.p.ms.length + d.p.ps.length
def offs (D : List PD) (k i : Nat) : Nat := k + ((D.take i).map PD.wt).sum
theorem offs_zero (D : List PD) (k : Nat) : offs D k 0 = k := rfl
theorem offs_succ {D : List PD} {k j : Nat} (hj : j < D.length) : offs D k (j + 1) = offs D k j + D[j].p.ms.length + D[j].p.ps.length := by
  unfold offs
  rw [List.take_succ_eq_append_getElem hj, List.map_append, List.sum_append]
  simp [PD.wt]
  omega
/-- The plays' rows hold the marks. -/
def Marked (w : World) (D : List PD) (k : Nat) : Prop :=
  ∀ i (hi : i < D.length), ∃ F G, Sl w F D[i].A D[i].p.ms.length (sv (marks (offs D k i) D[i].p.ms.length)) ∧ Sl w G D[i].B D[i].p.ps.length (iv (imarks (offs D k i + D[i].p.ms.length) D[i].p.ps.length))
/-- The element i. -/
theorem row2_get {w : World} {base : Nat} {v : Value} {D : List PD} (h : w.ownsRow base 30 2 v D.length (D.flatMap PD.cells)) {i : Nat} (hi : i < D.length) : ∃ g cap, v = .slice (some ⟨g, 0, none⟩) D.length cap ∧ base ≤ g ∧ w.cell? ⟨g, 2 * i, none⟩ = some D[i].a ∧ w.cell? ⟨g, 2 * i + 1, none⟩ = some D[i].b := by
  obtain ⟨hl, ⟨rfl, h0⟩ | ⟨g, cap, cur, rfl, hbg, hr, h1, h2, h3, h4⟩⟩ := h
  · omega
  · obtain ⟨k1, k2⟩ := cells_get D i hi
    refine ⟨g, cap, rfl, hbg, ?_, ?_⟩
    · rw [cell_of_row w g _ cur _ (0, 0) hr, ← k1, ← h4]
      rw [List.getElem?_take_of_lt (by omega)]
      simp
    · rw [cell_of_row w g _ cur _ (0, 0) hr, ← k2, ← h4]
      rw [List.getElem?_take_of_lt (by omega)]
      simp
set_option maxHeartbeats 4000000 in
theorem heldPlayS_any (D : List PD) (A : Option Addr) (cA base k : Nat) (w : World) (hrow : w.ownsRow base 30 2 (.slice A D.length cA) D.length (D.flatMap PD.cells)) (hm : Marked w D k)
    (hk1 : 1 ≤ k) (hT : ∀ j ≤ D.length, offs D k j ≤ 100000000) (hs : ∀ j (hj : j < D.length), D[j].p.ms.length ≤ 1000 ∧ D[j].p.ps.length ≤ 1000) (hD : D.length ≤ 100000000) :
    Calls Tryd.prog 12 #[.slice A D.length cA, .int .i64 (k : Int)] w fun e w' => e = .returned (.int .i64 (offs D k D.length : Int)) ∧ w.grownBy w' none := by
  have hrowh := Lib.hid hrow
  have hmh := Lib.hid hm
  have hTh := Lib.hid hT
  have hsh := Lib.hid hs
  clear hrow hm hT hs
  go_enter Tryd.func12, Tryd.ntmps12
  go_wp2_with fail
  go_loopw [1, 5] (fun c i wr => ∃ (j : Nat), j ≤ D.length ∧ i = .int .i64 (j : Int) ∧ c = .int .i64 (offs D k j : Int) ∧ w.grownBy wr none) (fun _ i _ => D.length - (intOf i).toNat)
  case atStart => exact ⟨0, Nat.zero_le _, rfl, rfl, gr_refl _ _⟩
  case round =>
    obtain ⟨wi, hwi⟩ : ∃ wo, wo = wr := ⟨_, rfl⟩
    subst hwi
    obtain ⟨j, hjl, rfl, rfl, hgr⟩ := hrel
    by_cases hj : j < D.length
    · have ho0 := hTh.out j hjl
      have ho1 := hTh.out (j + 1) hj
      have hos := offs_succ (k := k) hj
      have hsj := hsh.out j hj
      have ho2 : 1 ≤ offs D k j := by unfold offs; omega
      obtain ⟨F, G, hA, hB⟩ := hmh.out j hj
      have hS1 := Lib.hid (fun (W : World) (hW : w.grownBy W none) => heldStringS_any D[j].p.ms.length D[j].cA (offs D k j) D[j].A F W (hA.grown0 hW) (by omega) (by omega) (by omega))
      have hS2 := Lib.hid (fun (W : World) (hW : w.grownBy W none) => heldIntS_any D[j].p.ps.length D[j].cB (offs D k j + D[j].p.ms.length) D[j].B G W (hB.grown0 hW) (by omega) (by omega) (by omega))
      obtain ⟨g, cap, hvl, _, c0, c1⟩ := row2_get (own2_keep hrowh.out hgr (by simp)) hj
      injection hvl with e1 e2 e3
      subst e1 e3
      have hj0 : 0 ≤ (j : Int) := by omega
      have hj1 : (j : Int) < (D.length : Int) := by omega
      have hlt := World.block_lt_of_cell? wi ⟨g, 2 * j, none⟩ c0
      have hkp := Lib.hid (fun (W : World) (hW : wi.grownBy W none) => show W.cell? ⟨g, j * 2, none⟩ = some (.slice D[j].A D[j].p.ms.length D[j].cA) ∧ W.cell? ⟨g, j * 2 + 1, none⟩ = some (.slice D[j].B D[j].p.ps.length D[j].cB) from by
        rw [Nat.mul_comm j 2]
        exact ⟨(World.cell?_of_block (w := wi) (a := ⟨g, 2 * j, none⟩) (hW.block g hlt (by simp))).trans c0, (World.cell?_of_block (w := wi) (a := ⟨g, 2 * j + 1, none⟩) (hW.block g hlt (by simp))).trans c1⟩)
      clear c0 c1 hlt hA hB
      obtain ⟨c0, c1⟩ := hkp.out wi (gr_refl _ _)
      generalize hon : offs D k j = o at *
      generalize hon1 : offs D k (j + 1) = o1 at *
      generalize hdj : D[j] = d at *
      generalize ho3 : o + d.p.ms.length = o3 at *
      generalize ho4 : o3 + d.p.ps.length = o4 at *
      have hn3 : ¬ (o3 : Int) < 0 := by omega
      have hn4 : ¬ (o4 : Int) < 0 := by omega
      have hosh := Lib.hid hos
      have honh := Lib.hid hon1
      clear hos hdj hon1
      go_wp2_with fail
      refine (hS1.out wi hgr).mono ?_
      rintro e w2 ⟨rfl, hg2⟩
      clear c0 c1
      obtain ⟨c0, c1⟩ := hkp.out w2 hg2
      go_wp2_with fail
      refine (hS2.out w2 (gr_trans hgr hg2)).mono ?_
      rintro e w3 ⟨rfl, hg3⟩
      go_wp2_with fail
      go_roundw
      case rel => exact ⟨j + 1, by omega, by go_num, by rw [honh.out, hosh.out], gr_trans hgr (gr_trans hg2 hg3)⟩
      case measure => simp [intOf]; omega
    · obtain rfl : j = D.length := by omega
      go_wp2_with fail
      go_ret
      exact ⟨rfl, hgr⟩
end Go.Proofs.YtegidbdgneecmaaDoor
