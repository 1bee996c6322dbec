/- eqPlayS on lists with the same plays. -/
import Derived.Test.YtegidbdgneecmaaDoorSames
import Derived.Test.YtegidbdgneecmaaDoorPlayMem
namespace Go.Proofs.YtegidbdgneecmaaDoor
open Go.RowKit

set_option maxHeartbeats 4000000 in
theorem eqPlayS_eq (D E : List PD) (A : Option Addr) (cA : Nat) (B : Option Addr) (cB : Nat) (b1 b2 : Nat) (w : World) (h : PDs w b1 (.slice A D.length cA) D) (k : PDs w b2 (.slice B E.length cB) E)
    (hDE : D.map PD.p = E.map PD.p) (hs : ∀ j (hj : j < D.length), D[j].p.ms.length ≤ 60 ∧ D[j].p.ps.length ≤ 60) :
    Calls Tryd.prog 8 #[.slice A D.length cA, .slice B E.length cB] w fun e w' => e = .returned (.bool true) ∧ w.grownBy w' none := by
  have hlen : E.length = D.length := by simpa using congrArg List.length hDE.symm
  have hel : ∀ j (hj : j < D.length) (hj2 : j < E.length), E[j].p = D[j].p := fun j hj hj2 => by
    have h1 : (E.map PD.p)[j]? = (D.map PD.p)[j]? := by rw [hDE]
    rw [List.getElem?_map, List.getElem?_map, List.getElem?_eq_getElem hj, List.getElem?_eq_getElem hj2] at h1
    simpa using h1
  have hDl := h.len
  unfold maxLen at hDl
  have hh := Lib.hid h
  have kh := Lib.hid k
  have hsh := Lib.hid hs
  have helh := Lib.hid hel
  have hlenh := Lib.hid hlen
  rw [hlen]
  clear h k hs hel hDE hlen
  go_enter Tryd.func8, Tryd.ntmps8
  go_wp2_with fail
  go_loopw [5] (fun i wr => ∃ (j : Nat), j ≤ D.length ∧ i = .int .i64 (j : Int) ∧ w.grownBy wr none) (fun i _ => D.length - (intOf i).toNat)
  case atStart => exact ⟨0, Nat.zero_le _, rfl, gr_refl _ _⟩
  case round =>
    obtain ⟨wi, hwi⟩ : ∃ wo, wo = wr := ⟨_, rfl⟩
    subst hwi
    obtain ⟨j, hjl, rfl, hgr⟩ := hrel
    by_cases hj : j < D.length
    · have hj2 : j < E.length := by rw [hlenh.out]; exact hj
      obtain ⟨g, cap, hvl, _, c0, c1⟩ := (hh.out.keep hgr).get hj
      injection hvl with e1 e2 e3
      subst e1 e3
      obtain ⟨g', cap', hvl, _, k0, k1⟩ := (kh.out.keep hgr).get hj2
      injection hvl with e1 e2' e3
      subst e1 e3
      have hj0 : 0 ≤ (j : Int) := by omega
      have hj1 : (j : Int) < (D.length : Int) := by omega
      have hgx : wi.grownBy wi.drew none := gr_drew (gr_refl _ _)
      have hlt := World.block_lt_of_cell? wi ⟨g, 2 * j, none⟩ c0
      have hlt2 := World.block_lt_of_cell? wi ⟨g', 2 * j, none⟩ k0
      have hSp := fun (W : World) (hW : wi.grownBy W none) => eqPlay_any D[j].p E[j].p D[j].A D[j].cA D[j].B D[j].cB E[j].A E[j].cA E[j].B E[j].cB _ _ W ((hh.out.keep (gr_trans hgr hW)).2 _ (List.getElem_mem hj)).sl ((kh.out.keep (gr_trans hgr hW)).2 _ (List.getElem_mem hj2)).sl (by have := hsh.out j hj; omega) (by have := hsh.out j hj; omega) (by have := hsh.out j hj; rw [helh.out j hj hj2]; omega) (by have := hsh.out j hj; rw [helh.out j hj hj2]; omega)
      rw [show plEq D[j].p E[j].p = true by rw [helh.out j hj hj2]; exact plEq_self _] at hSp
      have hSph := Lib.hid hSp
      have hkp := Lib.hid (fun (W : World) (hW : wi.grownBy W none) => show W.cell? ⟨g, j * 2, none⟩ = some D[j].a ∧ W.cell? ⟨g, j * 2 + 1, none⟩ = some D[j].b ∧ W.cell? ⟨g', j * 2, none⟩ = some E[j].a ∧ W.cell? ⟨g', j * 2 + 1, none⟩ = some E[j].b from by
        rw [Nat.mul_comm j 2]
        exact ⟨(World.cell?_of_block (w := wi) (a := ⟨g, 2 * j, none⟩) (hW.block g hlt (by simp))).trans c0, (World.cell?_of_block (w := wi) (a := ⟨g, 2 * j + 1, none⟩) (hW.block g hlt (by simp))).trans c1, (World.cell?_of_block (w := wi) (a := ⟨g', 2 * j, none⟩) (hW.block g' hlt2 (by simp))).trans k0, (World.cell?_of_block (w := wi) (a := ⟨g', 2 * j + 1, none⟩) (hW.block g' hlt2 (by simp))).trans k1⟩)
      clear c0 c1 k0 k1 hSp hlt hlt2
      obtain ⟨c0, c1, k0, k1⟩ := hkp.out wi (gr_refl _ _)
      go_wp2_with fail
      go_region_held3 (fun w' => w'.cell? ⟨g, j * 2, none⟩ = some D[j].a ∧ w'.cell? ⟨g, j * 2 + 1, none⟩ = some D[j].b ∧ w'.cell? ⟨g', j * 2, none⟩ = some E[j].a ∧ w'.cell? ⟨g', j * 2 + 1, none⟩ = some E[j].b)
        (first | exact hkp.out _ (gr_trans hgx hg6) | exact hkp.out _ hgx | go_keep)
        (first
          | (go_at_call 9; refine (hSph.out _ hgx).mono ?_; rintro e w6 ⟨rfl, hg6⟩))
      go_wp2_with fail
      go_roundw
      case rel => exact ⟨j + 1, by omega, by go_num, gr_trans hgr (gr_trans hgx hg6)⟩
      case measure => simp [intOf]; omega
    · obtain rfl : j = D.length := by omega
      go_wp2_with fail
      go_ret
      exact ⟨rfl, hgr⟩
end Go.Proofs.YtegidbdgneecmaaDoor
