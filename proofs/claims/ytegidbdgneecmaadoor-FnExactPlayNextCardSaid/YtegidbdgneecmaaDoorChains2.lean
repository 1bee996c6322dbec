/- The end of the region of two chains: the play is made and stored. -/
import Derived.Test.YtegidbdgneecmaaDoorChains
import Derived.Test.YtegidbdgneecmaaDoorMovesL
namespace Go.Proofs.YtegidbdgneecmaaDoor
open Go.RowKit

theorem chains_end {ops : Array Oper} {Q : Exit → Act → World → Prop} {S : World → Prop} (h14 : Is ops 14 21 (.build 30 #[(0, .tmp 13), (1, .tmp 20)])) (h15 : ∃ o, ops[15]? = some o ∧ o.guard = none ∧ o.op = .store 30 (.tmp 6) (.tmp 21) ∧ o.dst = none)
    (r0 : Region.ready .any ops (Ls true true true true true true true true) = [14]) (r1 : Region.ready .any ops ((Ls true true true true true true true true).setIfInBounds 14 true) = [15]) (r2 : Region.ready .any ops (((Ls true true true true true true true true).setIfInBounds 14 true).setIfInBounds 15 true) = [])
    {a : Act} {w : World} {r n n' c c' : Nat} {A A' : Option Addr} (k1 : a.eval (.tmp 13) = .slice A n c) (k2 : a.eval (.tmp 20) = .slice A' n' c') (k6 : a.eval (.tmp 6) = .pointer (some ⟨r, 0, none⟩)) (hlt : 21 < a.tmps.size) (hS : S w) (hr : Blk w r 30 #[.slice none 0 0, .slice none 0 0])
    (hSr : S ((w.setCell ⟨r, 0, none⟩ (.slice A n c)).setCell ⟨r, 1, none⟩ (.slice A' n' c')))
    (fin : ∀ a' : Act, a'.eval (.tmp 6) = .pointer (some ⟨r, 0, none⟩) → a'.defers = a.defers → Q .normal a' ((w.setCell ⟨r, 0, none⟩ (.slice A n c)).setCell ⟨r, 1, none⟩ (.slice A' n' c'))) :
    wpAnyH Tryd.prog .any ops Q S 2 (Ls true true true true true true true true) a w := by
  refine ⟨fun h => (by rw [r0] at h; cases h), fun i hi => ?_⟩
  rw [r0] at hi
  obtain rfl := List.mem_singleton.1 hi
  have k1' : a.tmps[13]?.getD undef = .slice A n c := by simpa [Act.eval] using k1
  have k2' : a.tmps[20]?.getD undef = .slice A' n' c' := by simpa [Act.eval] using k2
  refine wpOp_of h14 fun o ho hd => ?_
  unfold Oper.wp execOp
  simp only [ho]
  go_simp
  refine ⟨hS, fun h => (by rw [r1] at h; cases h), fun i hi => ?_⟩
  rw [r1] at hi
  obtain rfl := List.mem_singleton.1 hi
  have k6' : a.tmps[6]?.getD undef = .pointer (some ⟨r, 0, none⟩) := by simpa [Act.eval] using k6
  have k6'' : (a.tmps.setIfInBounds 21 (.agg #[.slice A n c, .slice A' n' c']))[6]?.getD undef = .pointer (some ⟨r, 0, none⟩) := by simpa [Array.getElem?_setIfInBounds_ne] using k6'
  have k21 : (a.tmps.setIfInBounds 21 (.agg #[.slice A n c, .slice A' n' c']))[21]?.getD undef = .agg #[.slice A n c, .slice A' n' c'] := by simp [hlt]
  generalize a.tmps.setIfInBounds 21 (.agg #[.slice A n c, .slice A' n' c']) = T at *
  obtain ⟨o2, j1, j2, j3, j4⟩ := h15
  have x0 := hr.cell 0
  have x1 := hr.cell 1
  have f0 := hr.free 0
  have f1 := hr.free 1
  simp only [List.getElem?_toArray, List.getElem?_cons_zero, List.getElem?_cons_succ] at x0 x1
  unfold wpOp
  have hw : Region.wanted o2 (yielded ops T) = true := by simp [Region.wanted, j2]
  simp only [j1, hw, if_true]
  refine .inl ?_
  unfold Oper.wp execOp
  simp only [j3]
  go_simp
  exact ⟨hSr, r2, fin _ (by simpa [Act.eval] using k6'') rfl⟩
end Go.Proofs.YtegidbdgneecmaaDoor
