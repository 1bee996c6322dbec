/- samePlays on lists with the same plays, and what next plays are. -/
import Derived.Test.YtegidbdgneecmaaDoorPlayNextA
import Derived.Test.YtegidbdgneecmaaDoorSame
namespace Go.Proofs.YtegidbdgneecmaaDoor
open Go.RowKit

theorem next_mem {r : List UInt8} {pc q : Pl} (h : q ∈ nextPl r pc) : legOf r q = true ∧ ∃ m x, q = pc.snoc m x := by
  unfold nextPl at h
  by_cases hk : nextOk r pc = true
  · rw [if_pos hk] at h
    have hk2 := hk
    unfold nextOk at hk2
    simp at hk2
    obtain ⟨t, htr, hlg, hat, h60⟩ := legOf_some hk2.1
    rw [htr] at h
    obtain ⟨h1, h2⟩ := Pl.mem_next hat hlg (by omega) h
    refine ⟨?_, h2⟩
    unfold legOf playOf
    rw [htr]
    unfold Pl.legal at h1
    exact h1
  · rw [if_neg hk] at h
    cases h
theorem legOf_len {r : List UInt8} {p : Pl} (h : legOf r p = true) : p.ms.length ≤ 60 ∧ p.ps.length = p.ms.length := by
  obtain ⟨t, htr, hlg, hat, h60⟩ := legOf_some h
  have hok : p.ok t = true := by unfold Pl.legal at hlg; simp only [Bool.and_eq_true] at hlg; exact hlg.1
  exact ⟨h60, (Pl.ok_iff.1 hok).2.1⟩
theorem PDs.len {w : World} {base : Nat} {v : Value} {D : List PD} (h : PDs w base v D) : D.length ≤ maxLen := by
  obtain ⟨hl, ⟨rfl, h0⟩ | ⟨g, cap, cur, rfl, hbg, hr, h1, h2, h3, h4⟩⟩ := h.1
  · unfold maxLen; omega
  · omega
theorem next_el {r : List UInt8} {p : Pl} {D : List PD} (hDp : D.map PD.p = nextPl r p) {j : Nat} (hj : j < D.length) : legOf r D[j].p = true ∧ ∃ m x, D[j].p = p.snoc m x :=
  next_mem (by rw [← hDp]; exact List.mem_map.2 ⟨_, List.getElem_mem hj, rfl⟩)
theorem nextPl_nodup (r : List UInt8) (p : Pl) : (nextPl r p).Nodup := by
  unfold nextPl
  by_cases hk : nextOk r p = true
  · rw [if_pos hk]
    have hk2 := hk
    unfold nextOk at hk2
    simp at hk2
    obtain ⟨t, htr, hlg, hat, h60⟩ := legOf_some hk2.1
    rw [htr]
    exact Pl.next_nodup hat p
  · rw [if_neg hk]
    exact List.nodup_nil
theorem next_ne {r : List UInt8} {p : Pl} {D : List PD} (hDp : D.map PD.p = nextPl r p) {j k : Nat} (hk : k < j) (hj : j < D.length) : plEq D[j].p D[k].p = false := by
  have h := nextPl_nodup r p
  rw [← hDp] at h
  have h2 := (List.pairwise_iff_getElem.1 h) k j (by simp; omega) (by simp; omega) hk
  simp only [List.getElem_map] at h2
  rw [Bool.eq_false_iff]
  intro h3
  exact h2 (plEq_iff.1 h3).symm
theorem snoc_cut {p : Pl} (hll : p.ps.length = p.ms.length) (m : List UInt8) (x : Int) : (p.snoc m x).cut p.ms.length = p := by
  obtain ⟨a, b⟩ := p
  simp only at hll
  simp [Pl.cut, Pl.snoc, hll]
end Go.Proofs.YtegidbdgneecmaaDoor
