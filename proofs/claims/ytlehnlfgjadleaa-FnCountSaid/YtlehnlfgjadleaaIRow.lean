/- Rows of numbers that the call itself makes, as functions. -/
import Derived.Test.YtlehnlfgjadleaaInts
namespace Go.Proofs.Ytlehnlfgjadleaa
open Go.RowKit

def rowV (n : Nat) (f : Nat → Nat) : Array Value := ((List.range n).map fun i => Value.int .i64 (f i : Int)).toArray
/-- Block g is the row of n numbers f. -/
def IRow (w : World) (g n : Nat) (f : Nat → Nat) : Prop := Blk w g 3 (rowV n f)
def upd (f : Nat → Nat) (i x j : Nat) : Nat := if j = i then x else f j
section
variable {w w' : World} {g n : Nat} {f f' : Nat → Nat}
theorem IRow.lt (h : IRow w g n f) : g < w.heap.size := Blk.lt h
theorem IRow.cell (h : IRow w g n f) {i : Nat} (hi : i < n) : w.cell? ⟨g, i, none⟩ = some (.int .i64 (f i : Int)) := by
  rw [Blk.cell h i]
  simp [rowV, hi]
theorem IRow.free (h : IRow w g n f) (i : Nat) : w.frozen? ⟨g, i, none⟩ = false := Blk.free h i
theorem IRow.congr (h : IRow w g n f) (he : ∀ i, i < n → f i = f' i) : IRow w g n f' := by
  have : rowV n f = rowV n f' := by
    unfold rowV
    congr 1
    exact List.map_congr_left fun i hi => by rw [he i (by simpa using hi)]
  unfold IRow at *
  rw [← this]
  exact h
theorem IRow.set (h : IRow w g n f) (i x : Nat) : IRow (w.setCell ⟨g, i, none⟩ (.int .i64 (x : Int))) g n (upd f i x) := by
  have h1 := Blk.set h i (.int .i64 (x : Int))
  have : (rowV n f).setIfInBounds i (.int .i64 (x : Int)) = rowV n (upd f i x) := by
    apply Array.ext
    · simp [rowV]
    · intro j h1 h2
      have hj : j < n := by simpa [rowV] using h2
      rw [Array.getElem_setIfInBounds (by simpa [rowV] using hj)]
      simp only [rowV, List.getElem_toArray, List.getElem_map, List.getElem_range, upd]
      by_cases e : i = j
      · subst e
        simp
      · rw [if_neg e, if_neg (fun h => e h.symm)]
  unfold IRow
  rw [← this]
  exact h1
theorem IRow.other (h : IRow w g n f) {p : Addr} (hp : g ≠ p.block) (u : Value) : IRow (w.setCell p u) g n f := Blk.other h hp u
theorem IRow.alloc (h : IRow w g n f) (o : Obj) : IRow (w.alloc o) g n f := Blk.alloc h o
theorem IRow.grown {x : Option Nat} (h : IRow w g n f) (hg : w.grownBy w' x) (hx : some g ≠ x) : IRow w' g n f := Blk.grown h hg hx
theorem IRow.grown0 (h : IRow w g n f) (hg : w.grownBy w' none) : IRow w' g n f := Blk.grown0 h hg
theorem IRow.sl (h : IRow w g n f) {F : Nat → Prop} (hF : F g) : Sl w F (some ⟨g, 0, none⟩) n (fun i => .int .i64 (f i : Int)) := fun _ =>
  ⟨g, 0, rfl, hF, fun i hi => by rw [Nat.zero_add]; exact h.cell hi⟩
end
theorem irow_made {w' : World} {b g n : Nat} (h : w'.ownsRow b 3 1 (.slice (some ⟨g, 0, none⟩) n n) n (madeCells (Value.int .i64 0).cells (n * 1)).toList) (h0 : 0 < n) : IRow w' g n (fun _ => 0) := by
  obtain ⟨_, ⟨_, e⟩ | ⟨g', cap, cur, e, _, hb, _, _, hs, ht⟩⟩ := h
  · omega
  · injection e with e1 e2 e3
    injection e1 with e1
    injection e1 with e1
    subst e1 e3
    have hc : cur = rowV n (fun _ => 0) := by
      apply Array.ext'
      rw [List.take_of_length_le (by simp; omega)] at ht
      rw [ht]
      unfold madeCells rowV
      apply List.ext_getElem
      · simp
      · intro i h1 h2
        simp [Value.cells, Nat.mod_one]
    unfold IRow Blk
    rw [hb, hc]
/-- make([]int, n) at an operation. -/
theorem wpList_make_row (w : World) {ops : Array Oper} {rest : List Oper} {o : Oper} {a : Act} {Q : Exit → Act → World → Prop}
    (hg : o.guard = none) (l c : Operand) (hop : o.op = Op.makeSlice 22 l c)
    (L C : Int) (n : Nat) (hl : a.eval l = .int .i64 L) (hc : a.eval c = .int .i64 C) (hL : L = (n : Int)) (hC : C = (n : Int)) (h0 : 0 < n) (b2 : n ≤ 1000000)
    (hK : ∀ w', IRow w' w.heap.size n (fun _ => 0) → w.grownBy w' none → wpList Try.prog ops Q rest (a.put o.dst (.slice (some ⟨w.heap.size, 0, none⟩) n n)) w') :
    wpList Try.prog ops Q (o :: rest) a w := by
  obtain ⟨i0, hi, hz, h1s, hb⟩ := info_parts info_int
  exact wpList_make_full w hg l c 22 hop w.heap.size 3 i0 (.int .i64 0) 1 Try.underlying22 hi hz h1s .i64 .i64 L C n hl hc hL hC (by rw [hb]; omega) (by unfold maxLen; omega) (Nat.le_refl _)
    (fun w' h1 h2 => hK w' (irow_made h1 h0) h2)
end Go.Proofs.Ytlehnlfgjadleaa
