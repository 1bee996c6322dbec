/- The play of a view: the program's. -/
import Derived.Test.YtegidbdgneecmaaDoorPlayApi
import Derived.Deep.RegionLaw
import Derived.Deep.RegionHeld3
import Derived.Deep.DeepCutAuto
namespace Go.Proofs.YtegidbdgneecmaaDoor
open Go.RowKit

/-- append of m one-cell elements, at a step of a region that draws its order. -/
theorem step_app {P : Program} {w : World} {ops : Array Oper} {o : Oper} {a : Act} {K : Act → World → Prop} {Q : Exit → Act → World → Prop} {E : Prop} (hgd : o.guard = none) (s x : Operand) (t : TypeId)
    (ho : o.op = .call { callee := .builtin .append, args := #[s, x], argTypes := #[t, t] })
    (base : Nat) (e : TypeId) (z : Value) (bytes : Nat) (ht : P.underlying t = some (.slice e)) (hi : (P.info? e).map (fun i => (i.zero, i.size, i.bytes)) = some (some z, 1, bytes)) (hzs : z.cells.size = 1)
    (A0 : Option Addr) (cap0 n : Nat) (xs : List Value) (hs : a.eval s = .slice A0 n cap0) (hown : w.ownsRow base e 1 (.slice A0 n cap0) n xs)
    (A : Option Addr) (m c : Nat) (f : Nat → Value) (hx : a.eval x = .slice A m c) (F : Nat → Prop) (hr : Sl w F A m f) (h1 : ∀ j, j < m → (f j).oneCell' = true)
    (h63 : n + m ≤ maxLen) (hbytes : (n + m) * bytes ≤ 140737488355328) (hbase : base ≤ w.heap.size)
    (h : ∀ A' cap w', w'.ownsRow base e 1 (.slice A' (n + m) cap) (n + m) (xs ++ (List.range m).map f) → w.grownBy w' (Value.slice A0 n cap0).ownBlock →
      ((Value.slice A' (n + m) cap).ownBlock = (Value.slice A0 n cap0).ownBlock ∨ (Value.slice A' (n + m) cap).ownBlock = some w.heap.size) → K (a.put o.dst (.slice A' (n + m) cap)) w') :
    if Region.wanted o (yielded ops a.tmps) = true then Oper.wp P o a w K Q else E := by
  have hw : Region.wanted o (yielded ops a.tmps) = true := by simp [Region.wanted, hgd]
  rw [if_pos hw]
  obtain ⟨i, hi, hz, h1s, hb⟩ := info_parts hi
  obtain ⟨A', cap, w', hrun, h2, h3, h4⟩ := run_app (P := P) w base t o.type e i z bytes ht hi hz h1s hb hzs A0 cap0 n xs hown A m c f F hr h1 h63 hbytes hbase
  unfold Oper.wp execOp
  simp only [ho, resolve, invoke, builtin, Sem.run_bind, Sem.run_pure, Result.andThen_ok, List.map_toArray, List.map_cons, List.map_nil, hs, hx, hrun]
  exact h A' cap w' h2 h3 h4

/-- Where a play is made: the one that came in, the result's place, the new one (block y). -/
def PInv (w wr : World) (y : Nat) (a : Value) (b : Value) (ms : List (List UInt8)) (ps : List Int) (A : Option Addr) (cA : Nat) (B : Option Addr) (cB : Nat) : Prop :=
  Blk wr w.heap.size 30 #[a, b] ∧ Blk wr (w.heap.size + 1) 30 #[.slice none 0 0, .slice none 0 0] ∧ Blk wr y 30 #[.slice A ms.length cA, .slice B ps.length cB] ∧
    wr.ownsRow w.heap.size 9 1 (.slice A ms.length cA) ms.length (ms.map strv) ∧ wr.ownsRow w.heap.size 3 1 (.slice B ps.length cB) ps.length (ps.map intv) ∧ w.grownBy wr none ∧ w.heap.size + 1 < y

section
variable {w wr : World} {y : Nat} {a b : Value} {ms : List (List UInt8)} {ps : List Int} {A : Option Addr} {cA : Nat} {B : Option Addr} {cB : Nat}
/-- A block of another type is no row of one's own. -/
theorem own_far {e e' : TypeId} {base n : Nat} {v : Value} {xs : List Value} (h : wr.ownsRow base e 1 v n xs) {g : Nat} {cs : Array Value} (hb : Blk wr g e' cs) (he : e ≠ e') : some g ≠ v.ownBlock := fun e1 => by
  obtain ⟨c2, k2⟩ := own_ty h e1.symm
  unfold Blk at hb k2
  rw [hb] at k2
  injection k2 with k2
  injection k2 with _ k3 _
  exact he k3.symm
theorem own_setty {e e' : TypeId} {base n : Nat} {v : Value} {xs : List Value} (h : wr.ownsRow base e 1 v n xs) {p : Addr} {cs : Array Value} (hb : Blk wr p.block e' cs) (he : e ≠ e') (u : Value) : (wr.setCell p u).ownsRow base e 1 v n xs :=
  own_keep2 h (gr_set (gr_refl wr (some p.block)) (.inl rfl) u) (fun g hg _ e1 => own_far h hb he (by rw [hg, ← e1]))

theorem PInv.keep {w2 : World} (h : PInv w wr y a b ms ps A cA B cB) (hg : wr.grownBy w2 none) : PInv w w2 y a b ms ps A cA B cB := by
  obtain ⟨h1, h2, h3, h4, h5, h6, h7⟩ := h
  exact ⟨h1.grown0 hg, h2.grown0 hg, h3.grown0 hg, own_keep h4 hg, own_keep h5 hg, gr_trans h6 hg, h7⟩

/-- A move more. -/
theorem PInv.str {m : List UInt8} {w3 : World} {A' : Option Addr} {c' : Nat} (h : PInv w wr y a b ms ps A cA B cB) (hg : wr.grownBy w3 (Value.slice A ms.length cA).ownBlock)
    (ho : w3.ownsRow w.heap.size 9 1 (.slice A' (ms.length + 1) c') (ms.length + 1) (ms.map strv ++ [strv m])) :
    PInv w (w3.setCell ⟨y, 0, none⟩ (.slice A' (ms.length + 1) c')) y a b (ms ++ [m]) ps A' c' B cB := by
  obtain ⟨h1, h2, h3, h4, h5, h6, h7⟩ := h
  have hl : (ms ++ [m]).length = ms.length + 1 := by simp
  have k5 := own_keep2 h5 hg (fun g hgg _ => own_ne h5 h4 (by decide) hgg)
  have b3 := h3.grown hg (own_far h4 h3 (by decide))
  refine ⟨(h1.grown hg (own_far h4 h1 (by decide))).other (p := ⟨y, 0, none⟩) (by show w.heap.size ≠ y; omega) _, (h2.grown hg (own_far h4 h2 (by decide))).other (p := ⟨y, 0, none⟩) (by show w.heap.size + 1 ≠ y; omega) _, ?_, ?_, own_setty k5 (p := ⟨y, 0, none⟩) b3 (by decide) _, ?_, h7⟩
  · rw [hl]
    exact b3.set 0 _
  · rw [hl, List.map_append]
    exact own_setty ho (p := ⟨y, 0, none⟩) b3 (by decide) _
  · exact gr_set (gr_own h6 h4 hg) (.inr (by show w.heap.size ≤ y; omega)) _
/-- A pointer more. -/
theorem PInv.int {x : Int} {w3 : World} {B' : Option Addr} {d' : Nat} (h : PInv w wr y a b ms ps A cA B cB) (hg : wr.grownBy w3 (Value.slice B ps.length cB).ownBlock)
    (ho : w3.ownsRow w.heap.size 3 1 (.slice B' (ps.length + 1) d') (ps.length + 1) (ps.map intv ++ [intv x])) :
    PInv w (w3.setCell ⟨y, 1, none⟩ (.slice B' (ps.length + 1) d')) y a b ms (ps ++ [x]) A cA B' d' := by
  obtain ⟨h1, h2, h3, h4, h5, h6, h7⟩ := h
  have hl : (ps ++ [x]).length = ps.length + 1 := by simp
  have k4 := own_keep2 h4 hg (fun g hgg _ => own_ne h4 h5 (by decide) hgg)
  have b3 := h3.grown hg (own_far h5 h3 (by decide))
  refine ⟨(h1.grown hg (own_far h5 h1 (by decide))).other (p := ⟨y, 1, none⟩) (by show w.heap.size ≠ y; omega) _, (h2.grown hg (own_far h5 h2 (by decide))).other (p := ⟨y, 1, none⟩) (by show w.heap.size + 1 ≠ y; omega) _, ?_, own_setty k4 (p := ⟨y, 1, none⟩) b3 (by decide) _, ?_, ?_, h7⟩
  · rw [hl]
    exact b3.set 1 _
  · rw [hl, List.map_append]
    exact own_setty ho (p := ⟨y, 1, none⟩) b3 (by decide) _
  · exact gr_set (gr_own h6 h5 hg) (.inr (by show w.heap.size ≤ y; omega)) _
/-- The new play, copied into the result's place. -/
theorem PInv.done (h : PInv w wr y a b ms ps A cA B cB) (u v : Value) : PlO ((wr.setCell ⟨w.heap.size + 1, 0, none⟩ u).setCell ⟨w.heap.size + 1, 1, none⟩ v) w.heap.size ⟨ms, ps⟩ A cA B cB ∧
    ((wr.setCell ⟨w.heap.size + 1, 0, none⟩ u).setCell ⟨w.heap.size + 1, 1, none⟩ v).cell? ⟨w.heap.size + 1, 0, none⟩ = some u ∧ ((wr.setCell ⟨w.heap.size + 1, 0, none⟩ u).setCell ⟨w.heap.size + 1, 1, none⟩ v).cell? ⟨w.heap.size + 1, 1, none⟩ = some v ∧
    w.grownBy ((wr.setCell ⟨w.heap.size + 1, 0, none⟩ u).setCell ⟨w.heap.size + 1, 1, none⟩ v) none := by
  obtain ⟨h1, h2, h3, h4, h5, h6, h7⟩ := h
  have g1 := h2.set 0 u
  have g2 := g1.set 1 v
  simp only [List.setIfInBounds_toArray, List.set_cons_zero, List.set_cons_succ] at g1 g2
  exact ⟨⟨own_setty (own_setty h4 (p := ⟨w.heap.size + 1, 0, none⟩) h2 (by decide) u) (p := ⟨w.heap.size + 1, 1, none⟩) g1 (by decide) v, own_setty (own_setty h5 (p := ⟨w.heap.size + 1, 0, none⟩) h2 (by decide) u) (p := ⟨w.heap.size + 1, 1, none⟩) g1 (by decide) v⟩,
    g2.cell 0, g2.cell 1, gr_set (gr_set h6 (.inr (Nat.le_succ _)) u) (.inr (Nat.le_succ _)) v⟩
end

end Go.Proofs.YtegidbdgneecmaaDoor
