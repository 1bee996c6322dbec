/- Lists of plays: rows of two-cell elements of one's own. -/
import Derived.Test.YtegidbdgneecmaaDoorPlayWith
namespace Go.Proofs.YtegidbdgneecmaaDoor
open Go.RowKit

/-- A play and where its lists lie. -/
structure PD where
  p : Pl
  A : Option Addr
  cA : Nat
  B : Option Addr
  cB : Nat
def PD.a (d : PD) : Value := .slice d.A d.p.ms.length d.cA
def PD.b (d : PD) : Value := .slice d.B d.p.ps.length d.cB
def PD.cells (d : PD) : List Value := [d.a, d.b]
/-- A list of plays of one's own. -/
def PDs (w : World) (base : Nat) (v : Value) (D : List PD) : Prop :=
  w.ownsRow base 30 2 v D.length (D.flatMap PD.cells) ∧ ∀ d ∈ D, PlO w base d.p d.A d.cA d.B d.cB

theorem info_play : (Tryd.prog.info? 30).map (fun i => (i.zero, i.size, i.bytes)) = some (some (.agg #[.slice none 0 0, .slice none 0 0]), 2, 48) := by kernel_rfl

theorem own2_keep {w w' : World} {base : Nat} {e : TypeId} {v : Value} {n : Nat} {xs : List Value} {x : Option Nat} (h : w.ownsRow base e 2 v n xs) (hg : w.grownBy w' x) (hx : ∀ g, v.ownBlock = some g → some g ≠ x) : w'.ownsRow base e 2 v n xs := by
  obtain ⟨hl, ⟨rfl, rfl⟩ | ⟨g, cap, cur, rfl, hb, hr, h1, h2, h3, h4⟩⟩ := h
  · exact ⟨hl, .inl ⟨rfl, rfl⟩⟩
  · exact ⟨hl, .inr ⟨g, cap, cur, rfl, hb, (hg.block g (Array.getElem?_eq_some_iff.1 hr).1 (hx g rfl)).trans hr, h1, h2, h3, h4⟩⟩
theorem own2_ty {w : World} {base : Nat} {e : TypeId} {v : Value} {n : Nat} {xs : List Value} (h : w.ownsRow base e 2 v n xs) {g : Nat} (hg : v.ownBlock = some g) : base ≤ g ∧ ∃ cur, Blk w g e cur := by
  obtain ⟨_, ⟨rfl, _⟩ | ⟨g', cap', cur, rfl, hbg, hb, _⟩⟩ := h
  · cases hg
  · cases hg
    exact ⟨hbg, cur, hb⟩
theorem own2_form {w : World} {base : Nat} {e : TypeId} {v : Value} {n : Nat} {xs : List Value} (h : w.ownsRow base e 2 v n xs) : ∃ A cap, v = .slice A n cap := by
  obtain ⟨hl, ⟨rfl, rfl⟩ | ⟨g, cap, cur, rfl, _⟩⟩ := h
  · exact ⟨none, 0, rfl⟩
  · exact ⟨_, _, rfl⟩

theorem cells_get : ∀ (D : List PD) (i : Nat) (hi : i < D.length), (D.flatMap PD.cells)[2 * i]? = some D[i].a ∧ (D.flatMap PD.cells)[2 * i + 1]? = some D[i].b
  | [], i, hi => absurd hi (Nat.not_lt_zero _)
  | d :: D, 0, _ => by simp [PD.cells]
  | d :: D, i + 1, hi => by
    have ih := cells_get D i (by simpa using hi)
    have e : (List.flatMap PD.cells (d :: D)) = d.a :: d.b :: List.flatMap PD.cells D := by simp [PD.cells]
    rw [e, show 2 * (i + 1) = 2 * i + 1 + 1 by omega, show 2 * i + 1 + 1 + 1 = (2 * i + 1) + 1 + 1 by omega]
    simpa using ih
theorem cells_len : ∀ (D : List PD), (D.flatMap PD.cells).length = D.length * 2
  | [] => rfl
  | d :: D => by
    have ih := cells_len D
    have e : (List.flatMap PD.cells (d :: D)) = d.a :: d.b :: List.flatMap PD.cells D := by simp [PD.cells]
    rw [e]
    simp only [List.length_cons, ih]
    omega

section
variable {w w' : World} {base : Nat} {v : Value} {D : List PD}
theorem PDs.nil (h : base ≤ w.heap.size) : PDs (w.alloc (.cells #[] 30)) base (.slice (some ⟨w.heap.size, 0, none⟩) 0 0) [] :=
  ⟨⟨rfl, .inr ⟨w.heap.size, 0, #[], rfl, h, heap_alloc_new w _, Nat.le_refl _, by unfold maxLen; omega, rfl, rfl⟩⟩, fun _ h => by cases h⟩
theorem PDs.form (h : PDs w base v D) : ∃ A cap, v = .slice A D.length cap := own2_form h.1
theorem PDs.keep (h : PDs w base v D) (hg : w.grownBy w' none) : PDs w' base v D := ⟨own2_keep h.1 hg (by simp), fun d hd => (h.2 d hd).keep hg⟩
theorem PDs.weak (h : PDs w base v D) {b : Nat} (hb : b ≤ base) : PDs w b v D := by
  refine ⟨?_, fun d hd => (h.2 d hd).weak hb⟩
  obtain ⟨hl, ⟨rfl, h0⟩ | ⟨g, cap, cur, rfl, hbg, hr, h1, h2, h3, h4⟩⟩ := h.1
  · exact ⟨hl, .inl ⟨rfl, h0⟩⟩
  · exact ⟨hl, .inr ⟨g, cap, cur, rfl, Nat.le_trans hb hbg, hr, h1, h2, h3, h4⟩⟩
/-- The element i. -/
theorem PDs.get (h : PDs w base v D) {i : Nat} (hi : i < D.length) : ∃ g cap, v = .slice (some ⟨g, 0, none⟩) D.length cap ∧ base ≤ g ∧ w.cell? ⟨g, 2 * i, none⟩ = some D[i].a ∧ w.cell? ⟨g, 2 * i + 1, none⟩ = some D[i].b := by
  obtain ⟨hl, ⟨rfl, h0⟩ | ⟨g, cap, cur, rfl, hbg, hr, h1, h2, h3, h4⟩⟩ := h.1
  · omega
  · obtain ⟨k1, k2⟩ := cells_get D i hi
    refine ⟨g, cap, rfl, hbg, ?_, ?_⟩
    · rw [cell_of_row w g _ cur _ (0, 0) hr, ← k1, ← h4]
      rw [List.getElem?_take_of_lt (by omega)]
      simp
    · rw [cell_of_row w g _ cur _ (0, 0) hr, ← k2, ← h4]
      rw [List.getElem?_take_of_lt (by omega)]
      simp
/-- A play's lists are of other types. -/
theorem PlO.growP {p : Pl} {A B : Option Addr} {cA cB : Nat} (h : PlO w base p A cA B cB) {x : Option Nat} (hg : w.grownBy w' x) (hx : ∀ g, x = some g → ∃ cs, Blk w g 30 cs) : PlO w' base p A cA B cB := by
  have kp : ∀ {e : TypeId} {n : Nat} {u : Value} {xs : List Value}, e ≠ 30 → w.ownsRow base e 1 u n xs → w'.ownsRow base e 1 u n xs := fun {e n u xs} he k => own_keep2 k hg fun g hu _ hgx => by
    obtain ⟨cs, hc⟩ := hx g hgx.symm
    obtain ⟨c2, k2⟩ := own_ty k hu
    unfold Blk at k2 hc
    rw [hc] at k2
    injection k2 with k3
    injection k3 with _ k4 _
    exact he k4.symm
  exact ⟨kp (by decide) h.1, kp (by decide) h.2⟩

variable {P : Program} {ops : Array Oper} {rest : List Oper} {o : Oper} {a : Act} {Q : Exit → Act → World → Prop}
/-- append of one play. -/
theorem run_appP (t ty : TypeId) (ht : P.underlying t = some (.slice 30)) (hi : (P.info? 30).map (fun i => (i.zero, i.size, i.bytes)) = some (some (.agg #[.slice none 0 0, .slice none 0 0]), 2, 48))
    {A0 : Option Addr} {cap0 : Nat} (hD : PDs w base (.slice A0 D.length cap0) D) (d : PD) {g : Nat} (hb : Blk w g 30 #[d.a, d.b]) (hd : PlO w base d.p d.A d.cA d.B d.cB) (hl : D.length ≤ 1000000) (hbase : base ≤ w.heap.size) :
    ∃ A' cap w', (Builtin.append_ #[t, t] ty #[.slice A0 D.length cap0, .slice (some ⟨g, 0, none⟩) 1 1]).run P w = .ok (.slice A' (D ++ [d]).length cap) w' ∧ PDs w' base (.slice A' (D ++ [d]).length cap) (D ++ [d]) ∧ w.grownBy w' (Value.slice A0 D.length cap0).ownBlock := by
  cases hii : P.info? 30 with
  | none => rw [hii] at hi; cases hi
  | some i =>
    rw [hii] at hi
    injection hi with hi
    injection hi with hz hi
    injection hi with h2 h48
    have e1 : (D ++ [d]).length = D.length + 1 := by simp
    obtain ⟨v', w', hrun, k2, k3, _, k5⟩ := run_append_own_at (P := P) w base t ty 30 i _ 2 48 ht hii hz h2 h48 rfl (by omega) _ D.length _ hD.1 ⟨g, 0, none⟩ 1 1 d.cells rfl
      (fun j u hj => by
        rw [show (Addr.add ⟨g, 0, none⟩ j) = ⟨g, j, none⟩ by (simp [Addr.add]; omega), hb.cell]
        simpa [PD.cells] using hj) (fun u hu => by
        simp only [PD.cells, List.mem_cons, List.not_mem_nil, or_false] at hu
        rcases hu with rfl | rfl <;> rfl) (by unfold maxLen; omega) (by omega) hbase
    obtain ⟨A', cap, rfl⟩ := own2_form k2
    refine ⟨A', cap, w', by rw [e1]; exact hrun, ⟨?_, fun x hx => ?_⟩, k3⟩
    · rw [e1]
      have : (D ++ [d]).flatMap PD.cells = D.flatMap PD.cells ++ d.cells := by simp
      rw [this]
      exact k2
    · have hbl : ∀ g, (Value.slice A0 D.length cap0).ownBlock = some g → ∃ cs, Blk w g 30 cs := fun g hg => (own2_ty hD.1 hg).2
      rcases List.mem_append.1 hx with h1 | h1
      · exact (hD.2 x h1).growP k3 hbl
      · obtain rfl := List.mem_singleton.1 h1
        exact hd.growP k3 hbl
theorem wpList_appP (hgd : o.guard = none) (s x : Operand) (t : TypeId) (ho : o.op = .call { callee := .builtin .append, args := #[s, x], argTypes := #[t, t] })
    (ht : P.underlying t = some (.slice 30)) (hi : (P.info? 30).map (fun i => (i.zero, i.size, i.bytes)) = some (some (.agg #[.slice none 0 0, .slice none 0 0]), 2, 48))
    {A0 : Option Addr} {cap0 : Nat} (hs : a.eval s = .slice A0 D.length cap0) (hD : PDs w base (.slice A0 D.length cap0) D) (d : PD) {g : Nat} (hx : a.eval x = .slice (some ⟨g, 0, none⟩) 1 1) (hb : Blk w g 30 #[d.a, d.b]) (hd : PlO w base d.p d.A d.cA d.B d.cB) (hl : D.length ≤ 1000000) (hbase : base ≤ w.heap.size)
    (h : ∀ A' cap w', PDs w' base (.slice A' (D ++ [d]).length cap) (D ++ [d]) → w.grownBy w' (Value.slice A0 D.length cap0).ownBlock → wpList P ops Q rest (a.put o.dst (.slice A' (D ++ [d]).length cap)) w') : wpList P ops Q (o :: rest) a w := by
  refine wpList_plain hgd fun K hK => ?_
  obtain ⟨A', cap, w', hrun, h2, h3⟩ := run_appP (P := P) t o.type ht hi hD d hb hd hl hbase
  unfold Oper.wp execOp
  simp only [ho, resolve, invoke, builtin, Sem.run_bind, Sem.run_pure, Result.andThen_ok, List.map_toArray, List.map_cons, List.map_nil, hs, hx, hrun]
  exact hK _ _ (h A' cap w' h2 h3)
end
end Go.Proofs.YtegidbdgneecmaaDoor
