/- WORDS FOR MEMORY: a block known whole; a slice of pointers or values; trees of types as the program (behind pointers) and the reference (by value) hold them. -/
import Derived.WalkKit
import Derived.WalkSpells
import Derived.WalkLawsBesides
import Derived.Lib.Hide
import Derived.Maps.AppendAt
import Derived.Test.YtlehnlfgjadleaaDoorTy
namespace Go.Proofs.YtlehnlfgjadleaaDoor
open Go.RowKit

/-- Block g is the row cs of type t, nothing of it frozen. -/
def Blk (w : World) (g : Nat) (t : TypeId) (cs : Array Value) : Prop := w.heap[g]? = some (.cells cs t (0, 0))

section
variable {w w' : World} {g : Nat} {t : TypeId} {cs : Array Value}
theorem Blk.lt (h : Blk w g t cs) : g < w.heap.size := (Array.getElem?_eq_some_iff.1 h).1
theorem Blk.cell (h : Blk w g t cs) (i : Nat) : w.cell? ⟨g, i, none⟩ = cs[i]? := cell_of_row w g i cs t (0, 0) h
theorem Blk.free (h : Blk w g t cs) (i : Nat) : w.frozen? ⟨g, i, none⟩ = false := frozen_of_row w g i cs t h
theorem Blk.new (w : World) (t : TypeId) (cs : Array Value) : Blk (w.alloc (.cells cs t)) w.heap.size t cs := heap_alloc_new w _
theorem Blk.alloc (h : Blk w g t cs) (o : Obj) : Blk (w.alloc o) g t cs := (Below.heap_alloc w o g h.lt).trans h
theorem Blk.set (h : Blk w g t cs) (i : Nat) (u : Value) : Blk (w.setCell ⟨g, i, none⟩ u) g t (cs.setIfInBounds i u) := by
  unfold Blk at h ⊢
  simp [World.setCell, Array.getElem?_modify, h]
theorem Blk.other (h : Blk w g t cs) {p : Addr} (hp : g ≠ p.block) (u : Value) : Blk (w.setCell p u) g t cs := (heap_setCell_other w p g u hp).trans h
theorem Blk.grown {x : Option Nat} (h : Blk w g t cs) (hg : w.grownBy w' x) (hx : some g ≠ x) : Blk w' g t cs := (hg.block g h.lt hx).trans h
theorem Blk.grown0 (h : Blk w g t cs) (hg : w.grownBy w' none) : Blk w' g t cs := h.grown hg (by simp)
end

/-! ### what a step keeps -/
section
variable {a b c : World} {x : Option Nat}
theorem gr_refl (w : World) (x : Option Nat) : w.grownBy w x := World.grownBy.refl w x
theorem gr_trans (h : a.grownBy b x) (k : b.grownBy c x) : a.grownBy c x :=
  ⟨k.os.trans h.os, k.tape.trans h.tape, k.output.trans h.output, Nat.le_trans h.size k.size, fun i hi hx => (k.block i (Nat.lt_of_lt_of_le hi h.size) hx).trans (h.block i hi hx)⟩
/-- What keeps all keeps all but one. -/
theorem gr_weak (h : a.grownBy b none) (x : Option Nat) : a.grownBy b x := ⟨h.os, h.tape, h.output, h.size, fun i hi _ => h.block i hi (by simp)⟩
/-- A later step that writes one block that was not there at the start. -/
theorem gr_trans_new {g : Nat} (h : a.grownBy b x) (k : b.grownBy c (some g)) (hg : a.heap.size ≤ g) : a.grownBy c x :=
  ⟨k.os.trans h.os, k.tape.trans h.tape, k.output.trans h.output, Nat.le_trans h.size k.size, fun i hi hx => (k.block i (Nat.lt_of_lt_of_le hi h.size) (fun e => by cases e; omega)).trans (h.block i hi hx)⟩
theorem gr_alloc (h : a.grownBy b x) (o : Obj) : a.grownBy (b.alloc o) x := gr_trans h (World.grownBy_alloc b o x)
theorem gr_set (h : a.grownBy b x) {p : Addr} (hp : x = some p.block ∨ a.heap.size ≤ p.block) (u : Value) : a.grownBy (b.setCell p u) x :=
  ⟨h.os, h.tape, h.output, by simpa using h.size, fun i hi hx => (heap_setCell_other b p i u (by
    rintro rfl
    rcases hp with hp | hp
    · exact hx hp.symm
    · omega)).trans (h.block i hi hx)⟩
theorem gr_drew (h : a.grownBy b x) : a.grownBy b.drew x := ⟨h.os, h.tape, h.output, h.size, h.block⟩
theorem gr_drewN (h : a.grownBy b x) (n : Nat) : a.grownBy (b.drewN n) x := ⟨h.os, h.tape, h.output, h.size, h.block⟩
theorem gr_below (h : Below a.heap.size a b) : a.grownBy b none := ⟨h.os, h.tape, h.output, h.size, fun i hi _ => h.block i hi⟩
theorem below_gr (h : a.grownBy b none) : Below a.heap.size a b := ⟨h.os, h.tape, h.output, h.size, fun i hi => h.block i hi (by simp)⟩
end

/-- Blocks from lo on. -/
def Fr (lo : Nat) : Nat → Prop := fun b => lo ≤ b
/-- All blocks. -/
def Al : Nat → Prop := fun _ => True
/-- All blocks but one. -/
def Ne (g : Nat) : Nat → Prop := fun b => b ≠ g

/-- A slice value with address A whose first n elements (one cell each) are f 0, f 1, ..; its block is one of F. -/
def Sl (w : World) (F : Nat → Prop) (A : Option Addr) (n : Nat) (f : Nat → Value) : Prop :=
  0 < n → ∃ g o, A = some ⟨g, o, none⟩ ∧ F g ∧ ∀ i, i < n → w.cell? ⟨g, o + i, none⟩ = some (f i)

section
variable {w w' : World} {F G : Nat → Prop} {A : Option Addr} {n : Nat} {f : Nat → Value}
theorem Sl.keep (h : Sl w F A n f) (hk : ∀ b, F b → b < w.heap.size → w'.heap[b]? = w.heap[b]?) : Sl w' F A n f := fun hn => by
  obtain ⟨g, o, e, hg, hc⟩ := h hn
  refine ⟨g, o, e, hg, fun i hi => ?_⟩
  have hlt : g < w.heap.size := World.block_lt_of_cell? w ⟨g, o + i, none⟩ (hc i hi)
  exact (World.cell?_of_block (w := w) (a := ⟨g, o + i, none⟩) (hk g hg hlt)).trans (hc i hi)

theorem Sl.mono (h : Sl w F A n f) (hm : ∀ b, F b → b < w.heap.size → G b) : Sl w G A n f := fun hn => by
  obtain ⟨g, o, e, hg, hc⟩ := h hn
  exact ⟨g, o, e, hm g hg (World.block_lt_of_cell? w ⟨g, o + 0, none⟩ (hc 0 hn)), hc⟩

theorem Sl.grown0 (h : Sl w F A n f) (hg : w.grownBy w' none) : Sl w' F A n f := h.keep fun b _ hl => hg.block b hl (by simp)

theorem Sl.at_ {g o : Nat} (h : Sl w F (some ⟨g, o, none⟩) n f) {i : Nat} (hi : i < n) : w.cell? ⟨g, o + i, none⟩ = some (f i) := by
  obtain ⟨g', o', e, _, hc⟩ := h (by omega)
  cases e
  exact hc i hi
theorem Sl.nil_ : Sl w F A 0 f := fun h => absurd h (by omega)
end

/-! ### rows that the call itself makes; append of one-cell elements -/
theorem own_form {w : World} {base : Nat} {e : TypeId} {v : Value} {n : Nat} {xs : List Value} (h : w.ownsRow base e 1 v n xs) :
    ∃ A cap, v = .slice A n cap ∧ ∀ F : Nat → Prop, (∀ g, v.ownBlock = some g → F g) → Sl w F A n (fun i => xs.getD i default) := by
  obtain ⟨hl, ⟨rfl, rfl⟩ | ⟨g, cap, cur, rfl, hb, hg, hn, hm, hs, ht⟩⟩ := h
  · exact ⟨none, 0, rfl, fun _ _ h => absurd h (by omega)⟩
  · refine ⟨some ⟨g, 0, none⟩, cap, rfl, fun F hx _ => ⟨g, 0, rfl, hx g rfl, fun i hi => ?_⟩⟩
    rw [cell_of_row w g (0 + i) cur e (0, 0) hg, ← ht]
    have hc : i < cur.size := by omega
    simp [List.getD, hi, hc]

theorem own_base {w : World} {base : Nat} {e : TypeId} {v : Value} {n : Nat} {xs : List Value} (h : w.ownsRow base e 1 v n xs) {g : Nat} (hg : v.ownBlock = some g) : base ≤ g := (h.lt g hg).1

theorem run_append_nil_src {P : Program} (w : World) (base : Nat) (t ty e : TypeId) (i : TypeInfo) (size : Nat) (ht : P.underlying t = some (.slice e)) (hi : P.info? e = some i)
    (v : Value) (n : Nat) (xs : List Value) (hown : w.ownsRow base e size v n xs) (c : Nat) : (Builtin.append_ #[t, t] ty #[v, .slice none 0 c]).run P w = .ok v w := by
  rcases hown.2 with ⟨rfl, rfl⟩ | ⟨g, cap, cur, rfl, _, _, hnc, _⟩
  · simp [Builtin.append_, run_underlying ht, sizeOf, typeInfo, hi, Builtin.lenOf, Builtin.firstCells]
  · simp [Builtin.append_, run_underlying ht, sizeOf, typeInfo, hi, Builtin.lenOf, Builtin.firstCells, hnc, storeCells]

/-- append of m one-cell elements, wherever they lie, onto a row of the call's own. -/
theorem run_app {P : Program} (w : World) (base : Nat) (t ty e : TypeId) (i : TypeInfo) (z : Value) (bytes : Nat) (ht : P.underlying t = some (.slice e)) (hi : P.info? e = some i) (hz : i.zero = some z)
    (hsize : i.size = 1) (hby : i.bytes = bytes) (hzs : z.cells.size = 1) (A0 : Option Addr) (cap0 : Nat) (n : Nat) (xs : List Value) (hown : w.ownsRow base e 1 (.slice A0 n cap0) n xs)
    (A : Option Addr) (m c : Nat) (f : Nat → Value) (F : Nat → Prop) (hr : Sl w F A m f) (h1 : ∀ j, j < m → (f j).oneCell' = true)
    (h63 : n + m ≤ maxLen) (hbytes : (n + m) * bytes ≤ 140737488355328) (hbase : base ≤ w.heap.size) :
    ∃ A' cap w', (Builtin.append_ #[t, t] ty #[.slice A0 n cap0, .slice A m c]).run P w = .ok (.slice A' (n + m) cap) w' ∧ w'.ownsRow base e 1 (.slice A' (n + m) cap) (n + m) (xs ++ (List.range m).map f) ∧
      w.grownBy w' (Value.slice A0 n cap0).ownBlock ∧ ((Value.slice A' (n + m) cap).ownBlock = (Value.slice A0 n cap0).ownBlock ∨ (Value.slice A' (n + m) cap).ownBlock = some w.heap.size) := by
  rcases Nat.eq_zero_or_pos m with rfl | hm
  · rcases A with _ | ad
    · exact ⟨A0, cap0, w, run_append_nil_src w base t ty e i 1 ht hi _ n xs hown c, by simpa using hown, World.grownBy.refl w _, .inl rfl⟩
    · obtain ⟨v', w', hrun, h2, h3, _, h5⟩ := run_append_own_at (P := P) w base t ty e i z 1 bytes ht hi hz hsize hby hzs (by omega) _ n xs hown ad 0 c [] rfl (by simp) (by simp) h63 hbytes hbase
      obtain ⟨A', cap, rfl, _⟩ := own_form h2
      exact ⟨A', cap, w', hrun, by simpa using h2, h3, h5⟩
  · obtain ⟨g, o, rfl, _, hc⟩ := hr hm
    obtain ⟨v', w', hrun, h2, h3, _, h5⟩ := run_append_own_at (P := P) w base t ty e i z 1 bytes ht hi hz hsize hby hzs (by omega) _ n xs hown ⟨g, o, none⟩ m c ((List.range m).map f) (by simp)
      (by
        intro j u hu
        have hj : j < m := by
          have := (List.getElem?_eq_some_iff.1 hu).1
          simpa using this
        rw [Addr.add_lit, hc j hj]
        simpa [hj] using hu)
      (by
        intro u hu
        obtain ⟨j, hj, rfl⟩ := List.mem_map.1 hu
        exact h1 j (by simpa using hj)) h63 hbytes hbase
    obtain ⟨A', cap, rfl, _⟩ := own_form h2
    exact ⟨A', cap, w', hrun, h2, h3, h5⟩

theorem wpList_app {P : Program} {w : World} {ops : Array Oper} {rest : List Oper} {o : Oper} {a : Act} {Q : Exit → Act → World → Prop} (hgd : o.guard = none) (s x : Operand) (t : TypeId)
    (ho : o.op = .call { callee := .builtin .append, args := #[s, x], argTypes := #[t, t] })
    (base : Nat) (e : TypeId) (z : Value) (bytes : Nat) (ht : P.underlying t = some (.slice e)) (hi : (P.info? e).map (fun i => (i.zero, i.size, i.bytes)) = some (some z, 1, bytes)) (hzs : z.cells.size = 1)
    (A0 : Option Addr) (cap0 n : Nat) (xs : List Value) (hs : a.eval s = .slice A0 n cap0) (hown : w.ownsRow base e 1 (.slice A0 n cap0) n xs)
    (A : Option Addr) (m c : Nat) (f : Nat → Value) (hx : a.eval x = .slice A m c) (F : Nat → Prop) (hr : Sl w F A m f) (h1 : ∀ j, j < m → (f j).oneCell' = true)
    (h63 : n + m ≤ maxLen) (hbytes : (n + m) * bytes ≤ 140737488355328) (hbase : base ≤ w.heap.size)
    (h : ∀ A' cap w', w'.ownsRow base e 1 (.slice A' (n + m) cap) (n + m) (xs ++ (List.range m).map f) → w.grownBy w' (Value.slice A0 n cap0).ownBlock →
      ((Value.slice A' (n + m) cap).ownBlock = (Value.slice A0 n cap0).ownBlock ∨ (Value.slice A' (n + m) cap).ownBlock = some w.heap.size) → wpList P ops Q rest (a.put o.dst (.slice A' (n + m) cap)) w') :
    wpList P ops Q (o :: rest) a w := by
  obtain ⟨i, hi, hz, h1s, hb⟩ := info_parts hi
  refine wpList_plain hgd fun K hK => ?_
  obtain ⟨A', cap, w', hrun, h2, h3, h4⟩ := run_app (P := P) w base t o.type e i z bytes ht hi hz h1s hb hzs A0 cap0 n xs hown A m c f F hr h1 h63 hbytes hbase
  unfold Oper.wp execOp
  simp only [ho, resolve, invoke, builtin, Sem.run_bind, Sem.run_pure, Result.andThen_ok, List.map_toArray, List.map_cons, List.map_nil, hs, hx, hrun]
  exact hK _ _ (h A' cap w' h2 h3 h4)

/-- The program's type behind a pointer to block q: a struct of one slice of pointers to its arguments. All its blocks are of F. -/
inductive KindP (w : World) (F : Nat → Prop) : Nat → Ty → Prop
  | mk (q : Nat) (t : Ty) (A : Option Addr) (c : Nat) (qs : Nat → Nat) (hq : F q) (hb : Blk w q 61 #[.slice A t.args.length c])
      (hA : Sl w F A t.args.length (fun i => .pointer (some ⟨qs i, 0, none⟩))) (hs : ∀ i u, t.args[i]? = some u → KindP w F (qs i) u) (hcap : t.args.length ≤ c) : KindP w F q t

section
variable {w w' : World} {F G : Nat → Prop} {q : Nat} {t : Ty}
theorem KindP.keep (h : KindP w F q t) (hk : ∀ b, F b → b < w.heap.size → w'.heap[b]? = w.heap[b]?) : KindP w' F q t := by
  induction h with
  | mk q t A c qs hq hb hA _ hcap ih => exact .mk q t A c qs hq ((hk q hq hb.lt).trans hb) (hA.keep hk) ih hcap
theorem KindP.mono (h : KindP w F q t) (hm : ∀ b, F b → b < w.heap.size → G b) : KindP w G q t := by
  induction h with
  | mk q t A c qs hq hb hA _ hcap ih => exact .mk q t A c qs (hm q hq hb.lt) hb (hA.mono hm) ih hcap
theorem KindP.all (h : KindP w F q t) : KindP w Al q t := h.mono fun _ _ _ => trivial
theorem KindP.fr {lo hi : Nat} (h : KindP w (Fr hi) q t) (hl : lo ≤ hi) : KindP w (Fr lo) q t := h.mono fun _ h1 _ => Nat.le_trans hl h1
theorem KindP.grown0 (h : KindP w F q t) (hg : w.grownBy w' none) : KindP w' F q t := h.keep fun b _ hl => hg.block b hl (by simp)
theorem KindP.grown {lo g : Nat} (h : KindP w (Fr lo) q t) (hg : w.grownBy w' (some g)) (hl : g < lo) : KindP w' (Fr lo) q t :=
  h.keep fun b hb hl' => hg.block b hl' (by rintro e; cases e; unfold Fr at hb; omega)
theorem KindP.lt (h : KindP w F q t) : q < w.heap.size := by
  cases h with
  | mk _ _ A c qs hq hb hA hs _ => exact hb.lt
/-- The cell behind the pointer, and the arguments. -/
theorem KindP.open_ (h : KindP w F q t) :
    ∃ (A : Option Addr) (c : Nat) (qs : Nat → Nat), Blk w q 61 #[.slice A t.args.length c] ∧ Sl w F A t.args.length (fun i => .pointer (some ⟨qs i, 0, none⟩)) ∧ ∀ i u, t.args[i]? = some u → KindP w F (qs i) u := by
  cases h with
  | mk _ _ A c qs hq hb hA hs _ => exact ⟨A, c, qs, hb, hA, hs⟩
/-- The same with the capacity. -/
theorem KindP.openc (h : KindP w F q t) :
    ∃ (A : Option Addr) (c : Nat) (qs : Nat → Nat), Blk w q 61 #[.slice A t.args.length c] ∧ Sl w F A t.args.length (fun i => .pointer (some ⟨qs i, 0, none⟩)) ∧ (∀ i u, t.args[i]? = some u → KindP w F (qs i) u) ∧ t.args.length ≤ c := by
  cases h with
  | mk _ _ A c qs hq hb hA hs hc => exact ⟨A, c, qs, hb, hA, hs, hc⟩
end

/-- The reference's type, by value: the slice of its arguments. All its blocks are of F. -/
inductive TreeV (w : World) (F : Nat → Prop) : Value → Ty → Prop
  | mk (t : Ty) (A : Option Addr) (c : Nat) (vs : Nat → Value)
      (hA : Sl w F A t.args.length vs) (hs : ∀ i u, t.args[i]? = some u → TreeV w F (vs i) u) (hc : t.args.length ≤ c) : TreeV w F (.slice A t.args.length c) t

section
variable {w w' : World} {F G : Nat → Prop} {v : Value} {t : Ty}
theorem TreeV.keep (h : TreeV w F v t) (hk : ∀ b, F b → b < w.heap.size → w'.heap[b]? = w.heap[b]?) : TreeV w' F v t := by
  induction h with
  | mk t A c vs hA _ hc ih => exact .mk t A c vs (hA.keep hk) ih hc
theorem TreeV.mono (h : TreeV w F v t) (hm : ∀ b, F b → b < w.heap.size → G b) : TreeV w G v t := by
  induction h with
  | mk t A c vs hA _ hc ih => exact .mk t A c vs (hA.mono hm) ih hc
theorem TreeV.all (h : TreeV w F v t) : TreeV w Al v t := h.mono fun _ _ _ => trivial
theorem TreeV.fr {lo hi : Nat} (h : TreeV w (Fr hi) v t) (hl : lo ≤ hi) : TreeV w (Fr lo) v t := h.mono fun _ h1 _ => Nat.le_trans hl h1
theorem TreeV.grown0 (h : TreeV w F v t) (hg : w.grownBy w' none) : TreeV w' F v t := h.keep fun b _ hl => hg.block b hl (by simp)
theorem TreeV.grown {lo g : Nat} (h : TreeV w (Fr lo) v t) (hg : w.grownBy w' (some g)) (hl : g < lo) : TreeV w' (Fr lo) v t :=
  h.keep fun b hb hl' => hg.block b hl' (by rintro e; cases e; unfold Fr at hb; omega)
theorem TreeV.open_ (h : TreeV w F v t) :
    ∃ (A : Option Addr) (c : Nat) (vs : Nat → Value), v = .slice A t.args.length c ∧ Sl w F A t.args.length vs ∧ ∀ i u, t.args[i]? = some u → TreeV w F (vs i) u := by
  cases h with
  | mk _ A c vs hA hs _ => exact ⟨A, c, vs, rfl, hA, hs⟩
theorem TreeV.cap {A : Option Addr} {n c : Nat} (h : TreeV w F (.slice A n c) t) : t.args.length ≤ c := by
  cases h with
  | mk _ _ _ vs hA hs hc => exact hc
end

end Go.Proofs.YtlehnlfgjadleaaDoor
