/- The reference's bodies by value: an atom, a level, two slices of parts (four cells each). -/
import Derived.Test.YtlehnlfgjadleaaDoorBo3
import Derived.Test.YtlehnlfgjadleaaDoorOwn
import Derived.Test.YtlehnlfgjadleaaDoorType
namespace Go.Proofs.YtlehnlfgjadleaaDoor
open Go.RowKit

namespace Bo
def atm : Bo → List UInt8
  | .w c => c
  | _ => []
/-- How many arguments' parts, how many answers' parts. -/
def kn (b : Bo) : Nat := b.np - 2
def yn (b : Bo) : Nat := b.np - b.kn
end Bo
/-- The four cells of a part. -/
def NCells (w : World) (g o : Nat) (u : Bo) (A : Option Addr) (c : Nat) (B : Option Addr) (d : Nat) : Prop :=
  w.cell? ⟨g, o, none⟩ = some (.string ⟨u.atm.toArray⟩) ∧ w.cell? ⟨g, o + 1, none⟩ = some (.int .i64 (u.level : Int)) ∧ w.cell? ⟨g, o + 2, none⟩ = some (.slice A u.kn c) ∧ w.cell? ⟨g, o + 3, none⟩ = some (.slice B u.yn d)
/-- A body by value: where its parts lie. -/
inductive NV (w : World) (F : Nat → Prop) : Option Addr → Nat → Option Addr → Nat → Bo → Prop
  | mk (b : Bo) (A : Option Addr) (c : Nat) (B : Option Addr) (d : Nat) (As : Nat → Option Addr) (cs : Nat → Nat) (Bs : Nat → Option Addr) (ds : Nat → Nat)
      (hA : 0 < b.kn → ∃ g o, A = some ⟨g, o, none⟩ ∧ F g ∧ ∀ i u, i < b.kn → b.parts[i]? = some u → NCells w g (o + 4 * i) u (As i) (cs i) (Bs i) (ds i))
      (hB : 0 < b.yn → ∃ g o, B = some ⟨g, o, none⟩ ∧ F g ∧ ∀ i u, b.parts[b.kn + i]? = some u → NCells w g (o + 4 * i) u (As (b.kn + i)) (cs (b.kn + i)) (Bs (b.kn + i)) (ds (b.kn + i)))
      (hs : ∀ i u, b.parts[i]? = some u → NV w F (As i) (cs i) (Bs i) (ds i) u) : NV w F A c B d b
theorem NCells.keep {w w' : World} {g o : Nat} {u : Bo} {A : Option Addr} {c : Nat} {B : Option Addr} {d : Nat} (h : NCells w g o u A c B d) (hk : g < w.heap.size → w'.heap[g]? = w.heap[g]?) : NCells w' g o u A c B d := by
  obtain ⟨h1, h2, h3, h4⟩ := h
  have hlt : g < w.heap.size := World.block_lt_of_cell? w ⟨g, o, none⟩ h1
  have k := hk hlt
  exact ⟨(World.cell?_of_block (w := w) (a := ⟨g, o, none⟩) k).trans h1, (World.cell?_of_block (w := w) (a := ⟨g, o + 1, none⟩) k).trans h2, (World.cell?_of_block (w := w) (a := ⟨g, o + 2, none⟩) k).trans h3, (World.cell?_of_block (w := w) (a := ⟨g, o + 3, none⟩) k).trans h4⟩
section
variable {w w' : World} {F G : Nat → Prop} {A B : Option Addr} {c d : Nat} {x : Bo}
theorem NV.keep (h : NV w F A c B d x) (hk : ∀ b, F b → b < w.heap.size → w'.heap[b]? = w.heap[b]?) : NV w' F A c B d x := by
  induction h with
  | mk x A c B d As cs Bs ds hA hB _ ih =>
    refine .mk x A c B d As cs Bs ds (fun hn => ?_) (fun hn => ?_) ih
    · obtain ⟨g, o, e, hg, hc⟩ := hA hn
      exact ⟨g, o, e, hg, fun i u hi hu => (hc i u hi hu).keep (hk g hg)⟩
    · obtain ⟨g, o, e, hg, hc⟩ := hB hn
      exact ⟨g, o, e, hg, fun i u hu => (hc i u hu).keep (hk g hg)⟩
theorem np_lt {b : Bo} {i : Nat} {u : Bo} (h : b.parts[i]? = some u) : i < b.np := by
  have := (List.getElem?_eq_some_iff.1 h).1
  rwa [Bo.np_parts] at this
theorem NV.mono (h : NV w F A c B d x) (hm : ∀ b, F b → b < w.heap.size → G b) : NV w G A c B d x := by
  induction h with
  | mk x A c B d As cs Bs ds hA hB _ ih =>
    refine .mk x A c B d As cs Bs ds (fun hn => ?_) (fun hn => ?_) ih
    · obtain ⟨g, o, e, hg, hc⟩ := hA hn
      have h0 : (0 : Nat) < x.parts.length := by rw [Bo.np_parts]; unfold Bo.kn at hn; omega
      have := (hc 0 x.parts[0] hn (List.getElem?_eq_getElem h0)).1
      exact ⟨g, o, e, hm g hg (World.block_lt_of_cell? w ⟨g, _, none⟩ this), hc⟩
    · obtain ⟨g, o, e, hg, hc⟩ := hB hn
      have h0 : x.kn + 0 < x.parts.length := by rw [Bo.np_parts]; unfold Bo.yn at hn; omega
      have := (hc 0 x.parts[x.kn + 0] (List.getElem?_eq_getElem h0)).1
      exact ⟨g, o, e, hm g hg (World.block_lt_of_cell? w ⟨g, _, none⟩ this), hc⟩
theorem NV.fr {lo hi : Nat} (h : NV w (Fr hi) A c B d x) (hl : lo ≤ hi) : NV w (Fr lo) A c B d x := h.mono fun _ h1 _ => Nat.le_trans hl h1
theorem NV.grown0 (h : NV w F A c B d x) (hg : w.grownBy w' none) : NV w' F A c B d x := h.keep fun b _ hl => hg.block b hl (by simp)
theorem NV.leaf {x : Bo} (h : x.parts = []) : NV w F A c B d x := by
  have hn : x.np = 0 := by rw [← Bo.np_parts, h]; rfl
  exact .mk x A c B d (fun _ => none) (fun _ => 0) (fun _ => none) (fun _ => 0) (fun h0 => by unfold Bo.kn at h0; omega) (fun h0 => by unfold Bo.yn at h0; omega) (fun i u hu => by rw [h] at hu; cases hu)
theorem NV.open_ (h : NV w F A c B d x) : ∃ (As : Nat → Option Addr) (cs : Nat → Nat) (Bs : Nat → Option Addr) (ds : Nat → Nat),
    (0 < x.kn → ∃ g o, A = some ⟨g, o, none⟩ ∧ F g ∧ ∀ i u, i < x.kn → x.parts[i]? = some u → NCells w g (o + 4 * i) u (As i) (cs i) (Bs i) (ds i)) ∧
    (0 < x.yn → ∃ g o, B = some ⟨g, o, none⟩ ∧ F g ∧ ∀ i u, x.parts[x.kn + i]? = some u → NCells w g (o + 4 * i) u (As (x.kn + i)) (cs (x.kn + i)) (Bs (x.kn + i)) (ds (x.kn + i))) ∧
    ∀ i u, x.parts[i]? = some u → NV w F (As i) (cs i) (Bs i) (ds i) u := by
  cases h with
  | mk _ _ _ _ _ As cs Bs ds hA hB hs => exact ⟨As, cs, Bs, ds, hA, hB, hs⟩
end
theorem info_node : (Tryd.prog.info? 36).map (fun i => (i.zero, i.size, i.bytes)) = some (some (.agg #[.string ⟨#[]⟩, .int .i64 0, .slice none 0 0, .slice none 0 0]), 4, 72) := by kernel_rfl
/-- append of one element of four cells onto a row of the call's own. -/
theorem wpList_app4 {P : Program} {w : World} {ops : Array Oper} {rest : List Oper} {o : Oper} {a : Act} {Q : Exit → Act → World → Prop} (hgd : o.guard = none) (s x : Operand) (t : TypeId)
    (ho : o.op = .call { callee := .builtin .append, args := #[s, x], argTypes := #[t, t] })
    (base : Nat) (e : TypeId) (z : Value) (bytes : Nat) (ht : P.underlying t = some (.slice e)) (hi : (P.info? e).map (fun i => (i.zero, i.size, i.bytes)) = some (some z, 4, bytes)) (hzs : z.cells.size = 4)
    (A0 : Option Addr) (cap0 n : Nat) (xs : List Value) (hs : a.eval s = .slice A0 n cap0) (hown : w.ownsRow base e 4 (.slice A0 n cap0) n xs)
    (g : Nat) (u1 u2 u3 u4 : Value) (hx : a.eval x = .slice (some ⟨g, 0, none⟩) 1 1) (hb : Blk w g e #[u1, u2, u3, u4]) (h1 : u1.oneCell' = true) (h2 : u2.oneCell' = true) (h3 : u3.oneCell' = true) (h4 : u4.oneCell' = true)
    (h63 : n + 1 ≤ maxLen) (hbytes : (n + 1) * bytes ≤ 140737488355328) (hbase : base ≤ w.heap.size)
    (h : ∀ A' cap w', w'.ownsRow base e 4 (.slice A' (n + 1) cap) (n + 1) (xs ++ [u1, u2, u3, u4]) → w.grownBy w' (Value.slice A0 n cap0).ownBlock →
      ((Value.slice A' (n + 1) cap).ownBlock = (Value.slice A0 n cap0).ownBlock ∨ (Value.slice A' (n + 1) cap).ownBlock = some w.heap.size) → wpList P ops Q rest (a.put o.dst (.slice A' (n + 1) cap)) w') :
    wpList P ops Q (o :: rest) a w := by
  cases hii : P.info? e with
  | none => rw [hii] at hi; cases hi
  | some i =>
    rw [hii] at hi
    injection hi with hi
    injection hi with hz hi
    injection hi with k2 h48
    refine wpList_plain hgd fun K hK => ?_
    obtain ⟨v', w', hrun, r2, r3, _, r5⟩ := run_append_own_at (P := P) w base t o.type e i _ 4 bytes ht hii hz k2 h48 hzs (by omega) _ n _ hown ⟨g, 0, none⟩ 1 1 [u1, u2, u3, u4] rfl
      (fun j y hj => by
        rw [show (Addr.add ⟨g, 0, none⟩ j) = ⟨g, j, none⟩ by (simp [Addr.add]; omega), hb.cell]
        simpa using hj) (fun y hy => by
        simp only [List.mem_cons, List.not_mem_nil, or_false] at hy
        rcases hy with rfl | rfl | rfl | rfl
        · exact h1
        · exact h2
        · exact h3
        · exact h4) h63 hbytes hbase
    obtain ⟨hl, ⟨e1, e2⟩ | ⟨g', cap, cur, rfl, _⟩⟩ := id r2
    · omega
    unfold Oper.wp execOp
    simp only [ho, resolve, invoke, builtin, Sem.run_bind, Sem.run_pure, Result.andThen_ok, List.map_toArray, List.map_cons, List.map_nil, hs, hx, hrun]
    exact hK _ _ (h _ cap w' r2 r3 r5)
/-- A part and where its own parts lie. -/
structure ND where
  x : Bo
  A : Option Addr
  c : Nat
  B : Option Addr
  d : Nat
def ND.cells (d : ND) : List Value := [.string ⟨d.x.atm.toArray⟩, .int .i64 (d.x.level : Int), .slice d.A d.x.kn d.c, .slice d.B d.x.yn d.d]
theorem ncells_get : ∀ (D : List ND) (i : Nat) (d : ND), D[i]? = some d → ∀ j, j < 4 → (D.flatMap ND.cells)[4 * i + j]? = d.cells[j]?
  | [], i, d, h, j, hj => by simp at h
  | e :: D, 0, d, h, j, hj => by
    obtain rfl : e = d := by simpa using h
    have e1 : (List.flatMap ND.cells (e :: D)) = e.cells ++ List.flatMap ND.cells D := by simp
    rw [e1, Nat.mul_zero, Nat.zero_add, List.getElem?_append_left (by simpa [ND.cells] using hj)]
  | e :: D, i + 1, d, h, j, hj => by
    have ih := ncells_get D i d (by simpa using h) j hj
    have e1 : (List.flatMap ND.cells (e :: D)) = e.cells ++ List.flatMap ND.cells D := by simp
    have hl : e.cells.length = 4 := rfl
    rw [e1, List.getElem?_append_right (by omega), hl, show 4 * (i + 1) + j - 4 = 4 * i + j by omega]
    exact ih
theorem ownN_lt {w : World} {base m : Nat} {e : TypeId} {v : Value} {n : Nat} {xs : List Value} (h : w.ownsRow base e m v n xs) {g : Nat} (hg : v.ownBlock = some g) : base ≤ g ∧ g < w.heap.size := by
  obtain ⟨_, ⟨rfl, _⟩ | ⟨g', cap', cur, rfl, hb, hr, _⟩⟩ := h
  · cases hg
  · cases hg
    exact ⟨hb, (Array.getElem?_eq_some_iff.1 hr).1⟩
theorem ownN_keep {w w' : World} {base m : Nat} {e : TypeId} {v : Value} {n : Nat} {xs : List Value} {x : Option Nat} (h : w.ownsRow base e m v n xs) (hg : w.grownBy w' x) (hx : ∀ g, v.ownBlock = some g → some g ≠ x) : w'.ownsRow base e m v n xs := by
  obtain ⟨hl, ⟨rfl, rfl⟩ | ⟨g, cap, cur, rfl, hb, hr, h1, h2, h3, h4⟩⟩ := h
  · exact ⟨hl, .inl ⟨rfl, rfl⟩⟩
  · exact ⟨hl, .inr ⟨g, cap, cur, rfl, hb, (hg.block g (Array.getElem?_eq_some_iff.1 hr).1 (hx g rfl)).trans hr, h1, h2, h3, h4⟩⟩
/-- The parts of an own row. -/
theorem own4_cells {w : World} {base : Nat} {D : List ND} {A : Option Addr} {cap : Nat} (h : w.ownsRow base 36 4 (.slice A D.length cap) D.length (D.flatMap ND.cells)) (h0 : 0 < D.length) :
    ∃ g, A = some ⟨g, 0, none⟩ ∧ base ≤ g ∧ ∀ i d, D[i]? = some d → NCells w g (0 + 4 * i) d.x d.A d.c d.B d.d := by
  obtain ⟨hl, ⟨e1, e2⟩ | ⟨g, cap', cur, e, hbg, hr, h1, h2, h3, h4⟩⟩ := h
  · omega
  · injection e with e1 e2 e3
    subst e1 e3
    refine ⟨g, rfl, hbg, fun i d hd => ?_⟩
    have hi : i < D.length := (List.getElem?_eq_some_iff.1 hd).1
    have key : ∀ j, j < 4 → w.cell? ⟨g, 0 + 4 * i + j, none⟩ = d.cells[j]? := by
      intro j hj
      rw [cell_of_row w g _ cur _ (0, 0) hr, ← ncells_get D i d hd j hj, ← h4, List.getElem?_take_of_lt (by omega)]
      simp
    exact ⟨key 0 (by omega), key 1 (by omega), key 2 (by omega), key 3 (by omega)⟩
/-- Blocks behind Bx but those of two rows. -/
def OffN (Bx : Nat) (v u : Value) : Nat → Prop := fun b => Bx < b ∧ v.ownBlock ≠ some b ∧ u.ownBlock ≠ some b
/-- Two rows under construction, the parts behind. -/
structure Rows2 (w : World) (Bx : Nat) (v u : Value) (K Y : List ND) : Prop where
  k : w.ownsRow (Bx + 1) 36 4 v K.length (K.flatMap ND.cells)
  y : w.ownsRow (Bx + 1) 36 4 u Y.length (Y.flatMap ND.cells)
  ne : ∀ g, v.ownBlock = some g → u.ownBlock ≠ some g
  s : ∀ d ∈ K ++ Y, NV w (OffN Bx v u) d.A d.c d.B d.d d.x
theorem Rows2.swap {w : World} {Bx : Nat} {v u : Value} {K Y : List ND} (h : Rows2 w Bx v u K Y) : Rows2 w Bx u v Y K :=
  ⟨h.y, h.k, fun g h1 h2 => h.ne g h2 h1, fun d hd => (h.s d (by simp only [List.mem_append] at *; exact hd.symm)).mono fun b hb _ => ⟨hb.1, hb.2.2, hb.2.1⟩⟩
theorem Rows2.grown0 {w w' : World} {Bx : Nat} {v u : Value} {K Y : List ND} (h : Rows2 w Bx v u K Y) (hg : w.grownBy w' none) : Rows2 w' Bx v u K Y :=
  ⟨ownN_keep h.k hg (by simp), ownN_keep h.y hg (by simp), h.ne, fun d hd => (h.s d hd).grown0 hg⟩
/-- One part more in the first row, then a store into the node's own block. -/
theorem Rows2.step {wr w3 w4 : World} {Bx n i : Nat} {x : Bo} {A A' Ax Bb : Option Addr} {cap cap' cx dx : Nat} {u st : Value} {K Y : List ND} (hn : K.length = n) (h : Rows2 wr Bx (.slice A n cap) u K Y) (hg : wr.grownBy w3 none) (hBl : Bx < wr.heap.size)
    (hx : NV w3 (Fr wr.heap.size) Ax cx Bb dx x)
    (hown4 : w4.ownsRow (Bx + 1) 36 4 (.slice A' (n + 1) cap') (n + 1) (K.flatMap ND.cells ++ [.string ⟨x.atm.toArray⟩, .int .i64 (x.level : Int), .slice Ax x.kn cx, .slice Bb x.yn dx]))
    (hg3 : w3.grownBy w4 (Value.slice A n cap).ownBlock)
    (hat : (Value.slice A' (n + 1) cap').ownBlock = (Value.slice A n cap).ownBlock ∨ (Value.slice A' (n + 1) cap').ownBlock = some w3.heap.size) :
    Rows2 (w4.setCell ⟨Bx, i, none⟩ st) Bx (.slice A' (n + 1) cap') u (K ++ [⟨x, Ax, cx, Bb, dx⟩]) Y := by
  subst hn
  have hs2 := hg.size
  have hl : (K ++ [(⟨x, Ax, cx, Bb, dx⟩ : ND)]).length = K.length + 1 := by simp
  have hlt : ∀ g, (Value.slice A K.length cap).ownBlock = some g → g < wr.heap.size := fun g hg => (ownN_lt h.k hg).2
  have hlu : ∀ g, u.ownBlock = some g → Bx + 1 ≤ g ∧ g < wr.heap.size := fun g hg => ownN_lt h.y hg
  have hu4 : ∀ g, u.ownBlock = some g → (Value.slice A' (K.length + 1) cap').ownBlock ≠ some g := fun g hgu he => by
    rcases hat with h1 | h1
    · rw [h1] at he
      exact h.ne g he hgu
    · rw [h1] at he
      cases he
      have := (hlu _ hgu).2
      omega
  refine ⟨?_, ?_, fun g h1 h2 => hu4 g h2 h1, ?_⟩
  · rw [hl]
    have e : (K ++ [(⟨x, Ax, cx, Bb, dx⟩ : ND)]).flatMap ND.cells = K.flatMap ND.cells ++ [.string ⟨x.atm.toArray⟩, .int .i64 (x.level : Int), .slice Ax x.kn cx, .slice Bb x.yn dx] := by simp [ND.cells]
    rw [e]
    exact ownN_keep hown4 (gr_set (gr_refl w4 (some Bx)) (p := ⟨Bx, i, none⟩) (.inl rfl) st) (fun g hg he => by cases he; have := (ownN_lt hown4 hg).1; omega)
  · have h1 := ownN_keep (ownN_keep h.y hg (by simp)) hg3 (fun g hgu he => h.ne g he.symm hgu)
    exact ownN_keep h1 (gr_set (gr_refl w4 (some Bx)) (p := ⟨Bx, i, none⟩) (.inl rfl) st) (fun g hg he => by cases he; have := (hlu _ hg).1; omega)
  · intro d hd
    have hd : d ∈ K ++ Y ∨ d = ⟨x, Ax, cx, Bb, dx⟩ := by
      simp only [List.mem_append, List.mem_singleton] at *
      rcases hd with (hd | hd) | hd
      · exact .inl (.inl hd)
      · exact .inr hd
      · exact .inl (.inr hd)
    rcases hd with hd | rfl
    · have h1 := (h.s d hd).mono (G := fun b => b < wr.heap.size ∧ OffN Bx (.slice A K.length cap) u b) (fun b h1 h2 => ⟨h2, h1⟩)
      refine (h1.keep (w' := w4.setCell ⟨Bx, i, none⟩ st) fun b hb _ => ?_).mono fun b hb _ => ⟨hb.2.1, fun he => ?_, hb.2.2.2⟩
      · rw [heap_setCell_other _ _ _ _ (by have := hb.2.1; show b ≠ Bx; omega), hg3.block b (by have := hb.1; omega) (fun e => hb.2.2.1 e.symm), hg.block b hb.1 (by simp)]
      · rcases hat with h2 | h2
        · exact hb.2.2.1 (h2.symm.trans he)
        · rw [h2] at he
          have := hb.1
          cases he
          omega
    · have h1 := hx.mono (G := fun b => b < w3.heap.size ∧ wr.heap.size ≤ b) (fun b h1 h2 => ⟨h2, h1⟩)
      refine (h1.keep (w' := w4.setCell ⟨Bx, i, none⟩ st) fun b hb _ => ?_).mono fun b hb _ => ⟨by have := hb.2; omega, fun he => ?_, fun he => by have := (hlu b he).2; have := hb.2; omega⟩
      · rw [heap_setCell_other _ _ _ _ (by have := hb.2; show b ≠ Bx; omega), hg3.block b (by have := hb.1; omega) (fun e => by have := hlt b e.symm; have := hb.2; omega)]
      · rcases hat with h2 | h2
        · have := hlt b (h2.symm.trans he)
          have := hb.2
          omega
        · rw [h2] at he
          have := hb.1
          cases he
          omega
/-- Both rows whole: a body. -/
theorem Rows2.node {w : World} {Bx lo cK cY : Nat} {A B : Option Addr} {b : Bo} {K Y : List ND} (h : Rows2 w Bx (.slice A K.length cK) (.slice B Y.length cY) K Y) (hp : (K ++ Y).map ND.x = b.parts) (hk : K.length = b.kn) (hlo : lo ≤ Bx) : NV w (Fr lo) A cK B cY b := by
  have hget : ∀ i u, b.parts[i]? = some u → ∃ d : ND, (K ++ Y)[i]? = some d ∧ d.x = u := fun i u hu => by
    rw [← hp, List.getElem?_map, Option.map_eq_some_iff] at hu
    exact hu
  have hlen : b.np = K.length + Y.length := by rw [← Bo.np_parts, ← hp]; simp
  refine .mk b A cK B cY (fun i => match (K ++ Y)[i]? with | some d => d.A | none => none) (fun i => match (K ++ Y)[i]? with | some d => d.c | none => 0) (fun i => match (K ++ Y)[i]? with | some d => d.B | none => none) (fun i => match (K ++ Y)[i]? with | some d => d.d | none => 0) (fun hn => ?_) (fun hn => ?_) (fun i u hu => ?_)
  · obtain ⟨g, rfl, hg, hc⟩ := own4_cells h.k (by omega)
    refine ⟨g, 0, rfl, by show lo ≤ g; omega, fun i u hi hu => ?_⟩
    obtain ⟨d, hd, rfl⟩ := hget i u hu
    have hd2 : K[i]? = some d := by rw [List.getElem?_append_left (by omega)] at hd; exact hd
    simp only [hd]
    exact hc i d hd2
  · obtain ⟨g, rfl, hg, hc⟩ := own4_cells h.y (by unfold Bo.yn at hn; omega)
    refine ⟨g, 0, rfl, by show lo ≤ g; omega, fun i u hu => ?_⟩
    obtain ⟨d, hd, rfl⟩ := hget _ u hu
    have hd2 : Y[i]? = some d := by
      rw [List.getElem?_append_right (by omega)] at hd
      rw [show b.kn + i - K.length = i by omega] at hd
      exact hd
    simp only [hd]
    exact hc i d hd2
  · obtain ⟨d, hd, rfl⟩ := hget i u hu
    simp only [hd]
    exact (h.s d (List.mem_of_getElem? hd)).mono fun b hb _ => by have := hb.1; show lo ≤ b; omega
end Go.Proofs.YtlehnlfgjadleaaDoor
