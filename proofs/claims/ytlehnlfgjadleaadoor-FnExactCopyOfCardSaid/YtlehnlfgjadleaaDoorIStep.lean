/- A body in the making: its steps, no program in sight. -/
import Derived.Test.YtlehnlfgjadleaaDoorIBody
namespace Go.Proofs.YtlehnlfgjadleaaDoor
open Go.RowKit

def bptr (q : Nat) : Value := .pointer (some ⟨q, 0, none⟩)
theorem iloop_succ {P : Nat → List Ty → List UInt8 → Option (Bo × List UInt8 × Nat)} {hand args : List Ty} {M n : Nat} {acc : Bo} {l : List UInt8} :
    iloop P hand args (M + 1) n acc l = match (if pre [32] l then P n (Bo.handAt hand args acc.np) (cut [32] l) else none) with
      | some (x, r, n') => iloop P hand args M n' (.sn acc x) r
      | none => none := by
  conv => lhs; unfold iloop
  by_cases h : pre [32] l = true
  · simp only [h, if_true]
    cases P n (Bo.handAt hand args acc.np) (cut [32] l) <;> rfl
  · simp only [h]; rfl
theorem ibody_less {d n n' : Nat} {hand : List Ty} {l r : List UInt8} {b : Bo} (h : (if pre [32] l then ibody d n hand (cut [32] l) else none) = some (b, r, n')) : r.length ≤ l.length ∧ n' ≤ n := by
  split at h
  · obtain ⟨h1, _, _, _, h5⟩ := ibody_sound _ _ _ _ _ _ _ h
    have h2 : (cut [32] l).length ≤ l.length := pre_length
    rw [h1, List.length_append] at h2
    exact ⟨by omega, by omega⟩
  · cases h

theorem ownP_lt {w : World} {base m : Nat} {e : TypeId} {v : Value} {n : Nat} {xs : List Value} (h : w.ownsRow base e m v n xs) {g : Nat} (hg : v.ownBlock = some g) : base ≤ g ∧ g < w.heap.size := by
  obtain ⟨_, ⟨rfl, _⟩ | ⟨g', cap', cur, rfl, hb, hr, _⟩⟩ := h
  · cases hg
  · cases hg
    exact ⟨hb, (Array.getElem?_eq_some_iff.1 hr).1⟩
theorem ownP_keep {w w' : World} {base m : Nat} {e : TypeId} {v : Value} {n : Nat} {xs : List Value} {x : Option Nat} (h : w.ownsRow base e m v n xs) (hg : w.grownBy w' x) (hx : ∀ g, v.ownBlock = some g → some g ≠ x) : w'.ownsRow base e m v n xs := by
  obtain ⟨hl, ⟨rfl, rfl⟩ | ⟨g, cap, cur, rfl, hb, hr, h1, h2, h3, h4⟩⟩ := h
  · exact ⟨hl, .inl ⟨rfl, rfl⟩⟩
  · exact ⟨hl, .inr ⟨g, cap, cur, rfl, hb, (hg.block g (Array.getElem?_eq_some_iff.1 hr).1 (hx g rfl)).trans hr, h1, h2, h3, h4⟩⟩
/-- The three boxes of the reader's frame. -/
def Boxes (w wr : World) (p : Nat) (A : Option Addr) (hl ca d : Nat) : Prop :=
  Blk wr w.heap.size 85 #[.pointer (some ⟨p, 0, none⟩)] ∧ Blk wr (w.heap.size + 1) 59 #[.slice A hl ca] ∧ Blk wr (w.heap.size + 2) 3 #[.int .i64 ((d : Int) + 1)]
theorem Boxes.keep {w wr w' : World} {p : Nat} {A : Option Addr} {hl ca d : Nat} (h : Boxes w wr p A hl ca d) (hk : ∀ b, w.heap.size ≤ b → b ≤ w.heap.size + 2 → w'.heap[b]? = wr.heap[b]?) : Boxes w w' p A hl ca d :=
  ⟨(hk _ (by omega) (by omega)).trans h.1, (hk _ (by omega) (by omega)).trans h.2.1, (hk _ (by omega) (by omega)).trans h.2.2⟩

/-- A body in the making, behind some parts: w is the world at the reader's entry, q0 the new body's block. -/
structure IT (w wr : World) (p q0 u d : Nat) (A : Option Addr) (hl ca : Nat) (acc : Bo) (l : List UInt8) (n : Nat) (As : Option Addr) (j cs : Nat) (ps : Nat → Nat) (vy vn : Value) (F : Nat → Prop) : Prop where
  li : acc.isLi = true
  lv : acc.level = u
  sc : ScanG wr p 87 [.int .i64 (n : Int)] l
  ll : l.length ≤ 2000000
  nn : n ≤ 1000
  gr : w.grownBy wr (some p)
  bx : Boxes w wr p A hl ca d
  pq : p < w.heap.size
  wq : w.heap.size + 3 ≤ q0
  out : Blk wr q0 64 #[.string ⟨#[]⟩, .int .i64 u, .slice As j cs, vy, vn]
  kids : ∀ i b, acc.parts[i]? = some b → BodyP wr F (ps i) b

section
variable {w wr : World} {p q0 u d : Nat} {A : Option Addr} {hl ca : Nat} {acc : Bo} {l : List UInt8} {n : Nat} {As : Option Addr} {j cs : Nat} {ps : Nat → Nat} {vy vn : Value}
/-- What the row of the parts does not hold, past the body's own block. -/
def NotRow (q0 : Nat) (v : Value) : Nat → Prop := fun b => q0 < b ∧ v.ownBlock ≠ some b

/-- A part more in the row: the part is read (w1), appended (w3), the row stored. -/
theorem IT.push {x : Bo} {r : List UInt8} {n' q : Nat} {w1 w3 : World} {As' : Option Addr} {cs' : Nat} (h : IT w wr p q0 u d A hl ca acc l n As acc.np cs ps vy vn (NotRow q0 (.slice As acc.np cs)))
    (hown : wr.ownsRow (q0 + 1) 42 1 (.slice As acc.np cs) acc.np ((List.range acc.np).map fun i => bptr (ps i)))
    (hg1 : wr.grownBy w1 (some p)) (hs1 : ScanG w1 p 87 [.int .i64 (n' : Int)] r) (hr : r.length ≤ l.length) (hn : n' ≤ n) (hb1 : BodyP w1 (Fr wr.heap.size) q x)
    (hown3 : w3.ownsRow (q0 + 1) 42 1 (.slice As' (acc.np + 1) cs') (acc.np + 1) (((List.range acc.np).map fun i => bptr (ps i)) ++ (List.range 1).map fun _ => bptr q))
    (hg3 : (w1.alloc (.cells #[bptr q] 42)).grownBy w3 (Value.slice As acc.np cs).ownBlock)
    (hat : (Value.slice As' (acc.np + 1) cs').ownBlock = (Value.slice As acc.np cs).ownBlock ∨ (Value.slice As' (acc.np + 1) cs').ownBlock = some (w1.alloc (.cells #[bptr q] 42)).heap.size) :
    IT w (w3.setCell ⟨q0, 2, none⟩ (.slice As' (acc.np + 1) cs')) p q0 u d A hl ca (.sn acc x) r n' As' (acc.np + 1) cs' (fun i => if i = acc.np then q else ps i) vy vn (NotRow q0 (.slice As' (acc.np + 1) cs')) ∧
    (w3.setCell ⟨q0, 2, none⟩ (.slice As' (acc.np + 1) cs')).ownsRow (q0 + 1) 42 1 (.slice As' (acc.np + 1) cs') (acc.np + 1) ((List.range (acc.np + 1)).map fun i => bptr (if i = acc.np then q else ps i)) := by
  have hq0 : q0 < wr.heap.size := h.out.lt
  have hpq := h.pq
  have hwq := h.wq
  have hs1s := hg1.size
  have hob : ∀ g, (Value.slice As acc.np cs).ownBlock = some g → q0 + 1 ≤ g ∧ g < wr.heap.size := fun g hg => hown.lt g hg
  have hga : w1.grownBy (w1.alloc (.cells #[bptr q] 42)) none := World.grownBy_alloc _ _ _
  have hgs := hga.size
  -- what keeps a block that is not the scanner's, the row's, the body's
  have key : ∀ b, b ≠ p → (Value.slice As acc.np cs).ownBlock ≠ some b → b < w1.heap.size → b ≠ q0 → (w3.setCell ⟨q0, 2, none⟩ (.slice As' (acc.np + 1) cs')).heap[b]? = w1.heap[b]? := fun b hb1 hb2 hb3 hb4 => by
    rw [heap_setCell_other _ _ _ _ (show b ≠ q0 from hb4)]
    exact (hg3.block b (by omega) (fun e => hb2 e.symm)).trans (hga.block b hb3 (by simp))
  have key1 : ∀ b, b ≠ p → b < wr.heap.size → w1.heap[b]? = wr.heap[b]? := fun b hb1 hb2 => hg1.block b hb2 (fun e => hb1 (Option.some.inj e))
  have hpn : (Value.slice As acc.np cs).ownBlock ≠ some p := fun e => by have := hob p e; omega
  have hlen : acc.parts.length = acc.np := Bo.np_parts acc
  have hmaps : ((List.range acc.np).map fun i => bptr (ps i)) ++ ((List.range 1).map fun _ => bptr q) = (List.range (acc.np + 1)).map fun i => bptr (if i = acc.np then q else ps i) := by
    rw [List.range_succ (n := acc.np), List.map_append]
    congr 1
    · apply List.map_congr_left
      intro a ha
      have : a ≠ acc.np := by have := List.mem_range.1 ha; omega
      simp [this]
    · simp
  refine ⟨⟨rfl, h.lv, ?_, by have := h.ll; omega, by have := h.nn; omega, ?_, ?_, h.pq, h.wq, ?_, ?_⟩, ?_⟩
  · have h1 : (w3.setCell ⟨q0, 2, none⟩ (.slice As' (acc.np + 1) cs')).heap[p]? = w1.heap[p]? := by
      rw [heap_setCell_other _ _ _ _ (show p ≠ q0 by omega)]
      exact (hg3.block p (by have := hs1.lt; omega) (fun e => hpn e.symm)).trans (hga.block p hs1.lt (by simp))
    exact h1.trans hs1
  · refine gr_set ?_ (.inr (by show w.heap.size ≤ q0; omega)) _
    have h1 := gr_trans (gr_trans h.gr hg1) (gr_weak hga (some p))
    cases hv : (Value.slice As acc.np cs).ownBlock with
    | none => rw [hv] at hg3; exact gr_trans h1 (gr_weak hg3 _)
    | some g => rw [hv] at hg3; exact gr_trans_new h1 hg3 (by have := hob g hv; omega)
  · exact h.bx.keep fun b h1 h2 => (key b (by omega) (fun e => by have := hob b e; omega) (by omega) (by omega)).trans (key1 b (by omega) (by omega))
  · have h1 : Blk w3 q0 64 #[.string ⟨#[]⟩, .int .i64 u, .slice As acc.np cs, vy, vn] :=
      ((hg3.block q0 (by omega) (fun e => by have := hob q0 e.symm; omega)).trans (hga.block q0 (by omega) (by simp))).trans ((key1 q0 (by omega) hq0).trans h.out)
    have := h1.set 2 (.slice As' (acc.np + 1) cs')
    simpa using this
  · intro i b hi
    simp only [Bo.parts] at hi
    have hkp : ∀ (w2 : World), w2.heap.size = w1.heap.size → ∀ {q' : Nat} {y : Bo}, BodyP w1 (NotRow q0 (.slice As acc.np cs)) q' y → BodyP (w3.setCell ⟨q0, 2, none⟩ (.slice As' (acc.np + 1) cs')) (NotRow q0 (.slice As' (acc.np + 1) cs')) q' y := by
      intro w2 _ q' y hy
      have h2 : BodyP w1 (fun b => NotRow q0 (.slice As acc.np cs) b ∧ (Value.slice As' (acc.np + 1) cs').ownBlock ≠ some b) q' y := hy.mono fun b hb hbl => ⟨hb, by
        rcases hat with e | e
        · rw [e]; exact hb.2
        · rw [e]; intro e2; have := Option.some.inj e2; omega⟩
      refine (h2.keep (w' := w3.setCell ⟨q0, 2, none⟩ (.slice As' (acc.np + 1) cs')) fun b hb hbl => key b (by have := hb.1.1; omega) hb.1.2 hbl (by have := hb.1.1; omega)).mono fun b hb _ => ⟨hb.1.1, hb.2⟩
    by_cases hlt : i < acc.np
    · rw [List.getElem?_append_left (by omega)] at hi
      have : i ≠ acc.np := by omega
      simp only [if_neg this]
      exact hkp w1 rfl ((h.kids i b hi).keep fun b hb hbl => key1 b (by have := hb.1; omega) hbl)
    · rw [List.getElem?_append_right (by omega), hlen] at hi
      have hi0 := (List.getElem?_eq_some_iff.1 hi).1
      simp only [List.length_cons, List.length_nil] at hi0
      obtain rfl : i = acc.np := by omega
      have hxb : x = b := by simpa using hi
      subst hxb
      simp only [if_true]
      exact hkp w1 rfl (hb1.mono fun b hb _ => ⟨by unfold Fr at hb; omega, fun e => by have := hob b e; unfold Fr at hb; omega⟩)
  · rw [← hmaps]
    exact ownsRow_setCell_other hown3 (fun e => by have := hown3.lt _ e; simp only at this; omega) _
/-- An answer's part, stored in a cell of the body's own. -/
theorem IT.tail {x : Bo} {r : List UInt8} {n' q fi : Nat} {w1 : World} {f : Nat → Value} {vy' vn' : Value} (h : IT w wr p q0 u d A hl ca acc l n As j cs ps vy vn (Fr (q0 + 1))) (hA : Sl wr (Fr (q0 + 1)) As j f)
    (hg1 : wr.grownBy w1 (some p)) (hs1 : ScanG w1 p 87 [.int .i64 (n' : Int)] r) (hr : r.length ≤ l.length) (hn : n' ≤ n) (hb1 : BodyP w1 (Fr wr.heap.size) q x)
    (hc : (#[.string ⟨#[]⟩, .int .i64 (u : Int), .slice As j cs, vy, vn] : Array Value).setIfInBounds fi (bptr q) = #[.string ⟨#[]⟩, .int .i64 u, .slice As j cs, vy', vn']) :
    IT w (w1.setCell ⟨q0, fi, none⟩ (bptr q)) p q0 u d A hl ca (.sn acc x) r n' As j cs (fun i => if i = acc.np then q else ps i) vy' vn' (Fr (q0 + 1)) ∧ Sl (w1.setCell ⟨q0, fi, none⟩ (bptr q)) (Fr (q0 + 1)) As j f := by
  have hq0 : q0 < wr.heap.size := h.out.lt
  have hpq := h.pq
  have hwq := h.wq
  have hs1s := hg1.size
  have key1 : ∀ b, b ≠ p → b < wr.heap.size → w1.heap[b]? = wr.heap[b]? := fun b hb1 hb2 => hg1.block b hb2 (fun e => hb1 (Option.some.inj e))
  have key : ∀ b, b ≠ q0 → (w1.setCell ⟨q0, fi, none⟩ (bptr q)).heap[b]? = w1.heap[b]? := fun b hb => heap_setCell_other _ _ _ _ (show b ≠ q0 from hb)
  have hlen : acc.parts.length = acc.np := Bo.np_parts acc
  refine ⟨⟨rfl, h.lv, (key p (by omega)).trans hs1, by have := h.ll; omega, by have := h.nn; omega, gr_set (gr_trans h.gr hg1) (.inr (by show w.heap.size ≤ q0; omega)) _, h.bx.keep fun b h1 h2 => (key b (by omega)).trans (key1 b (by omega) (by omega)), h.pq, h.wq, ?_, ?_⟩, ?_⟩
  · have h1 : Blk w1 q0 64 #[.string ⟨#[]⟩, .int .i64 u, .slice As j cs, vy, vn] := (key1 q0 (by omega) hq0).trans h.out
    have := h1.set fi (bptr q)
    rw [hc] at this
    exact this
  · intro i b hi
    simp only [Bo.parts] at hi
    by_cases hlt : i < acc.np
    · rw [List.getElem?_append_left (by omega)] at hi
      have : i ≠ acc.np := by omega
      simp only [if_neg this]
      exact (h.kids i b hi).keep fun b hb hbl => (key b (by unfold Fr at hb; omega)).trans (key1 b (by unfold Fr at hb; omega) hbl)
    · rw [List.getElem?_append_right (by omega), hlen] at hi
      have hi0 := (List.getElem?_eq_some_iff.1 hi).1
      simp only [List.length_cons, List.length_nil] at hi0
      obtain rfl : i = acc.np := by omega
      have hxb : x = b := by simpa using hi
      subst hxb
      simp only [if_true]
      exact (hb1.fr (show q0 + 1 ≤ wr.heap.size by omega)).keep fun b hb hbl => key b (by unfold Fr at hb; omega)
  · exact hA.keep fun b hb hbl => (key b (by unfold Fr at hb; omega)).trans (key1 b (by unfold Fr at hb; omega) hbl)
theorem IT.rows (h : IT w wr p q0 u d A hl ca acc l n As acc.np cs ps vy vn (NotRow q0 (.slice As acc.np cs)))
    (hown : wr.ownsRow (q0 + 1) 42 1 (.slice As acc.np cs) acc.np ((List.range acc.np).map fun i => bptr (ps i))) :
    IT w wr p q0 u d A hl ca acc l n As acc.np cs ps vy vn (Fr (q0 + 1)) ∧ Sl wr (Fr (q0 + 1)) As acc.np (fun i => bptr (ps i)) := by
  refine ⟨⟨h.li, h.lv, h.sc, h.ll, h.nn, h.gr, h.bx, h.pq, h.wq, h.out, fun i b hi => (h.kids i b hi).mono fun b hb _ => hb.1⟩, ?_⟩
  obtain ⟨A', c', e, hs⟩ := own_form hown
  cases e
  intro h0
  obtain ⟨g, o, e, hg, hc⟩ := hs (Fr (q0 + 1)) (fun g hg => own_base hown hg) h0
  refine ⟨g, o, e, hg, fun i hi => ?_⟩
  rw [hc i hi]
  simp [List.getD, hi]
/-- The whole body. -/
theorem IT.done {m : Nat} (h : IT w wr p q0 u d A hl ca acc l n As m cs ps (bptr (ps m)) (bptr (ps (m + 1))) (Fr (q0 + 1))) (hA : Sl wr (Fr (q0 + 1)) As m (fun i => bptr (ps i))) (hm : acc.np = m + 2) : BodyP wr (Fr w.heap.size) q0 acc := by
  have hwq := h.wq
  refine .list q0 acc m As cs ps (by unfold Fr; omega) h.li ((Bo.np_parts acc).trans hm) (by rw [h.lv]; exact h.out) (hA.mono fun b hb _ => by unfold Fr at *; omega) fun i b hi => (h.kids i b hi).fr (by omega)
theorem IT.done2 {x z : Bo} {q q2 : Nat} (h : IT w wr p q0 u d A hl ca ((acc.sn x).sn z) l n As acc.np cs (fun i => if i = (acc.sn x).np then q2 else (fun i => if i = acc.np then q else ps i) i) (bptr q) (bptr q2) (Fr (q0 + 1)))
    (hA : Sl wr (Fr (q0 + 1)) As acc.np (fun i => bptr (ps i))) : BodyP wr (Fr w.heap.size) q0 ((acc.sn x).sn z) := by
  have e0 : (acc.sn x).np = acc.np + 1 := rfl
  rw [e0] at h
  generalize hf : (fun i => if i = acc.np + 1 then q2 else (fun i => if i = acc.np then q else ps i) i) = f at h
  have e1 : f acc.np = q := by rw [← hf]; simp
  have e2 : f (acc.np + 1) = q2 := by rw [← hf]; simp
  rw [← e1, ← e2] at h
  refine IT.done h ?_ rfl
  intro h0
  obtain ⟨g, o, e, hg, hc⟩ := hA h0
  refine ⟨g, o, e, hg, fun i hi => ?_⟩
  rw [hc i hi, ← hf]
  have h1 : i ≠ acc.np + 1 := by omega
  have h2 : i ≠ acc.np := by omega
  simp [h1, h2]
end
end Go.Proofs.YtlehnlfgjadleaaDoor
