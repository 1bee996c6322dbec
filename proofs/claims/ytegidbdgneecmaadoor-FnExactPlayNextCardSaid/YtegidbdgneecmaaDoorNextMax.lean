/- Lists of plays between two places of the heap, and how many next plays there are. -/
import Derived.Test.YtegidbdgneecmaaDoorMarkPlayS
import Derived.Test.YtegidbdgneecmaaDoorPlayNextK
import Derived.Test.YtegidbdgneecmaaDoorPlayPart2
namespace Go.Proofs.YtegidbdgneecmaaDoor
open Go.RowKit

theorem flat_len {α β : Type} (f : α → List β) (c : Nat) (h : ∀ a, (f a).length ≤ c) : ∀ l : List α, (l.flatMap f).length ≤ c * l.length
  | [] => by simp
  | a :: l => by
    have ih := flat_len f c h l
    have h1 := h a
    rw [List.flatMap_cons, List.length_append, List.length_cons, Nat.mul_succ]
    omega
theorem nextL_length {t : Ty} (ht : t.atoms ≤ 15) (p : Pl) : (Pl.nextL t p).length ≤ 24 * p.ms.length + 1 := by
  unfold Pl.nextL
  split
  · simp
  · have h1 := movesT_length t []
    have h2 := count_atoms t
    have h3 := flat_len (fun i => ((movesT t []).filter (Pl.fitS p i)).map fun m => p.snoc m i) 24 (fun i => by
      rw [List.length_map]
      have := List.length_filter_le (Pl.fitS p i) (movesT t [])
      omega) (List.range p.ms.length)
    rw [List.length_range] at h3
    exact Nat.le_succ_of_le h3
theorem nextPl_length (r : List UInt8) (p : Pl) : (nextPl r p).length ≤ 1500 := by
  unfold nextPl
  by_cases hk : nextOk r p = true
  · rw [if_pos hk]
    have hk2 := hk
    unfold nextOk at hk2
    simp at hk2
    obtain ⟨t, htr, hlg, hat, h60⟩ := legOf_some hk2.1
    rw [htr]
    have := nextL_length hat p
    simp only
    omega
  · rw [if_neg hk]
    simp
theorem offs_le {D : List PD} (h : ∀ j (hj : j < D.length), PD.wt D[j] ≤ 120) (k : Nat) : ∀ j, j ≤ D.length → offs D k j ≤ k + 120 * j
  | 0, _ => by rw [offs_zero]; omega
  | j + 1, hj => by
    have ih := offs_le h k j (by omega)
    have h1 := h j hj
    have h2 := offs_succ (k := k) (show j < D.length from hj)
    unfold PD.wt at h1
    omega

/-- A row stays where its block does. -/
theorem own_at {w w' : World} {base : Nat} {e : TypeId} {v : Value} {n : Nat} {xs : List Value} (h : w.ownsRow base e 1 v n xs) (hk : ∀ g, v.ownBlock = some g → w'.heap[g]? = w.heap[g]?) : w'.ownsRow base e 1 v n xs := by
  obtain ⟨hl, ⟨rfl, rfl⟩ | ⟨g, cap, cur, rfl, hb, hr, h1, h2, h3, h4⟩⟩ := h
  · exact ⟨hl, .inl ⟨rfl, rfl⟩⟩
  · exact ⟨hl, .inr ⟨g, cap, cur, rfl, hb, (hk g rfl).trans hr, h1, h2, h3, h4⟩⟩
theorem own2_at {w w' : World} {base : Nat} {e : TypeId} {v : Value} {n : Nat} {xs : List Value} (h : w.ownsRow base e 2 v n xs) (hk : ∀ g, v.ownBlock = some g → w'.heap[g]? = w.heap[g]?) : w'.ownsRow base e 2 v n xs := by
  obtain ⟨hl, ⟨rfl, rfl⟩ | ⟨g, cap, cur, rfl, hb, hr, h1, h2, h3, h4⟩⟩ := h
  · exact ⟨hl, .inl ⟨rfl, rfl⟩⟩
  · exact ⟨hl, .inr ⟨g, cap, cur, rfl, hb, (hk g rfl).trans hr, h1, h2, h3, h4⟩⟩
/-- A list of plays, all between two places of the heap. -/
def PDsIn (w : World) (lo hi : Nat) (v : Value) (D : List PD) : Prop :=
  PDs w lo v D ∧ (∀ g, v.ownBlock = some g → lo ≤ g ∧ g < hi) ∧ ∀ d ∈ D, (∀ g, d.a.ownBlock = some g → lo ≤ g ∧ g < hi) ∧ ∀ g, d.b.ownBlock = some g → lo ≤ g ∧ g < hi
theorem PDs.pin {w : World} {lo : Nat} {v : Value} {D : List PD} (h : PDs w lo v D) : PDsIn w lo w.heap.size v D :=
  ⟨h, fun _ hg => ⟨(own2_ty h.1 hg).1, by obtain ⟨_, _, k⟩ := own2_ty h.1 hg; exact k.lt⟩, fun d hd => ⟨fun g hg => ⟨own_base (h.2 d hd).1 hg, (h.below d hd).1 g hg⟩, fun g hg => ⟨own_base (h.2 d hd).2 hg, (h.below d hd).2 g hg⟩⟩⟩
theorem PDsIn.at_ {w w' : World} {lo hi : Nat} {v : Value} {D : List PD} (h : PDsIn w lo hi v D) (hk : ∀ g, lo ≤ g → g < hi → w'.heap[g]? = w.heap[g]?) : PDsIn w' lo hi v D :=
  ⟨⟨own2_at h.1.1 fun g hg => hk g (h.2.1 g hg).1 (h.2.1 g hg).2, fun d hd => ⟨own_at (h.1.2 d hd).1 fun g hg => hk g ((h.2.2 d hd).1 g hg).1 ((h.2.2 d hd).1 g hg).2, own_at (h.1.2 d hd).2 fun g hg => hk g ((h.2.2 d hd).2 g hg).1 ((h.2.2 d hd).2 g hg).2⟩⟩, h.2.1, h.2.2⟩
theorem PDsIn.keep0 {w w' : World} {lo hi : Nat} {v : Value} {D : List PD} (h : PDsIn w lo hi v D) (hg : w.grownBy w' none) : PDsIn w' lo hi v D := ⟨h.1.keep hg, h.2.1, h.2.2⟩
theorem PDsIn.keep {w w' : World} {lo hi : Nat} {v : Value} {D : List PD} {x : Option Nat} (h : PDsIn w lo hi v D) (hg : w.grownBy w' x) (hh : hi ≤ w.heap.size) (hx : ∀ g, x = some g → g < lo ∨ hi ≤ g) : PDsIn w' lo hi v D :=
  h.at_ fun g h1 h2 => hg.block g (by omega) fun e => by have := hx g e.symm; omega

/-- The world with no more of the heap than its first blocks. -/
def cutW (w : World) (n : Nat) : World := { w with heap := w.heap.extract 0 n }
theorem cutW_size {w : World} {n : Nat} (h : n ≤ w.heap.size) : (cutW w n).heap.size = n := by simp [cutW]; omega
theorem cutW_get {w : World} {n g : Nat} (h : g < n) : (cutW w n).heap[g]? = w.heap[g]? := by
  simp only [cutW, Array.getElem?_extract]
  simp
  omega
theorem cutW_gr {w : World} {n : Nat} (h : n ≤ w.heap.size) : (cutW w n).grownBy w none :=
  ⟨rfl, rfl, rfl, by rw [cutW_size h]; exact h, fun i hi _ => (cutW_get (by rw [cutW_size h] at hi; exact hi)).symm⟩
/-- What grows a cut world leaves all below the cut. -/
theorem cut_trans {w0 w w' : World} {n : Nat} (h0 : w0.grownBy w none) (hn : w0.heap.size ≤ n) (hw : n ≤ w.heap.size) (h : (cutW w n).grownBy w' none) : w0.grownBy w' none := by
  refine ⟨h.os.trans h0.os, h.tape.trans h0.tape, h.output.trans h0.output, ?_, fun i hi _ => ?_⟩
  · have := h.size
    rw [cutW_size hw] at this
    omega
  · have h1 := h.block i (by rw [cutW_size hw]; omega) (by simp)
    rw [cutW_get (by omega)] at h1
    exact h1.trans (h0.block i hi (by simp))
theorem PDsIn.cut {w w' : World} {lo hi n : Nat} {v : Value} {E : List PD} (h : PDsIn w lo hi v E) (hn : hi ≤ n) (hw : n ≤ w.heap.size) (hg : (cutW w n).grownBy w' none) : PDsIn w' lo hi v E :=
  h.at_ fun g _ h2 => by
    have h1 := hg.block g (by rw [cutW_size hw]; omega) (by simp)
    rw [cutW_get (by omega)] at h1
    exact h1
theorem PDs.mi {w : World} {base k : Nat} {v : Value} {D : List PD} (h : PDs w base v D) : MI w base D k 0 := fun i hi =>
  ⟨_, _, (h.2 _ (List.getElem_mem hi)).1, (h.2 _ (List.getElem_mem hi)).2, fun h => absurd h (by omega)⟩
theorem MI.marked {w : World} {base k : Nat} {D : List PD} (h : MI w base D k D.length) : Marked w D k := fun i hi => by
  obtain ⟨vs, us, h1, h2, h3⟩ := h i hi
  obtain ⟨rfl, rfl⟩ := h3 hi
  have k1 := (own_sl h1).1
  have k2 := (own_sli h2).1
  rw [marks_length] at k1
  rw [imarks_length] at k2
  exact ⟨_, _, k1, k2⟩
theorem Marked.grown0 {w w' : World} {D : List PD} {k : Nat} (h : Marked w D k) (hg : w.grownBy w' none) : Marked w' D k := fun i hi => by
  obtain ⟨F, G, h1, h2⟩ := h i hi
  exact ⟨F, G, h1.grown0 hg, h2.grown0 hg⟩
end Go.Proofs.YtegidbdgneecmaaDoor
