/- Rows of one's own, of one-cell elements. -/
import Derived.Test.YtlehnlfgjadleaaDoorRows
import Derived.Test.YtlehnlfgjadleaaDoorWords
import Derived.Test.YtlehnlfgjadleaaDoorStr
namespace Go.Proofs.YtlehnlfgjadleaaDoor
open Go.RowKit

/-- A text as a value. -/
def strv (l : List UInt8) : Value := .string ⟨l.toArray⟩

theorem info_str : (Tryd.prog.info? 9).map (fun i => (i.zero, i.size, i.bytes)) = some (some (.string ⟨#[]⟩), 1, 16) := by kernel_rfl

theorem own_nil (w : World) (base : Nat) (e : TypeId) : w.ownsRow base e 1 (.slice none 0 0) 0 [] := ⟨rfl, .inl ⟨rfl, rfl⟩⟩

/-- A row of one's own stays so while nothing old is written. -/
theorem own_keep {w w' : World} {base : Nat} {e : TypeId} {v : Value} {n : Nat} {xs : List Value} (h : w.ownsRow base e 1 v n xs) (hg : w.grownBy w' none) : w'.ownsRow base e 1 v n xs := by
  obtain ⟨hl, ⟨rfl, rfl⟩ | ⟨g, cap, cur, rfl, hb, hr, h1, h2, h3, h4⟩⟩ := h
  · exact ⟨hl, .inl ⟨rfl, rfl⟩⟩
  · exact ⟨hl, .inr ⟨g, cap, cur, rfl, hb, (hg.block g (Array.getElem?_eq_some_iff.1 hr).1 (by simp)).trans hr, h1, h2, h3, h4⟩⟩

theorem own_weak {w : World} {b c : Nat} {e : TypeId} {v : Value} {n : Nat} {xs : List Value} (h : w.ownsRow c e 1 v n xs) (hb : b ≤ c) : w.ownsRow b e 1 v n xs := by
  obtain ⟨hl, ⟨rfl, rfl⟩ | ⟨g, cap, cur, rfl, hbg, hr, h1, h2, h3, h4⟩⟩ := h
  · exact ⟨hl, .inl ⟨rfl, rfl⟩⟩
  · exact ⟨hl, .inr ⟨g, cap, cur, rfl, Nat.le_trans hb hbg, hr, h1, h2, h3, h4⟩⟩

theorem own_empty {w : World} {base : Nat} (e : TypeId) (h : base ≤ w.heap.size) : (w.alloc (.cells #[] e)).ownsRow base e 1 (.slice (some ⟨w.heap.size, 0, none⟩) 0 0) 0 [] :=
  ⟨rfl, .inr ⟨w.heap.size, 0, #[], rfl, h, heap_alloc_new w _, Nat.le_refl _, by unfold maxLen; omega, rfl, rfl⟩⟩

/-- A new list of one element. -/
theorem sl_one (w : World) (e : TypeId) (v : Value) : Sl (w.alloc (.cells #[v] e)) Al (some ⟨w.heap.size, 0, none⟩) 1 (fun _ => v) := fun _ =>
  ⟨_, _, rfl, trivial, fun i hi => by
    obtain rfl : i = 0 := by omega
    rw [(Blk.new w e #[v]).cell]; rfl⟩

/-- An append to a row that the call made keeps all that was there before. -/
theorem gr_own {w0 w1 w2 : World} {e : TypeId} {v : Value} {n : Nat} {xs : List Value} (h : w0.grownBy w1 none) (hown : w1.ownsRow w0.heap.size e 1 v n xs) (hg : w1.grownBy w2 v.ownBlock) : w0.grownBy w2 none := by
  cases hv : v.ownBlock with
  | none => rw [hv] at hg; exact gr_trans h hg
  | some g => rw [hv] at hg; exact gr_trans_new h hg (own_base hown hv)

end Go.Proofs.YtlehnlfgjadleaaDoor
