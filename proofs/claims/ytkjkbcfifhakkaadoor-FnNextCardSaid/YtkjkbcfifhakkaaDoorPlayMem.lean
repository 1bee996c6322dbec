/- Plays in memory; the statements' own helpers on them. -/
import Derived.Test.YtkjkbcfifhakkaaDoorInts
import Derived.Test.YtkjkbcfifhakkaaDoorOpen
namespace Go.Proofs.YtkjkbcfifhakkaaDoor
open Go.RowKit

/-- A play by value: where its moves and its pointers lie. -/
def PlS (w : World) (F : Nat → Prop) (p : Pl) (A B : Option Addr) : Prop := Sl w F A p.ms.length (sv p.ms) ∧ Sl w F B p.ps.length (iv p.ps)
theorem PlS.grown0 {w w' : World} {F : Nat → Prop} {p : Pl} {A B : Option Addr} (h : PlS w F p A B) (hg : w.grownBy w' none) : PlS w' F p A B := ⟨h.1.grown0 hg, h.2.grown0 hg⟩
theorem PlS.all {w : World} {F : Nat → Prop} {p : Pl} {A B : Option Addr} (h : PlS w F p A B) : PlS w Al p A B := ⟨h.1.mono fun _ _ _ => trivial, h.2.mono fun _ _ _ => trivial⟩
/-- A play whose lists are the call's own. -/
def PlO (w : World) (base : Nat) (p : Pl) (A : Option Addr) (cA : Nat) (B : Option Addr) (cB : Nat) : Prop :=
  w.ownsRow base 9 1 (.slice A p.ms.length cA) p.ms.length (p.ms.map strv) ∧ w.ownsRow base 3 1 (.slice B p.ps.length cB) p.ps.length (p.ps.map intv)
section
variable {w w' : World} {base : Nat} {p : Pl} {A B : Option Addr} {cA cB : Nat}
theorem PlO.sl (h : PlO w base p A cA B cB) : PlS w (Fr base) p A B := ⟨(own_sl h.1).1, (own_sli h.2).1⟩
theorem PlO.keep (h : PlO w base p A cA B cB) (hg : w.grownBy w' none) : PlO w' base p A cA B cB := ⟨own_keep h.1 hg, own_keep h.2 hg⟩
theorem PlO.weak (h : PlO w base p A cA B cB) {b : Nat} (hb : b ≤ base) : PlO w b p A cA B cB := ⟨own_weak h.1 hb, own_weak h.2 hb⟩
/-- A block ahead of a row of one's own is written. -/
theorem own_setlt {e : TypeId} {v : Value} {n : Nat} {xs : List Value} (h : w.ownsRow base e 1 v n xs) {a : Addr} (hg : a.block < base) (u : Value) : (w.setCell a u).ownsRow base e 1 v n xs :=
  own_keep2 h (gr_set (gr_refl w (some a.block)) (.inl rfl) u) (fun g hg' _ he => by
    have h1 := own_base h hg'
    cases he
    omega)
theorem PlO.setlt (h : PlO w base p A cA B cB) {a : Addr} (hg : a.block < base) (u : Value) : PlO (w.setCell a u) base p A cA B cB := ⟨own_setlt h.1 hg u, own_setlt h.2 hg u⟩
theorem own_ty {e : TypeId} {v : Value} {n : Nat} {xs : List Value} (h : w.ownsRow base e 1 v n xs) {g : Nat} (hg : v.ownBlock = some g) : ∃ cur, Blk w g e cur := by
  obtain ⟨_, ⟨rfl, _⟩ | ⟨g', cap', cur, rfl, _, hb, _⟩⟩ := h
  · cases hg
  · cases hg
    exact ⟨cur, hb⟩
/-- Rows of two types are two blocks. -/
theorem own_ne {e e' : TypeId} {b b' : Nat} {v v' : Value} {n n' : Nat} {xs xs' : List Value} (h : w.ownsRow b e 1 v n xs) (h' : w.ownsRow b' e' 1 v' n' xs') (he : e ≠ e') {g : Nat} (hg : v.ownBlock = some g) : some g ≠ v'.ownBlock := by
  intro e1
  obtain ⟨c1, k1⟩ := own_ty h hg
  obtain ⟨c2, k2⟩ := own_ty h' e1.symm
  unfold Blk at k1 k2
  rw [k1] at k2
  injection k2 with k2
  injection k2 with _ k3 _
  exact he k3
end

/-- What is known of a play that came in. -/
def IsPlay (w : World) (p : Pl) (A B : Option Addr) : Prop := IsStrs w A p.ms ∧ IsInts w B p.ps
theorem isPlay_grown {w w' : World} {p : Pl} {A B : Option Addr} (h : IsPlay w p A B) (hg : w.grownBy w' none) : IsPlay w' p A B := ⟨⟨h.1.1.grown0 hg, h.1.2⟩, h.2.1.grown0 hg, h.2.2⟩
theorem IsPlay.pls {w : World} {p : Pl} {A B : Option Addr} (h : IsPlay w p A B) : PlS w Al p A B := ⟨h.1.1, h.2.1⟩
/-- A play of few signs. -/
def SmallP (p : Pl) : Prop := Small p.ms ∧ p.ps.length ≤ 1048576


/-- Are two plays alike? -/
def plEq (p q : Pl) : Bool := p.ms == q.ms && p.ps == q.ps
theorem plEq_self (p : Pl) : plEq p p = true := by simp [plEq]
theorem plEq_iff {p q : Pl} : plEq p q = true ↔ p = q := by
  obtain ⟨a, b⟩ := p
  obtain ⟨c, d⟩ := q
  simp [plEq]


end Go.Proofs.YtkjkbcfifhakkaaDoor
