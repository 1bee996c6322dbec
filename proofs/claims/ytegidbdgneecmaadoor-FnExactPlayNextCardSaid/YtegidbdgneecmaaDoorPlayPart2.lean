/- PlayPart on both sides. -/
import Derived.Test.YtegidbdgneecmaaDoorPlayPartS
namespace Go.Proofs.YtegidbdgneecmaaDoor
open Go.RowKit

/-- A play's own lists, between two places of the heap. -/
def PlIn (w : World) (lo hi : Nat) (p : Pl) (A : Option Addr) (cA : Nat) (B : Option Addr) (cB : Nat) : Prop :=
  PlO w lo p A cA B cB ∧ (∀ g, (Value.slice A p.ms.length cA).ownBlock = some g → lo ≤ g ∧ g < hi) ∧ ∀ g, (Value.slice B p.ps.length cB).ownBlock = some g → lo ≤ g ∧ g < hi
theorem PlO.plIn {w : World} {lo : Nat} {p : Pl} {A : Option Addr} {cA : Nat} {B : Option Addr} {cB : Nat} (h : PlO w lo p A cA B cB) : PlIn w lo w.heap.size p A cA B cB :=
  ⟨h, fun g hg => ⟨own_base h.1 hg, by obtain ⟨_, k⟩ := own_ty h.1 hg; exact k.lt⟩, fun g hg => ⟨own_base h.2 hg, by obtain ⟨_, k⟩ := own_ty h.2 hg; exact k.lt⟩⟩
theorem PlIn.keep {w w' : World} {lo hi : Nat} {p : Pl} {A : Option Addr} {cA : Nat} {B : Option Addr} {cB : Nat} {x : Option Nat} (h : PlIn w lo hi p A cA B cB) (hg : w.grownBy w' x) (hx : ∀ g, x = some g → g < lo ∨ hi ≤ g) : PlIn w' lo hi p A cA B cB :=
  ⟨⟨own_keep2 h.1.1 hg fun g hg' _ e => by
      have h1 := h.2.1 g hg'
      have h2 := hx g e.symm
      omega, own_keep2 h.1.2 hg fun g hg' _ e => by
      have h1 := h.2.2 g hg'
      have h2 := hx g e.symm
      omega⟩, h.2.1, h.2.2⟩
theorem PlIn.keep0 {w w' : World} {lo hi : Nat} {p : Pl} {A : Option Addr} {cA : Nat} {B : Option Addr} {cB : Nat} (h : PlIn w lo hi p A cA B cB) (hg : w.grownBy w' none) : PlIn w' lo hi p A cA B cB := h.keep hg (fun g e => by cases e)
theorem blk_keep {w w' : World} {b : Nat} {t : TypeId} {cs : Array Value} {x : Option Nat} (h : Blk w b t cs) (hg : w.grownBy w' x) {lo hi : Nat} (hx : ∀ g, x = some g → lo ≤ g ∧ g < hi) (hb : b < lo ∨ hi ≤ b) : Blk w' b t cs :=
  h.grown hg (fun e => by have := hx b e.symm; omega)

theorem visOf_some {r : List UInt8} {p : Pl} (h : visOf r p = true) : ∃ t, Ty.read r = some t ∧ p.ok t = true ∧ t.atoms ≤ 15 ∧ p.vis = true := by
  unfold visOf at h
  rw [Bool.and_eq_true] at h
  obtain ⟨t, h1, h2, h3⟩ := playOf_some h.1
  exact ⟨t, h1, h2, h3, h.2⟩
/-- The play of the view of the player. -/
def pvw (p : Pl) : List Nat := p.view false p.ms.length
def partOf (r : List UInt8) (p : Pl) : Pl := if visOf r p then p.part (pvw p) else ⟨[], []⟩
theorem vI_pvw (p : Pl) : vI p false p.ms.length = (pvw p).map fun k : Nat => (k : Int) := rfl
theorem pvw_length (p : Pl) : (pvw p).length ≤ p.ms.length := Pl.view_length
theorem partOf_length (r : List UInt8) (p : Pl) : (partOf r p).ms.length ≤ 60 ∧ (partOf r p).ps.length ≤ 60 := by
  unfold partOf
  split
  · rename_i h
    obtain ⟨t, _, h1, _⟩ := visOf_some h
    have := (Pl.ok_iff.1 h1).1
    have := pvw_length p
    constructor
    · simp [Pl.part]; omega
    · simp [Pl.part]; omega
  · simp
/-- What both PlayPart give: lists of their own. -/
def PartPost (w w' : World) (r : List UInt8) (p : Pl) (e : Ending) : Prop :=
  ∃ A c B d, e = .returned (.tuple #[.agg #[.slice A (partOf r p).ms.length c, .slice B (partOf r p).ps.length d], .bool (visOf r p)]) ∧ PlO w' w.heap.size (partOf r p) A c B d

end Go.Proofs.YtegidbdgneecmaaDoor
