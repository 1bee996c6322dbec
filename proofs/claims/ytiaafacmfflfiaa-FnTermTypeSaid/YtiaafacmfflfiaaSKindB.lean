/- The reference's types of terms: what is to be shown. -/
import Derived.Test.YtiaafacmfflfiaaSKind
namespace Go.Proofs.Ytiaafacmfflfiaa
open Go.RowKit

/-- What is to be shown of a term. -/
def KIH (t : Tm) : Prop := ∀ (E : Env) (An At A : Option Addr) (cn ct c : Nat) (F : Nat → Prop) (w : World), (∀ b, w.heap.size ≤ b → F b) → EnvS w F An At E → E.ok → (∀ p ∈ E, isNm p.1 = true) → E.length + t.atoms ≤ 500 → t.wf = true → t.small = true → SxV w Al A c t.sx →
    Calls Try.prog 32 #[.agg #[.slice An E.length cn, .slice At E.length ct], .agg #[.string ⟨t.sx.atom.toArray⟩, .slice A t.sx.parts.length c]] w fun e w' => ∃ u, KPost F u (t.ty E).isSome w e w' ∧ u.args.length ≤ 15 + t.atoms ∧ ∀ k, t.ty E = some k → u = k
theorem EnvS.apart {w : World} {F : Nat → Prop} {An At : Option Addr} {E : Env} (h : EnvS w F An At E) (r : Nat) (hr : w.heap.size ≤ r) : EnvS w (fun b => F b ∧ b ≠ r) An At E := h.mono fun _ hb hl => ⟨hb, by omega⟩
theorem TreeV.apart {w : World} {F : Nat → Prop} {v : Value} {t : Ty} {r i : Nat} (h : TreeV w (fun b => F b ∧ b ≠ r) v t) (u : Value) : TreeV (w.setCell ⟨r, i, none⟩ u) F v t :=
  (h.keep fun b hb _ => heap_setCell_other w ⟨r, i, none⟩ b u hb.2).mono fun _ hb _ => hb.1
/-- Ways that end alike are gone on with as one. -/
theorem mergeC {P : Program} {c : Code} {Q : Exit → Act → World → Prop} {a : Act} {w : World} {C : Nat → World → Ty → Option Addr → Nat → Prop} (Pf : Nat → World → Ty → Option Addr → Nat → Prop) (h1 : (∀ b w u A c, Pf b w u A c → C b w u A c) → Code.wp P c Q a w) (h2 : ∀ b w u A c, Pf b w u A c → C b w u A c) : Code.wp P c Q a w := h1 h2
/-- A function type's result, as the rest of the slice. -/
theorem treeV_tail2 {w : World} {F : Nat → Prop} {a c : Ty} {gA oA c1 : Nat} (h : TreeV w F (.slice (some ⟨gA, oA, none⟩) (c.args.length + 1) c1) (.arr a c)) (A' : Option Addr) (hA : c1 ≠ 1 → A' = some ⟨gA, oA + 1, none⟩) :
    TreeV w F (.slice A' c.args.length (c1 - 1)) c := by
  have hcap := h.cap
  have hln : (Ty.arr a c).args.length = c.args.length + 1 := rfl
  rw [hln] at hcap
  obtain ⟨_, _, vs, hv, hS, hch⟩ := h.open_
  injection hv with hv1 hv2 hv3
  subst hv1 hv3
  rw [hln] at hS
  obtain ⟨g', o', e, hgA, hcell⟩ := hS (by omega)
  cases e
  refine .mk c A' (c1 - 1) (fun i => vs (i + 1)) (fun h0 => ⟨gA, oA + 1, hA (by omega), hgA, fun i hi => ?_⟩) (fun i u hu => hch (i + 1) u hu) (by omega)
  have := hcell (i + 1) (by omega)
  rw [show oA + 1 + i = oA + (i + 1) by omega]
  exact this
end Go.Proofs.Ytiaafacmfflfiaa
