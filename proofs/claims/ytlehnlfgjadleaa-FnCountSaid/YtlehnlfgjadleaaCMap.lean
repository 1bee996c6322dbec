/- The counter's map: keys, each with a row of counts. -/
import Derived.Test.YtlehnlfgjadleaaKeyT
import Derived.Test.YtlehnlfgjadleaaOwn
import Derived.Maps.OwnOps
import Derived.Maps.OwnSet
import Derived.Maps.Keyed
import Derived.Maps.Views
import Derived.WalkArith
namespace Go.Proofs.Ytlehnlfgjadleaa
open Go.RowKit Go.Maps

/-- An element of a map, as it stands. -/
def heldE (v : Value) : Option (DataW Value × List MemPlace) := some (.held v, [])
theorem heldE_inv {v : Value} {z : DataW Value} {ps : List MemPlace} (h : heldE v = some (z, ps)) : z = .held v := by cases h; rfl
theorem keyS : Keyed Try.prog 9 := string_keyed Try.underlying9
theorem keyOfS (l : List UInt8) (h : l.length ≤ maxLen) : keyOf Try.prog 9 (.string ⟨l.toArray⟩) = some (.string l) := by
  exact WideMaps.keyOf_string_mk (P := Try.prog) Try.underlying9 (s := ⟨l.toArray⟩) (by simpa [ByteArray.size] using h)
theorem zeroSl (w : World) : (zeroValue 22).run Try.prog w = .ok (.slice none 0 0) w := by kernel_rfl
/-- The j-th count. -/
def cv (hand : List Ty) (j : Nat) : Value := .int .i64 (C hand j : Int)
/-- All blocks but one. -/
def Off (b : Nat) : Nat → Prop := fun x => x ≠ b
/-- A row of counts, up to n nodes. -/
def CRow (w : World) (F : Nat → Prop) (hand : List Ty) (n : Nat) (v : Value) : Prop := ∃ A c, v = .slice A (n + 1) c ∧ n + 1 ≤ c ∧ Sl w F A (n + 1) (cv hand)
theorem CRow.keep {w w' : World} {F : Nat → Prop} {hand : List Ty} {n : Nat} {v : Value} (h : CRow w F hand n v) (hk : ∀ b, F b → b < w.heap.size → w'.heap[b]? = w.heap[b]?) : CRow w' F hand n v :=
  let ⟨A, c, e, hc, hs⟩ := h; ⟨A, c, e, hc, hs.keep hk⟩
theorem CRow.mono {w : World} {F G : Nat → Prop} {hand : List Ty} {n : Nat} {v : Value} (h : CRow w F hand n v) (hm : ∀ b, F b → b < w.heap.size → G b) : CRow w G hand n v :=
  let ⟨A, c, e, hc, hs⟩ := h; ⟨A, c, e, hc, hs.mono hm⟩
/-- Block b is a counter's map of at most N entries, its rows in F. -/
def CMap (w : World) (F : Nat → Prop) (b N : Nat) : Prop :=
  ∃ D : DataW Value, w.ownsMap Try.prog 9 heldE b N D ∧ IsMap D ∧ (∀ x, F x → x ≠ b) ∧
    ∀ hand n, n ≤ 9 → has D (.string (keyT hand n)) = true → ∃ v, (∀ z, D.atKey (.string (keyT hand n)) z = .held v) ∧ CRow w F hand n v
section
variable {w w' : World} {F G : Nat → Prop} {b N : Nat}
theorem CMap.lt (h : CMap w F b N) : b < w.heap.size := by obtain ⟨D, h, _⟩ := h; exact h.lt
theorem CMap.ne (h : CMap w F b N) {x : Nat} (hx : F x) : x ≠ b := by obtain ⟨D, _, _, h, _⟩ := h; exact h x hx
theorem CMap.mono {M : Nat} (h : CMap w F b N) (hN : N ≤ M) : CMap w F b M := let ⟨D, h1, h2, h3, h4⟩ := h; ⟨D, h1.mono hN, h2, h3, h4⟩
theorem CMap.monoF (h : CMap w F b N) (hm : ∀ x, F x → x < w.heap.size → G x) (hG : ∀ x, G x → x ≠ b) : CMap w G b N :=
  let ⟨D, h1, h2, _, h4⟩ := h; ⟨D, h1, h2, hG, fun hand n hn hh => let ⟨v, h5, h6⟩ := h4 hand n hn hh; ⟨v, h5, h6.mono hm⟩⟩
/-- It stays while one other block is written. -/
theorem CMap.grown {x : Option Nat} (h : CMap w F b N) (hg : w.grownBy w' x) (hb : some b ≠ x) (hF : ∀ g, F g → some g ≠ x) : CMap w' F b N :=
  let ⟨D, h1, h2, h3, h4⟩ := h
  ⟨D, h1.kept hg hb, h2, h3, fun hand n hn hh => let ⟨v, h5, h6⟩ := h4 hand n hn hh; ⟨v, h5, h6.keep fun y hy hl => hg.block y hl (hF y hy)⟩⟩
theorem CMap.grown0 (h : CMap w F b N) (hg : w.grownBy w' none) : CMap w' F b N := h.grown hg (by simp) (fun _ _ => by simp)
theorem CMap.made (w : World) (F : Nat → Prop) (hF : ∀ x, F x → x ≠ w.heap.size) : CMap (w.alloc (.map #[] 0)) F w.heap.size 0 :=
  ⟨.map [], World.ownsMap_made w _ _ _, isMap_empty, hF, fun hand n _ h => by simp [has] at h⟩
end
theorem CMap.put {w w' : World} {F : Nat → Prop} {b N : Nat} {D : DataW Value} {hand : List Ty} {n : Nat} {v : Value} (hn : n ≤ 9) (hD : IsMap D) (hF : ∀ x, F x → x ≠ b)
    (h3 : ∀ hand n, n ≤ 9 → has D (.string (keyT hand n)) = true → ∃ v, (∀ z, D.atKey (.string (keyT hand n)) z = .held v) ∧ CRow w F hand n v)
    (hown : w'.ownsMap Try.prog 9 heldE b N (D.put (.string (keyT hand n)) (.held v))) (hg : w.grownBy w' (some b)) (hv : CRow w F hand n v) : CMap w' F b N := by
  have hkp : ∀ x, F x → x < w.heap.size → w'.heap[x]? = w.heap[x]? := fun x hx hl => hg.block x hl (fun e => hF x hx (Option.some.inj e))
  refine ⟨_, hown, hD.put _ _, hF, fun hand' n' hn' hh => ?_⟩
  by_cases he : keyT hand' n' = keyT hand n
  · obtain ⟨rfl, rfl⟩ := keyT_inj hn' hn he
    exact ⟨v, fun z => atKey_put_same hD (by simp [WideAt.IsKeyLit]) _ z, hv.keep hkp⟩
  · have hne : (Lit.string (keyT hand' n')) ≠ Lit.string (keyT hand n) := fun e => he (Lit.string.inj e)
    rw [has_put_other hne] at hh
    obtain ⟨u, h4, h5⟩ := h3 hand' n' hn' hh
    exact ⟨u, fun z => by rw [atKey_put_other hne]; exact h4 z, h5.keep hkp⟩
end Go.Proofs.Ytlehnlfgjadleaa
