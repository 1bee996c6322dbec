/- Lists of texts in the statements' own helpers. -/
import Derived.Test.YtlehnlfgjadleaaOwn
import Derived.Test.YtlehnlfgjadleaaKind2
import Derived.Deep.QuietTactic
import Derived.BigQuiet
import Derived.Deep.RegionWith
namespace Go.Proofs.Ytlehnlfgjadleaa
open Go.RowKit

/-- The values of a list of texts. -/
def sv (xs : List (List UInt8)) (i : Nat) : Value := strv (xs.getD i [])
theorem sv_lt (xs : List (List UInt8)) {i : Nat} (h : i < xs.length) : sv xs i = .string ⟨(xs[i]).toArray⟩ := by simp [sv, strv, List.getD, h]

/-- A row of its own, as a list of texts. -/
theorem own_sl {w : World} {base : Nat} {e : TypeId} {A : Option Addr} {n cap : Nat} {xs : List (List UInt8)} (h : w.ownsRow base e 1 (.slice A n cap) n (xs.map strv)) : Sl w (Fr base) A xs.length (sv xs) ∧ n = xs.length := by
  have hn : n = xs.length := by have := h.1; simpa using this.symm
  obtain ⟨A', c', e1, hS⟩ := own_form h
  cases e1
  subst hn
  refine ⟨?_, rfl⟩
  intro h0
  obtain ⟨g, o, e2, hg, hc⟩ := hS (Fr base) (fun g hg => own_base h hg) h0
  refine ⟨g, o, e2, hg, fun i hi => ?_⟩
  rw [hc i hi]
  simp [sv, List.getD, hi]


/-- The last digit's sign. -/
def dg (k : Nat) : UInt8 := UInt8.ofNat (48 + k % 10)
theorem dg_val (k : Nat) : ((dg k).toNat : Int) = 48 + (k : Int) % 10 := by
  unfold dg
  simp only [UInt8.toNat_ofNat']
  omega
/-- The digits of a number, none for 0. -/
def dig (k : Nat) : List UInt8 := if _h : k = 0 then [] else dig (k / 10) ++ [dg k]
theorem dig_length (k : Nat) : (dig k).length ≤ k := by
  induction k using Nat.strongRecOn with
  | _ k ih =>
    unfold dig
    split
    · simp
    · have := ih (k / 10) (by omega)
      simp only [List.length_append, List.length_cons, List.length_nil]
      omega
theorem dig_pos {k : Nat} (h : 0 < k) : dig k = dig (k / 10) ++ [dg k] := by
  rw [dig, dif_neg (by omega)]
/-- The text of a mark. -/
def mk (k : Nat) : List UInt8 := 109 :: dig k

theorem conv1 (W : World) (x : Int) (c : UInt8) (hx : (c.toNat : Int) = x) :
    (convert 28 9 (.slice (some ⟨W.heap.size, 0, none⟩) 1 1)).run Try.prog (W.alloc (.cells #[.int .u8 x] 5)) = .ok (.string ⟨#[c]⟩) (W.alloc (.cells #[.int .u8 x] 5)) := by
  subst hx
  have h1 := run_convert_bytes_back (P := Try.prog) (W.alloc (.cells #[.int .u8 (c.toNat : Int)] 5)) 28 9 5 ⟨W.heap.size, 0, none⟩ 1 [c] Try.underlying28 Try.underlying5 Try.underlying9 (by
    intro j hj
    obtain rfl : j = 0 := by simpa using hj
    rw [Addr.add_lit, (Blk.new W 5 #[.int .u8 (c.toNat : Int)]).cell]
    rfl)
  exact h1


/-- What is known of a slice of texts that came in. -/
def IsStrs (w : World) (A : Option Addr) (xs : List (List UInt8)) : Prop := Sl w Al A xs.length (sv xs) ∧ xs.length ≤ maxLen ∧ ∀ x ∈ xs, x.length ≤ maxLen
theorem isStrs_nil (w : World) : IsStrs w none [] := ⟨Sl.nil_, by unfold maxLen; simp, by simp⟩
theorem isStrs_row {w : World} {a : Addr} {l c : Nat} {ss : List ByteArray} (hl : l ≤ ss.length) (hc : ∀ i, i < ss.length → w.cell? (a.add i) = some (.string (ss.getD i ByteArray.empty))) (hm : c ≤ maxLen) (hsz : ∀ s ∈ ss, s.size ≤ maxLen) (_hlc : l ≤ c) :
    ((ss.take l).map fun s => s.data.toList).length = l ∧ IsStrs w (some a) ((ss.take l).map fun s => s.data.toList) := by
  have hlen : ((ss.take l).map fun s => s.data.toList).length = l := by simp; omega
  refine ⟨hlen, ?_, by omega, ?_⟩
  · rw [hlen]
    intro hn
    have h0 := hc 0 (by omega)
    obtain ⟨g, o, s⟩ := a
    have hs : s = none := by
      cases s with
      | none => rfl
      | some s =>
        simp only [World.cell?, Addr.add, if_true] at h0
        split at h0
        · simp at h0
        · cases h0
    subst hs
    refine ⟨g, o, rfl, trivial, fun i hi => ?_⟩
    have h1 := hc i (by omega)
    rw [Addr.add_lit] at h1
    rw [h1, sv_lt _ (by omega)]
    have h2 : i < ss.length := by omega
    simp [List.getD, h2]
  · intro x hx
    obtain ⟨s, hs, rfl⟩ := List.mem_map.1 hx
    have := hsz s (List.mem_of_mem_take hs)
    show s.data.toList.length ≤ maxLen
    rw [Array.length_toList]
    exact this

/-! ### lists that are written -/
theorem own_blk {w : World} {base : Nat} {e : TypeId} {A : Option Addr} {n cap : Nat} {xs : List Value} (h : w.ownsRow base e 1 (.slice A n cap) n xs) (h0 : 0 < n) :
    ∃ g cur, A = some ⟨g, 0, none⟩ ∧ Blk w g e cur ∧ n ≤ cur.size ∧ base ≤ g := by
  obtain ⟨hl, ⟨_, rfl⟩ | ⟨g, cap', cur, e1, hb, hg, hn, hm, hs, ht⟩⟩ := h
  · omega
  · cases e1
    exact ⟨g, cur, rfl, hg, by omega, hb⟩

theorem own_set {w : World} {base : Nat} {e : TypeId} {g n cap : Nat} {xs : List Value} (h : w.ownsRow base e 1 (.slice (some ⟨g, 0, none⟩) n cap) n xs) (i : Nat) (u : Value) :
    (w.setCell ⟨g, i, none⟩ u).ownsRow base e 1 (.slice (some ⟨g, 0, none⟩) n cap) n (xs.set i u) := by
  obtain ⟨hl, ⟨e1, _⟩ | ⟨g', cap', cur, e1, hb, hg, hn, hm, hs, ht⟩⟩ := h
  · cases e1
  · cases e1
    refine ⟨by simpa using hl, .inr ⟨g, cap, cur.setIfInBounds i u, rfl, hb, Blk.set hg i u, hn, hm, by simpa using hs, ?_⟩⟩
    rw [Array.toList_setIfInBounds, List.take_set, ht]

theorem take_set_succ {α : Type} (l : List α) (i : Nat) (u : α) (h : i < l.length) : (l.set i u).take (i + 1) = l.take i ++ [u] := by
  rw [List.take_succ_eq_append_getElem (by simpa using h), List.take_set_of_le (Nat.le_refl _)]
  simp

/-- A row of one's own stays while another block is written. -/
theorem own_keep2 {w w' : World} {base : Nat} {e : TypeId} {v : Value} {n : Nat} {xs : List Value} {x : Option Nat} (h : w.ownsRow base e 1 v n xs) (hg : w.grownBy w' x) (hx : ∀ g, v.ownBlock = some g → g < w.heap.size → some g ≠ x) : w'.ownsRow base e 1 v n xs := by
  obtain ⟨hl, ⟨rfl, rfl⟩ | ⟨g, cap, cur, rfl, hb, hr, h1, h2, h3, h4⟩⟩ := h
  · exact ⟨hl, .inl ⟨rfl, rfl⟩⟩
  · have hlt := (Array.getElem?_eq_some_iff.1 hr).1
    exact ⟨hl, .inr ⟨g, cap, cur, rfl, hb, (hg.block g hlt (hx g rfl hlt)).trans hr, h1, h2, h3, h4⟩⟩


/-- Nothing longer than 1 << 20. -/
def Small (xs : List (List UInt8)) : Prop := xs.length ≤ 1048576 ∧ ∀ x ∈ xs, x.length ≤ 1048576

/-- Marks k, k + 1, .. -/
def marks (k n : Nat) : List (List UInt8) := (List.range n).map fun i => mk (k + i)
theorem marks_length (k n : Nat) : (marks k n).length = n := by simp [marks]
theorem marks_get (k n : Nat) {i : Nat} (h : i < (marks k n).length) : (marks k n)[i] = mk (k + i) := by simp [marks]

end Go.Proofs.Ytlehnlfgjadleaa
