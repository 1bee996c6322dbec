/- The scanner's 'take' passes a text, if it is there. -/
import Derived.Test.YtlehnlfgjadleaaDoorRows
import Derived.Test.YtlehnlfgjadleaaDoorWords
namespace Go.Proofs.YtlehnlfgjadleaaDoor
open Go.RowKit

/-- Is p the beginning of l? -/
def pre (p l : List UInt8) : Bool := p.isPrefixOf l
/-- l without its beginning p, or l. -/
def cut (p l : List UInt8) : List UInt8 := if p.isPrefixOf l then l.drop p.length else l

theorem extract_ba (r : List UInt8) (a b : Nat) : (⟨r.toArray⟩ : ByteArray).extract a b = ⟨((r.take b).drop a).toArray⟩ := by
  rw [ByteArray.extract_mk]
  simp [List.drop_take]

theorem toList_extract (r : List UInt8) (a b : Nat) : ((⟨r.toArray⟩ : ByteArray).extract a b).toList = (r.take b).drop a := by
  rw [ByteArray.toList_eq, extract_ba]

theorem pre_eq (t r : List UInt8) : pre t r = (decide (t.length ≤ r.length) && (r.take t.length == t)) := by
  unfold pre
  rw [Bool.eq_iff_iff]
  simp only [Bool.and_eq_true, decide_eq_true_eq, beq_iff_eq, List.isPrefixOf_iff_prefix]
  constructor
  · rintro ⟨u, rfl⟩
    simp
  · rintro ⟨_, h⟩
    exact ⟨r.drop t.length, by have := List.take_append_drop t.length r; rw [h] at this; exact this⟩

theorem cut_yes {t r : List UInt8} (h : pre t r = true) : cut t r = r.drop t.length := by unfold cut; rw [if_pos (show t.isPrefixOf r = true from h)]
theorem cut_no {t r : List UInt8} (h : pre t r = false) : cut t r = r := by unfold cut; rw [if_neg (by rw [show t.isPrefixOf r = false from h]; simp)]

set_option maxHeartbeats 400000 in
theorem cutPrefix_any (r t : List UInt8) (w : World) (_hr : r.length ≤ 1099511627776) (_ht : t.length ≤ 1000) :
    Calls Tryd.prog 47 #[.string ⟨r.toArray⟩, .string ⟨t.toArray⟩] w fun e w' => e = .returned (.tuple #[.string ⟨(cut t r).toArray⟩, .bool (pre t r)]) ∧ w = w' := by
  go_enter Tryd.func47, Tryd.ntmps47
  go_wp2
  · have hp : pre t r = false := by
      rw [pre_eq]
      have h : (!(ByteArray.extract { data := r.toArray } 0 t.length).toList == t) = true := by assumption
      rw [toList_extract] at h
      simp at h
      simp [h]
    go_ret2
    refine ⟨?_, rfl⟩
    rw [cut_no hp, hp]
    rfl
  · have hp : pre t r = true := by
      rw [pre_eq]
      have h : (!(ByteArray.extract { data := r.toArray } 0 t.length).toList == t) = false := by assumption
      rw [toList_extract] at h
      simp at h
      have h2 : t.length ≤ r.length := by assumption
      simp [h, h2]
    go_ret2
    refine ⟨?_, rfl⟩
    rw [cut_yes hp, hp, show (⟨(r.drop t.length).toArray⟩ : ByteArray) = (⟨r.toArray⟩ : ByteArray).extract t.length r.length by rw [extract_ba]; simp]
    rfl
  · have hp : pre t r = false := by
      rw [pre_eq]
      have h : ¬ t.length ≤ r.length := by assumption
      simp [h]
    go_ret2
    refine ⟨?_, rfl⟩
    rw [cut_no hp, hp]
    rfl

/-- Block p is a scanner whose rest is r. -/
def Scan (w : World) (p : Nat) (r : List UInt8) : Prop := Blk w p 57 #[.string ⟨r.toArray⟩]

set_option maxHeartbeats 400000 in
/-- 'take' reports whether the text was there, and passes it. -/
theorem take_any (p : Nat) (r t : List UInt8) (w : World) (h : Scan w p r) (hr : r.length ≤ 1099511627776) (ht : t.length ≤ 1000) :
    Calls Tryd.prog 38 #[.pointer (some ⟨p, 0, none⟩), .string ⟨t.toArray⟩] w fun e w' => e = .returned (.bool (pre t r)) ∧ Scan w' p (cut t r) ∧ w.grownBy w' (some p) := by
  have hc := h.cell 0
  have hf := h.free 0
  simp only [List.getElem?_toArray, List.getElem?_cons_zero] at hc
  go_enter Tryd.func38, Tryd.ntmps38
  go_wp2_with (go_at_call 47; refine (cutPrefix_any r t w hr ht).mono ?_; rintro e w' ⟨rfl, rfl⟩)
  go_ret
  exact ⟨rfl, h.set 0 _, gr_set (gr_refl w _) (.inl rfl) _⟩
end Go.Proofs.YtlehnlfgjadleaaDoor
