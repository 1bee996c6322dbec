/- The scanner's 'word' reads what is ahead of a space or a parenthesis; 'take' and 'word' of a scanner within another struct. -/
import Derived.Test.YtlehnlfgjadleaaDoorRune
namespace Go.Proofs.YtlehnlfgjadleaaDoor
open Go.RowKit

theorem wlen_le (l : List UInt8) : wlen l ≤ l.length := by
  unfold wlen
  exact (List.takeWhile_sublist _).length_le
theorem indexAny_any (l : List UInt8) (w : World) (hl : l.length < 4294967281) :
    Calls Tryd.prog 62 #[.string ⟨l.toArray⟩, .string sepB] w fun e w' => e = .returned (.int .i64 (if wlen l = l.length then -1 else (wlen l : Int))) ∧ w.grownBy w' none := by
  rw [← indexAny_wlen]
  by_cases h8 : l.length ≤ 8
  · exact indexAny_short l w h8
  · have hz : ∀ w, (zeroValue 116).run Tryd.prog w = .ok (.agg (Array.replicate 256 (.bool false))) w := (zero_of_info (P := Tryd.prog) (n := 256) (by kernel_rfl)).1
    refine (Tryd.strings_IndexAny_long hz ⟨l.toArray⟩ sepB w (by decide) (by show 8 < l.length; omega) (by show l.length < _; exact hl) (by decide) (fun j b hb => ?_)).mono ?_
    · have hm := List.mem_of_getElem? hb
      have : b = 32 ∨ b = 40 ∨ b = 41 := by simpa [sepB] using hm
      rcases this with rfl | rfl | rfl <;> decide
    · rintro e w' ⟨rfl, rfl⟩
      exact ⟨rfl, gr_alloc (World.grownBy_alloc _ _ _) _⟩

/-- A scanner at the beginning of a struct. -/
def ScanG (w : World) (p : Nat) (T : TypeId) (xs : List Value) (r : List UInt8) : Prop := Blk w p T ⟨.string ⟨r.toArray⟩ :: xs⟩
section
variable {w w' : World} {p : Nat} {T : TypeId} {xs : List Value} {r : List UInt8}
theorem ScanG.grown0 (h : ScanG w p T xs r) (hg : w.grownBy w' none) : ScanG w' p T xs r := Blk.grown0 h hg
theorem ScanG.lt (h : ScanG w p T xs r) : p < w.heap.size := Blk.lt h
theorem ScanG.set (h : ScanG w p T xs r) (r' : List UInt8) : ScanG (w.setCell ⟨p, 0, none⟩ (.string ⟨r'.toArray⟩)) p T xs r' := Blk.set h 0 _
theorem ScanG.cell (h : ScanG w p T xs r) : w.cell? ⟨p, 0, none⟩ = some (.string ⟨r.toArray⟩) := by
  have := Blk.cell h 0
  simpa using this
theorem ScanG.free (h : ScanG w p T xs r) : w.frozen? ⟨p, 0, none⟩ = false := Blk.free h 0
end

set_option maxHeartbeats 400000 in
theorem takeG_any (p : Nat) (T : TypeId) (xs : List Value) (r t : List UInt8) (w : World) (h : ScanG w p T xs r) (hr : r.length ≤ 1099511627776) (ht : t.length ≤ 1000) :
    Calls Tryd.prog 38 #[.pointer (some ⟨p, 0, none⟩), .string ⟨t.toArray⟩] w fun e w' => e = .returned (.bool (pre t r)) ∧ ScanG w' p T xs (cut t r) ∧ w.grownBy w' (some p) := by
  have hc := h.cell
  have hf := h.free
  go_enter Tryd.func38, Tryd.ntmps38
  go_wp2_with (go_at_call 47; refine (cutPrefix_any r t w hr ht).mono ?_; rintro e w' ⟨rfl, rfl⟩)
  go_ret
  exact ⟨rfl, h.set _, gr_set (gr_refl w _) (.inl rfl) _⟩

set_option maxHeartbeats 400000 in
/-- 'word' passes the word and returns it. -/
theorem word_any (p : Nat) (T : TypeId) (xs : List Value) (r : List UInt8) (w : World) (h : ScanG w p T xs r) (hr : r.length ≤ 4000000000) :
    Calls Tryd.prog 51 #[.pointer (some ⟨p, 0, none⟩)] w fun e w' => e = .returned (.string ⟨(r.take (wlen r)).toArray⟩) ∧ ScanG w' p T xs (r.drop (wlen r)) ∧ w.grownBy w' (some p) := by
  have hc := h.cell
  have hf := h.free
  have hlt := h.lt
  have hI := Lib.hid (indexAny_any r w (by omega))
  have hw := wlen_le r
  have hsz : (⟨r.toArray⟩ : ByteArray).size = r.length := by simp [ByteArray.size]
  have hx1 := Lib.hid (extract_ba r 0 (wlen r))
  have hx2 := Lib.hid (extract_ba r (wlen r) r.length)
  by_cases hq : wlen r = r.length
  · rw [if_pos hq] at hI
    rw [hq] at hx1 hx2 ⊢
    clear hw hq
    go_enter Tryd.func51, Tryd.ntmps51
    go_wp2_with fail
    refine hI.out.mono ?_
    rintro e w1 ⟨rfl, hg1⟩
    have h1 := h.grown0 hg1
    have hc1 := h1.cell
    have hf1 := h1.free
    have hlt1 := h1.lt
    clear hc hf hlt
    go_wp2_with fail
    go_ret
    have e1 := hx1.out
    simp only [List.take_length, List.drop_zero] at e1
    rw [e1, List.take_length, List.drop_length]
    exact ⟨rfl, h1.set [], gr_set (gr_weak hg1 _) (.inl rfl) _⟩
  · rw [if_neg hq] at hI
    generalize wlen r = n at *
    have hn1 : ¬ (n : Int) < 0 := by omega
    go_enter Tryd.func51, Tryd.ntmps51
    go_wp2_with fail
    refine hI.out.mono ?_
    rintro e w1 ⟨rfl, hg1⟩
    have h1 := h.grown0 hg1
    have hc1 := h1.cell
    have hf1 := h1.free
    have hlt1 := h1.lt
    clear hc hf hlt
    go_wp2_with fail
    go_ret
    have e1 := hx1.out
    have e2 := hx2.out
    simp only [List.take_length, List.drop_zero] at e1 e2
    rw [e1, e2]
    exact ⟨rfl, h1.set _, gr_set (gr_weak hg1 _) (.inl rfl) _⟩
end Go.Proofs.YtlehnlfgjadleaaDoor
