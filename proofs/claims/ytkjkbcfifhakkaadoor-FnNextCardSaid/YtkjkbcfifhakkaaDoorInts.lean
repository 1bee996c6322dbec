/- Lists of numbers in the statements' own helpers. -/
import Derived.Test.YtkjkbcfifhakkaaDoorLists
import Derived.Test.YtkjkbcfifhakkaaDoorPlays2
namespace Go.Proofs.YtkjkbcfifhakkaaDoor
open Go.RowKit

def intv (x : Int) : Value := .int .i64 x
/-- The values of a list of numbers. -/
def iv (xs : List Int) (i : Nat) : Value := .int .i64 (xs.getD i 0)
theorem iv_lt (xs : List Int) {i : Nat} (h : i < xs.length) : iv xs i = .int .i64 xs[i] := by simp [iv, List.getD, h]
theorem info_int : (Tryd.prog.info? 3).map (fun i => (i.zero, i.size, i.bytes)) = some (some (.int .i64 0), 1, 8) := by kernel_rfl

/-- A row of its own, as a list of numbers. -/
theorem own_sli {w : World} {base : Nat} {e : TypeId} {A : Option Addr} {n cap : Nat} {xs : List Int} (h : w.ownsRow base e 1 (.slice A n cap) n (xs.map intv)) : Sl w (Fr base) A xs.length (iv xs) ∧ n = xs.length := by
  have hn : n = xs.length := by have := h.1; simpa using this.symm
  obtain ⟨A', c', e1, hS⟩ := own_form h
  cases e1
  subst hn
  refine ⟨?_, rfl⟩
  intro h0
  obtain ⟨g, o, e2, hg, hc⟩ := hS (Fr base) (fun g hg => own_base h hg) h0
  refine ⟨g, o, e2, hg, fun i hi => ?_⟩
  rw [hc i hi]
  simp [iv, intv, List.getD, hi]

set_option maxHeartbeats 1000000 in
theorem sameInts_any (xs ys : List Int) (A B : Option Addr) (cA cB : Nat) (F G : Nat → Prop) (w : World) (hA : Sl w F A xs.length (iv xs)) (hB : Sl w G B ys.length (iv ys)) (hx : xs.length ≤ 1099511627776) (hy : ys.length ≤ 1099511627776) :
    Calls Tryd.prog 36 #[.slice A xs.length cA, .slice B ys.length cB] w fun e w' => e = .returned (.bool (xs == ys)) ∧ w.grownBy w' none := by
  by_cases hl : xs.length = ys.length
  · go_enter Tryd.func36, Tryd.ntmps36
    go_wp2_with fail
    rw [hl]
    go_loopw [5] (fun i wr => ∃ (k : Nat) (_ : k ≤ ys.length), i = .int .i64 (k : Int) ∧ xs.take k = ys.take k ∧ w.grownBy wr none) (fun i _ => ys.length - (intOf i).toNat)
    case atStart => exact ⟨0, Nat.zero_le _, rfl, rfl, gr_refl _ _⟩
    case round =>
      obtain ⟨k, hkl, rfl, htk, hgw⟩ := hrel
      have htkh := Lib.hid htk
      clear htk
      by_cases hlt : k < ys.length
      · have hlt2 : k < xs.length := by omega
        obtain ⟨g, o, rfl, _, hcell⟩ := (hA.grown0 hgw) (by omega)
        obtain ⟨g2, o2, rfl, _, hcell2⟩ := (hB.grown0 hgw) (by omega)
        have c1 := hcell k hlt2
        have c2 := hcell2 k hlt
        rw [iv_lt xs hlt2] at c1
        rw [iv_lt ys hlt] at c2
        clear hcell hcell2
        cases he : (xs[k] == ys[k]) with
        | true =>
          have he2 : (xs[k] != ys[k]) = false := by rw [bne, he]; rfl
          have heh := Lib.hid he
          go_wp2_with fail
          go_quiet (fail)
          clear he he2
          go_wp2_with fail
          go_roundw
          case rel => exact ⟨k + 1, by omega, by go_num, by rw [List.take_succ_eq_append_getElem hlt2, List.take_succ_eq_append_getElem hlt, htkh.out, eq_of_beq heh.out], gr_drewN hgw _⟩
          case measure => simp [intOf]; omega
        | false =>
          have he2 : (xs[k] != ys[k]) = true := by rw [bne, he]; rfl
          have heh := Lib.hid (show (xs == ys) = false by
            rw [beq_eq_false_iff_ne] at he ⊢
            rintro rfl
            exact he rfl)
          go_wp2_with fail
          go_quiet (fail)
          go_wp2_with fail
          go_ret
          exact ⟨by rw [heh.out]; rfl, gr_drewN hgw _⟩
      · obtain rfl : k = ys.length := by omega
        have hR := Lib.hid (show (xs == ys) = true by
          have h := htkh.out
          rw [List.take_length, List.take_of_length_le (by omega)] at h
          rw [h]; simp)
        go_wp2_with fail
        go_ret
        exact ⟨by rw [hR.out]; rfl, hgw⟩
  · have hR := Lib.hid (show (xs == ys) = false by
      rw [beq_eq_false_iff_ne]
      rintro rfl
      exact hl rfl)
    go_enter Tryd.func36, Tryd.ntmps36
    go_wp2_with fail
    go_ret
    exact ⟨by rw [hR.out]; rfl, gr_refl _ _⟩
/-- Marks k, k + 1, .. -/
def imarks (k n : Nat) : List Int := (List.range n).map fun i => ((k + i : Nat) : Int)
theorem imarks_length (k n : Nat) : (imarks k n).length = n := by simp [imarks]
theorem imarks_get (k n : Nat) {i : Nat} (h : i < (imarks k n).length) : (imarks k n)[i] = ((k + i : Nat) : Int) := by simp [imarks]
end Go.Proofs.YtkjkbcfifhakkaaDoor
