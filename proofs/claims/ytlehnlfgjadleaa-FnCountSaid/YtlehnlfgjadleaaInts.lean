/- Lists of numbers in the statements' own helpers. -/
import Derived.Test.YtlehnlfgjadleaaLists
namespace Go.Proofs.Ytlehnlfgjadleaa
open Go.RowKit

def intv (x : Int) : Value := .int .i64 x
/-- The values of a list of numbers. -/
def iv (xs : List Int) (i : Nat) : Value := .int .i64 (xs.getD i 0)
theorem iv_lt (xs : List Int) {i : Nat} (h : i < xs.length) : iv xs i = .int .i64 xs[i] := by simp [iv, List.getD, h]
theorem info_int : (Try.prog.info? 3).map (fun i => (i.zero, i.size, i.bytes)) = some (some (.int .i64 0), 1, 8) := by kernel_rfl

/-- A row of its own, as a list of numbers. -/
theorem own_sli {w : World} {base : Nat} {e : TypeId} {A : Option Addr} {n cap : Nat} {xs : List Int} (h : w.ownsRow base e 1 (.slice A n cap) n (xs.map intv)) : Sl w (Fr base) A xs.length (iv xs) ∧ n = xs.length := by
  have hn : n = xs.length := by have := h.1; simpa using this.symm
  obtain ⟨A', c', e1, hS⟩ := own_form h
  cases e1
  subst hn
  refine ⟨?_, rfl⟩
  intro h0
  obtain ⟨g, o, e2, hg, hc⟩ := hS (Fr base) (fun g hg => own_base h hg) h0
  refine ⟨g, o, e2, hg, fun i hi => ?_⟩
  rw [hc i hi]
  simp [iv, intv, List.getD, hi]

set_option maxHeartbeats 1000000 in
theorem eqIntS_any (xs ys : List Int) (A B : Option Addr) (cA cB : Nat) (F G : Nat → Prop) (w : World) (hA : Sl w F A xs.length (iv xs)) (hB : Sl w G B ys.length (iv ys)) (hx : xs.length ≤ 1099511627776) (hy : ys.length ≤ 1099511627776) :
    Calls Try.prog 7 #[.slice A xs.length cA, .slice B ys.length cB] w fun e w' => e = .returned (.bool (xs == ys)) ∧ w.grownBy w' none := by
  by_cases hl : xs.length = ys.length
  · go_enter Try.func7, Try.ntmps7
    go_wp2_with fail
    rw [hl]
    go_loopw [5] (fun i wr => ∃ (k : Nat) (_ : k ≤ ys.length), i = .int .i64 (k : Int) ∧ xs.take k = ys.take k ∧ w.grownBy wr none) (fun i _ => ys.length - (intOf i).toNat)
    case atStart => exact ⟨0, Nat.zero_le _, rfl, rfl, gr_refl _ _⟩
    case round =>
      obtain ⟨k, hkl, rfl, htk, hgw⟩ := hrel
      have htkh := Lib.hid htk
      clear htk
      by_cases hlt : k < ys.length
      · have hlt2 : k < xs.length := by omega
        obtain ⟨g, o, rfl, _, hcell⟩ := (hA.grown0 hgw) (by omega)
        obtain ⟨g2, o2, rfl, _, hcell2⟩ := (hB.grown0 hgw) (by omega)
        have c1 := hcell k hlt2
        have c2 := hcell2 k hlt
        rw [iv_lt xs hlt2] at c1
        rw [iv_lt ys hlt] at c2
        clear hcell hcell2
        cases he : (xs[k] == ys[k]) with
        | true =>
          have he2 : (xs[k] != ys[k]) = false := by rw [bne, he]; rfl
          have heh := Lib.hid he
          go_wp2_with fail
          go_quiet (fail)
          clear he he2
          go_wp2_with fail
          go_roundw
          case rel => exact ⟨k + 1, by omega, by go_num, by rw [List.take_succ_eq_append_getElem hlt2, List.take_succ_eq_append_getElem hlt, htkh.out, eq_of_beq heh.out], gr_drewN hgw _⟩
          case measure => simp [intOf]; omega
        | false =>
          have he2 : (xs[k] != ys[k]) = true := by rw [bne, he]; rfl
          have heh := Lib.hid (show (xs == ys) = false by
            rw [beq_eq_false_iff_ne] at he ⊢
            rintro rfl
            exact he rfl)
          go_wp2_with fail
          go_quiet (fail)
          go_wp2_with fail
          go_ret
          exact ⟨by rw [heh.out]; rfl, gr_drewN hgw _⟩
      · obtain rfl : k = ys.length := by omega
        have hR := Lib.hid (show (xs == ys) = true by
          have h := htkh.out
          rw [List.take_length, List.take_of_length_le (by omega)] at h
          rw [h]; simp)
        go_wp2_with fail
        go_ret
        exact ⟨by rw [hR.out]; rfl, hgw⟩
  · have hR := Lib.hid (show (xs == ys) = false by
      rw [beq_eq_false_iff_ne]
      rintro rfl
      exact hl rfl)
    go_enter Try.func7, Try.ntmps7
    go_wp2_with fail
    go_ret
    exact ⟨by rw [hR.out]; rfl, gr_refl _ _⟩
set_option maxHeartbeats 1000000 in
theorem sameInts_any (xs ys : List Int) (A B : Option Addr) (cA cB : Nat) (F G : Nat → Prop) (w : World) (hA : Sl w F A xs.length (iv xs)) (hB : Sl w G B ys.length (iv ys)) (hx : xs.length ≤ 1099511627776) (hy : ys.length ≤ 1099511627776) :
    Calls Try.prog 11 #[.slice A xs.length cA, .slice B ys.length cB] w fun e w' => e = .returned (.bool (xs == ys)) ∧ w.grownBy w' none := by
  by_cases hl : xs.length = ys.length
  · go_enter Try.func11, Try.ntmps11
    go_wp2_with fail
    rw [hl]
    go_loopw [5] (fun i wr => ∃ (k : Nat) (_ : k ≤ ys.length), i = .int .i64 (k : Int) ∧ xs.take k = ys.take k ∧ w.grownBy wr none) (fun i _ => ys.length - (intOf i).toNat)
    case atStart => exact ⟨0, Nat.zero_le _, rfl, rfl, gr_refl _ _⟩
    case round =>
      obtain ⟨k, hkl, rfl, htk, hgw⟩ := hrel
      have htkh := Lib.hid htk
      clear htk
      by_cases hlt : k < ys.length
      · have hlt2 : k < xs.length := by omega
        obtain ⟨g, o, rfl, _, hcell⟩ := (hA.grown0 hgw) (by omega)
        obtain ⟨g2, o2, rfl, _, hcell2⟩ := (hB.grown0 hgw) (by omega)
        have c1 := hcell k hlt2
        have c2 := hcell2 k hlt
        rw [iv_lt xs hlt2] at c1
        rw [iv_lt ys hlt] at c2
        clear hcell hcell2
        cases he : (xs[k] == ys[k]) with
        | true =>
          have he2 : (xs[k] != ys[k]) = false := by rw [bne, he]; rfl
          have heh := Lib.hid he
          go_wp2_with fail
          go_quiet (fail)
          clear he he2
          go_wp2_with fail
          go_roundw
          case rel => exact ⟨k + 1, by omega, by go_num, by rw [List.take_succ_eq_append_getElem hlt2, List.take_succ_eq_append_getElem hlt, htkh.out, eq_of_beq heh.out], gr_drewN hgw _⟩
          case measure => simp [intOf]; omega
        | false =>
          have he2 : (xs[k] != ys[k]) = true := by rw [bne, he]; rfl
          have heh := Lib.hid (show (xs == ys) = false by
            rw [beq_eq_false_iff_ne] at he ⊢
            rintro rfl
            exact he rfl)
          go_wp2_with fail
          go_quiet (fail)
          go_wp2_with fail
          go_ret
          exact ⟨by rw [heh.out]; rfl, gr_drewN hgw _⟩
      · obtain rfl : k = ys.length := by omega
        have hR := Lib.hid (show (xs == ys) = true by
          have h := htkh.out
          rw [List.take_length, List.take_of_length_le (by omega)] at h
          rw [h]; simp)
        go_wp2_with fail
        go_ret
        exact ⟨by rw [hR.out]; rfl, hgw⟩
  · have hR := Lib.hid (show (xs == ys) = false by
      rw [beq_eq_false_iff_ne]
      rintro rfl
      exact hl rfl)
    go_enter Try.func11, Try.ntmps11
    go_wp2_with fail
    go_ret
    exact ⟨by rw [hR.out]; rfl, gr_refl _ _⟩
/-- Marks k, k + 1, .. -/
def imarks (k n : Nat) : List Int := (List.range n).map fun i => ((k + i : Nat) : Int)
theorem imarks_length (k n : Nat) : (imarks k n).length = n := by simp [imarks]
theorem imarks_get (k n : Nat) {i : Nat} (h : i < (imarks k n).length) : (imarks k n)[i] = ((k + i : Nat) : Int) := by simp [imarks]
set_option maxHeartbeats 1000000 in
theorem markIntS_any (base n cap k : Nat) (A : Option Addr) (vs : List Value) (w : World) (hown : w.ownsRow base 3 1 (.slice A n cap) n vs) (hn : n ≤ 1000000000) (hk1 : 1 ≤ k) (hk2 : k ≤ 1000000000) :
    Calls Try.prog 8 #[.slice A n cap, .int .i64 (k : Int)] w fun e w' => e = .returned (.int .i64 ((k + n : Nat) : Int)) ∧ w'.ownsRow base 3 1 (.slice A n cap) n ((imarks k n).map intv) ∧ w.grownBy w' (Value.slice A n cap).ownBlock := by
  go_enter Try.func8, Try.ntmps8
  go_wp2_with fail
  go_loopw [1, 5] (fun c i wr => ∃ (j : Nat) (us : List Value), j ≤ n ∧ i = .int .i64 (j : Int) ∧ c = .int .i64 ((k : Int) + (j : Int)) ∧ wr.ownsRow base 3 1 (.slice A n cap) n us ∧ us.take j = (imarks k j).map intv ∧ w.grownBy wr (Value.slice A n cap).ownBlock) (fun _ i _ => n - (intOf i).toNat)
  case atStart => exact ⟨0, _, Nat.zero_le _, rfl, by go_num, hown, rfl, gr_refl _ _⟩
  case round =>
    obtain ⟨j, us, hjn, rfl, rfl, hownj, htk, hgw⟩ := hrel
    have hvl : us.length = n := by have := hownj.1; omega
    have htkh := Lib.hid htk
    clear htk
    by_cases hlt : j < n
    · obtain ⟨g, cur, rfl, hblk, hnc, hbg⟩ := own_blk hownj (by omega)
      have hownh := Lib.hid (own_set hownj j (.int .i64 ((k : Int) + (j : Int))))
      have hgrh := Lib.hid (gr_set hgw (p := ⟨g, j, none⟩) (.inl rfl) (.int .i64 ((k : Int) + (j : Int))))
      have htf := Lib.hid (take_set_succ us j (.int .i64 ((k : Int) + (j : Int))) (by omega))
      have c2 := hblk.cell j
      rw [Array.getElem?_eq_getElem (by omega)] at c2
      have f2 := hblk.free j
      have hl2 := hblk.lt
      clear hblk
      go_wp2_with fail
      go_roundw
      case rel => exact ⟨j + 1, _, by omega, by go_num, by go_num, hownh.out, by rw [htf.out, htkh.out]; unfold imarks; rw [List.range_succ, List.map_append, List.map_append]; rfl, hgrh.out⟩
      case measure => simp [intOf]; omega
    · obtain rfl : j = n := by omega
      have hv : us = (imarks k j).map intv := by
        have h := htkh.out
        rw [← hvl, List.take_length] at h
        rw [h, hvl]
      subst hv
      go_wp2_with fail
      go_ret
      exact ⟨ret_int (by go_num), hownj, hgw⟩
set_option maxHeartbeats 1000000 in
theorem heldIntS_any (n cap k : Nat) (A : Option Addr) (F : Nat → Prop) (w : World) (hA : Sl w F A n (iv (imarks k n))) (hn : n ≤ 1000000000) (hk1 : 1 ≤ k) (hk2 : k ≤ 1000000000) :
    Calls Try.prog 9 #[.slice A n cap, .int .i64 (k : Int)] w fun e w' => e = .returned (.int .i64 ((k + n : Nat) : Int)) ∧ w.grownBy w' none := by
  go_enter Try.func9, Try.ntmps9
  go_wp2_with fail
  go_loopw [1, 5] (fun c i wr => ∃ (j : Nat), j ≤ n ∧ i = .int .i64 (j : Int) ∧ c = .int .i64 ((k : Int) + (j : Int)) ∧ w.grownBy wr none) (fun _ i _ => n - (intOf i).toNat)
  case atStart => exact ⟨0, Nat.zero_le _, rfl, by go_num, gr_refl _ _⟩
  case round =>
    obtain ⟨j, hjn, rfl, rfl, hgw⟩ := hrel
    by_cases hlt : j < n
    · have hAw := hA.grown0 hgw
      obtain ⟨g, o, rfl, _, hcell⟩ := hAw (by omega)
      have c1 := hcell j hlt
      rw [iv_lt _ (by rw [imarks_length]; exact hlt), imarks_get, Int.natCast_add] at c1
      clear hcell
      go_wp2_with fail
      go_roundw
      case rel => exact ⟨j + 1, by omega, by go_num, by go_num, hgw⟩
      case measure => simp [intOf]; omega
    · obtain rfl : j = n := by omega
      go_wp2_with fail
      go_ret
      exact ⟨ret_int (by go_num), hgw⟩
end Go.Proofs.Ytlehnlfgjadleaa
