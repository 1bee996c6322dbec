/- What is drawn: terms, and other texts. -/
import Derived.Test.YtiaafacmfflfiaaD92
import Derived.Test.YtiaafacmfflfiaaSx
namespace Go.Proofs.Ytiaafacmfflfiaa
open Go.RowKit

/-- No type in it is too great for the reference. -/
def okS (s : List UInt8) : Bool := match readT s with
  | some t => t.small
  | none => true
theorem okS_text {t : Tm} (hw : t.wf = true) (hs : t.small = true) : okS t.text = true := by
  unfold okS
  cases h : readT t.text with
  | none => rfl
  | some u =>
    obtain ⟨e, hu, ha⟩ := readT_some.1 h
    have h1 : readT u.text = some u := readT_some.2 ⟨rfl, hu, ha⟩
    have h2 : t.atoms = u.atoms := by rw [t.count_text hw, u.count_text hu, e]
    have h3 : readT t.text = some t := readT_some.2 ⟨rfl, hw, by omega⟩
    rw [h] at h3
    cases h3
    exact hs
set_option maxHeartbeats 1000000 in
theorem l92Good_any (q p : Nat) (t : Ty) (w : World) (ht : t.atoms ≤ 15) (h : Rd w q p) (hp : p ≤ 100000) :
    Calls Try.prog 26 #[.pointer (some ⟨q, 0, none⟩), .string ⟨t.text.toArray⟩] w fun e w' => ∃ s : List UInt8, s.length ≤ 1000000000 ∧ okS s = true ∧ e = .returned (.string ⟨s.toArray⟩) ∧ w.grownBy w' (some q) := by
  have hg0 := World.grownBy_alloc w (.cells #[] 9) none
  have hg1 := gr_alloc hg0 (.cells #[] 9)
  have hP := Lib.hid (pick_any q p 3 _ (h.grown0 hg1) (by omega) (by decide) (by decide))
  go_enter Try.func26, Try.ntmps26
  go_wp2_with fail
  refine hP.out.mono ?_
  rintro e w1 ⟨i, hi, rfl, hr1, hg2⟩
  have hb := bnd_le (3 + i) 15 (by omega) (by decide)
  have hln := Ty.length_text t
  have hL := Lib.hid (fun ca cb (A B : Option Addr) => l92Term_any (3 + i) 15 (fun _ => []) (fun _ => []) 0 ca cb A B t.text (1 + (i : Int)) q (p + 1) w1 hr1 (fun h => absurd h (by omega)) (fun h => absurd h (by omega)) (fun _ h => absurd h (by omega)) (by omega) (fun u hu => targs_le hu) (by omega) (by omega) (by omega) (by omega) (by omega))
  go_wp2_with fail
  refine (hL.out _ _ _ _).mono ?_
  rintro e w2 ⟨u, h1, h2, h3, rfl, _, hg3⟩
  go_wp2_with fail
  go_ret
  exact ⟨u.text, by omega, okS_text h1 h2, rfl, gr_trans (gr_weak hg1 _) (gr_trans hg2 hg3)⟩
def odd9 : List (List UInt8) := [[], [120], [40, 97, 112, 112, 32, 116, 32, 116, 41], [40, 105, 102, 32, 116, 32, 102, 41], [40, 108, 97, 109, 32, 120, 32, 98, 32, 121, 41], [40, 108, 97, 109, 32, 97, 32, 98, 32, 97, 41], [40, 105, 102, 32, 40, 108, 97, 109, 32, 120, 32, 98, 32, 120, 41, 32, 116, 32, 102, 41], [40, 97, 112, 112, 32, 40, 108, 97, 109, 32, 120, 32, 98, 32, 120, 41, 32, 40, 108, 97, 109, 32, 120, 32, 98, 32, 120, 41, 41], [116, 32]]
def odd6 : List (List UInt8) := [[40, 108, 97, 109, 32, 120, 32, 40, 62, 32, 98, 32, 98, 41, 32, 40, 97, 112, 112, 32, 120, 32, 40, 97, 112, 112, 32, 120, 32, 116, 41, 41, 41], [40, 108, 97, 109, 32, 120, 32, 98, 32, 40, 105, 102, 32, 120, 32, 102, 32, 116, 41, 41], [40, 97, 112, 112, 32, 40, 108, 97, 109, 32, 120, 32, 40, 62, 32, 98, 32, 98, 41, 32, 40, 97, 112, 112, 32, 120, 32, 40, 97, 112, 112, 32, 120, 32, 116, 41, 41, 41, 32, 40, 108, 97, 109, 32, 120, 32, 98, 32, 40, 105, 102, 32, 120, 32, 102, 32, 116, 41, 41, 41], [40, 108, 97, 109, 32, 120, 32, 40, 62, 32, 40, 62, 32, 98, 32, 98, 41, 32, 98, 41, 32, 40, 97, 112, 112, 32, 120, 32, 40, 108, 97, 109, 32, 121, 32, 98, 32, 40, 97, 112, 112, 32, 120, 32, 40, 108, 97, 109, 32, 122, 32, 98, 32, 121, 41, 41, 41, 41, 41], [40, 108, 97, 109, 32, 120, 32, 40, 62, 32, 98, 32, 98, 41, 32, 40, 108, 97, 109, 32, 121, 32, 98, 32, 40, 105, 102, 32, 121, 32, 40, 97, 112, 112, 32, 120, 32, 121, 41, 32, 117, 41, 41, 41], [40, 105, 102, 32, 40, 97, 112, 112, 32, 40, 108, 97, 109, 32, 120, 32, 98, 32, 120, 41, 32, 116, 41, 32, 40, 108, 97, 109, 32, 120, 32, 98, 32, 120, 41, 32, 40, 108, 97, 109, 32, 120, 32, 98, 32, 102, 41, 41]]
theorem tys8_at15 : ∀ t ∈ tys8, t.atoms ≤ 15 := by decide
theorem odd9_ok : (odd9.all fun s => okS s && decide (s.length ≤ 1000)) = true := by kernel_rfl
theorem odd6_ok : (odd6.all fun s => okS s && decide (s.length ≤ 1000)) = true := by kernel_rfl
theorem odd_ok {l : List (List UInt8)} (h : (l.all fun s => okS s && decide (s.length ≤ 1000)) = true) {s : List UInt8} (hs : s ∈ l) : s.length ≤ 1000000000 ∧ okS s = true := by
  have := List.all_eq_true.1 h s hs
  simp only [Bool.and_eq_true, decide_eq_true_eq] at this
  exact ⟨by omega, this.1⟩
set_option maxRecDepth 100000 in
set_option maxHeartbeats 1000000 in
theorem l92Odd_any (q p : Nat) (w : World) (h : Rd w q p) (hp : p ≤ 10000) :
    Calls Try.prog 13 #[.pointer (some ⟨q, 0, none⟩)] w fun e w' => ∃ s : List UInt8, s.length ≤ 1000000000 ∧ okS s = true ∧ e = .returned (.string ⟨s.toArray⟩) ∧ w.grownBy w' (some q) := by
  have hP := Lib.hid (pick_any q p 12 w h (by omega) (by decide) (by decide))
  have o9 := Lib.hid odd9_ok
  have o6 := Lib.hid odd6_ok
  go_enter Try.func13, Try.ntmps13
  go_wp2_with fail
  refine hP.out.mono ?_
  rintro e w1 ⟨i, hi, rfl, hr1, hg1⟩
  by_cases hi0 : i = 0
  · subst hi0
    have hg0 := World.grownBy_alloc w1 (.cells (odd9.map fun t => Value.string ⟨t.toArray⟩).toArray 9) none
    have hO := Lib.hid (of_any q (p + 1) _ _ 9 _ _ (hr1.grown0 hg0) (by omega) (by decide) (by decide) (lits_sl w1 q hr1.lt odd9))
    go_wp2_with fail
    refine hO.out.mono ?_
    rintro e w2 ⟨j, hj, rfl, hr2, hg2⟩
    go_wp2_with fail
    go_ret
    have hj7 : j < odd9.length := hj
    have := odd_ok o9.out (List.getElem_mem hj7)
    refine ⟨odd9[j], this.1, this.2, ?_, gr_trans hg1 (gr_trans (gr_weak hg0 _) hg2)⟩
    first | rfl | simp
  · have hib0 : ((i : Int) == 0) = false := by rw [beq_eq_false_iff_ne]; omega
    by_cases hi12 : i = 1 ∨ i = 2
    · have hg0 := World.grownBy_alloc w1 (.cells (odd6.map fun t => Value.string ⟨t.toArray⟩).toArray 9) none
      have hO := Lib.hid (of_any q (p + 1) _ _ 6 _ _ (hr1.grown0 hg0) (by omega) (by decide) (by decide) (lits_sl w1 q hr1.lt odd6))
      rcases hi12 with rfl | rfl
      all_goals
        go_wp2_with fail
        refine hO.out.mono ?_
        rintro e w2 ⟨j, hj, rfl, hr2, hg2⟩
        go_wp2_with fail
        go_ret
        have hj7 : j < odd6.length := hj
        have := odd_ok o6.out (List.getElem_mem hj7)
        refine ⟨odd6[j], this.1, this.2, ?_, gr_trans hg1 (gr_trans (gr_weak hg0 _) hg2)⟩
        first | rfl | simp
    · have hib1 : ((i : Int) == 1) = false := by rw [beq_eq_false_iff_ne]; omega
      have hib2 : ((i : Int) == 2) = false := by rw [beq_eq_false_iff_ne]; omega
      go_wp2_with fail
      refine (l91Type_any q (p + 1) w1 hr1 (by omega)).mono ?_
      rintro e w2 ⟨t, ht, rfl, hr2, hg2⟩
      have hL := Lib.hid (l92Good_any q (p + 1 + 1) t w2 (tys8_at15 t ht) hr2 (by omega))
      go_wp2_with fail
      refine hL.out.mono ?_
      rintro e w3 ⟨s, h1, h2, rfl, hg3⟩
      go_wp2_with fail
      go_ret
      exact ⟨s, h1, h2, rfl, gr_trans hg1 (gr_trans hg2 hg3)⟩
set_option maxHeartbeats 1000000 in
theorem drawTermSize_any (A : Option Addr) (n c : Nat) (zs : List Int) (w : World) (h : IsRow .u8 w A n c zs) :
    Calls Try.prog 6 #[.slice A n c] w fun e w' => ∃ s : List UInt8, s.length ≤ 1000000000 ∧ okS s = true ∧ e = .returned (.string ⟨s.toArray⟩) ∧ w.grownBy w' none := by
  go_enter Try.func6, Try.ntmps6
  go_wp2_with fail
  refine (l6Open_any A n c zs w h).mono ?_
  rintro e w1 ⟨q, rfl, hq, hr, hg1⟩
  go_wp2_with fail
  refine (l92Odd_any q 0 w1 hr (by decide)).mono ?_
  rintro e w2 ⟨s, hs, hok, rfl, hg2⟩
  go_wp2_with fail
  go_ret
  exact ⟨s, hs, hok, rfl, gr_trans_new hg1 hg2 hq⟩
end Go.Proofs.Ytiaafacmfflfiaa
