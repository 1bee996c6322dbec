/- What is drawn: paths, moves, lists of types. -/
import Derived.Test.YtjkiidcdofikhaaDraw2
import Derived.Test.YtjkiidcdofikhaaStr
import Derived.Test.YtjkiidcdofikhaaLists
namespace Go.Proofs.Ytjkiidcdofikhaa
open Go.RowKit

def paths : List (List UInt8) := [[], [48], [49], [48, 48], [48, 49], [49, 48], [48, 48, 48], [50], [120], [48, 48, 48, 48]]
theorem paths_le : ∀ s ∈ paths, s.length ≤ 100 := by decide
def heads : List (List UInt8) := [[113], [116], [102], [113], [97], []]
theorem heads_le : ∀ s ∈ heads, s.length ≤ 100 := by decide

set_option maxHeartbeats 1000000 in
theorem l91Path_any (q p : Nat) (w : World) (h : Rd w q p) (hp : p ≤ 1099511627776) :
    Calls Try.prog 47 #[.pointer (some ⟨q, 0, none⟩)] w fun e w' => ∃ s : List UInt8, s.length ≤ 100 ∧ e = .returned (.string ⟨s.toArray⟩) ∧ Rd w' q (p + 1) ∧ w.grownBy w' (some q) := by
  have hg0 := World.grownBy_alloc w (.cells (paths.map fun t => Value.string ⟨t.toArray⟩).toArray 9) none
  have hr0 := h.grown0 hg0
  have hO := Lib.hid (of_any q p _ _ 10 _ _ hr0 hp (by decide) (by decide) (lits_sl w q h.lt paths))
  go_enter Try.func47, Try.ntmps47
  go_wp2_with fail
  refine hO.out.mono ?_
  rintro e w1 ⟨i, hi, rfl, hr1, hg1⟩
  go_wp2_with fail
  go_ret
  have hi8 : i < paths.length := by simpa using hi
  refine ⟨paths[i], paths_le _ (List.getElem_mem hi8), ?_, hr1, gr_trans (gr_weak hg0 _) hg1⟩
  simp

set_option maxHeartbeats 1000000 in
theorem drawTypeAt_any (A : Option Addr) (n c : Nat) (zs : List Int) (w : World) (h : IsRow .u8 w A n c zs) :
    Calls Try.prog 17 #[.slice A n c] w fun e w' => ∃ s m : List UInt8, s.length ≤ 100 ∧ m.length ≤ 200 ∧ e = .returned (.tuple #[.string ⟨s.toArray⟩, .string ⟨m.toArray⟩]) ∧ w.grownBy w' none := by
  go_enter Try.func17, Try.ntmps17
  go_wp2_with fail
  refine (l6Open_any A n c zs w h).mono ?_
  rintro e w1 ⟨q, rfl, hq, hr, hg1⟩
  go_wp2_with fail
  refine (l91Odd_any q 0 w1 hr (by decide)).mono ?_
  rintro e w2 ⟨s, hs, rfl, hr2, hg2⟩
  go_wp2_with fail
  refine (l91Path_any q 2 w2 hr2 (by decide)).mono ?_
  rintro e w3 ⟨m, hm, rfl, _, hg3⟩
  go_wp2_with fail
  go_ret2
  exact ⟨s, m, hs, by omega, rfl, gr_trans_new hg1 (gr_trans hg2 hg3) hq⟩

set_option maxHeartbeats 1000000 in
theorem l91Move_any (A : Option Addr) (n c : Nat) (zs : List Int) (w : World) (h : IsRow .u8 w A n c zs) :
    Calls Try.prog 43 #[.slice A n c] w fun e w' => ∃ s m : List UInt8, s.length ≤ 100 ∧ m.length ≤ 200 ∧ e = .returned (.tuple #[.string ⟨s.toArray⟩, .string ⟨m.toArray⟩]) ∧ w.grownBy w' none := by
  go_enter Try.func43, Try.ntmps43
  go_wp2_with fail
  refine (l6Open_any A n c zs w h).mono ?_
  rintro e w1 ⟨q, rfl, hq, hr, hg1⟩
  go_wp2_with fail
  refine (l91Odd_any q 0 w1 hr (by decide)).mono ?_
  rintro e w2 ⟨s, hs, rfl, hr2, hg2⟩
  have hg0 := World.grownBy_alloc w2 (.cells (heads.map fun t => Value.string ⟨t.toArray⟩).toArray 9) none
  have hO := Lib.hid (of_any q 2 _ _ 6 _ _ (hr2.grown0 hg0) (by decide) (by decide) (by decide) (lits_sl w2 q hr2.lt heads))
  go_wp2_with fail
  refine hO.out.mono ?_
  rintro e w3 ⟨i, hi, rfl, hr3, hg3⟩
  go_wp2_with fail
  refine (l91Path_any q 3 w3 hr3 (by decide)).mono ?_
  rintro e w4 ⟨m, hm, rfl, _, hg4⟩
  have hi6 : i < heads.length := by simpa using hi
  have hhl := heads_le _ (List.getElem_mem hi6)
  generalize heads[i] = hd at *
  go_wp2_with fail
  rw [ba_app]
  go_ret2
  exact ⟨s, hd ++ m, hs, by simp; omega, rfl, gr_trans_new hg1 (gr_trans hg2 (gr_trans (gr_weak hg0 _) (gr_trans hg3 hg4))) hq⟩
theorem drawMovePlayer_any (A : Option Addr) (n c : Nat) (zs : List Int) (w : World) (h : IsRow .u8 w A n c zs) :
    Calls Try.prog 23 #[.slice A n c] w fun e w' => ∃ s m : List UInt8, s.length ≤ 100 ∧ m.length ≤ 200 ∧ e = .returned (.tuple #[.string ⟨s.toArray⟩, .string ⟨m.toArray⟩]) ∧ w.grownBy w' none := by
  go_enter Try.func23, Try.ntmps23
  go_wp2_with fail
  refine (l91Move_any A n c zs w h).mono ?_
  rintro e w1 ⟨s, m, hs, hm, rfl, hg1⟩
  go_wp2_with fail
  go_ret2
  exact ⟨s, m, hs, hm, rfl, hg1⟩
theorem drawMoveEnabler_any (A : Option Addr) (n c : Nat) (zs : List Int) (w : World) (h : IsRow .u8 w A n c zs) :
    Calls Try.prog 14 #[.slice A n c] w fun e w' => ∃ s m : List UInt8, s.length ≤ 100 ∧ m.length ≤ 200 ∧ e = .returned (.tuple #[.string ⟨s.toArray⟩, .string ⟨m.toArray⟩]) ∧ w.grownBy w' none := by
  go_enter Try.func14, Try.ntmps14
  go_wp2_with fail
  refine (l91Move_any A n c zs w h).mono ?_
  rintro e w1 ⟨s, m, hs, hm, rfl, hg1⟩
  go_wp2_with fail
  go_ret2
  exact ⟨s, m, hs, hm, rfl, hg1⟩
def four (o : List UInt8) : List (List UInt8) := [[98], [40, 62, 32, 98, 32, 98, 41], [98], o]
theorem four_le (o : List UInt8) (h : o.length ≤ 100) : ∀ s ∈ four o, s.length ≤ 100 := by
  intro s hs
  simp only [four, List.mem_cons, List.not_mem_nil, or_false] at hs
  rcases hs with rfl | rfl | rfl | rfl
  · decide
  · decide
  · decide
  · exact h

set_option maxHeartbeats 2000000 in
theorem drawTypeMake_any (A : Option Addr) (n c : Nat) (zs : List Int) (w : World) (h : IsRow .u8 w A n c zs) :
    Calls Try.prog 9 #[.slice A n c] w fun e w' => ∃ (xs : List (List UInt8)) (B : Option Addr) (cB : Nat), xs.length ≤ 4 ∧ (∀ x ∈ xs, x.length ≤ 100) ∧ e = .returned (.slice B xs.length cB) ∧ w'.ownsRow w.heap.size 9 1 (.slice B xs.length cB) xs.length (xs.map strv) ∧ w.grownBy w' none := by
  go_enter Try.func9, Try.ntmps9
  go_wp2_with fail
  refine (l6Open_any A n c zs w h).mono ?_
  rintro e w1 ⟨q, rfl, hq, hr, hg1⟩
  have hg1e := gr_alloc hg1 (.cells #[] 9)
  have hE := own_empty (w := w1) (base := q + 1) 9 hr.lt
  have hre := hr.grown0 (World.grownBy_alloc w1 (.cells #[] 9) none)
  have hP := Lib.hid (pick_any q 0 4 _ hre (by omega) (by decide) (by decide))
  go_wp2_with fail
  refine hP.out.mono ?_
  rintro e w2 ⟨m, hm, rfl, hr2, hg2⟩
  have hql := hr.lt
  have hE2 := own_keep2 hE hg2 (fun g hg _ he => by have := own_base hE hg; cases he; omega)
  have hg02 := gr_trans_new hg1e hg2 hq
  go_wp2_with fail
  go_loopw [4, 6] (fun o i wr => ∃ (k p : Nat) (xs : List (List UInt8)), k ≤ m ∧ i = .int .i64 (k : Int) ∧ xs.length = k ∧ (∀ x ∈ xs, x.length ≤ 100) ∧ wr.ownsRow (q + 1) 9 1 o k (xs.map strv) ∧ Rd wr q p ∧ p ≤ 1 + 3 * k ∧ w.grownBy wr none) (fun _ i _ => m - (intOf i).toNat)
  case atStart => exact ⟨0, 1, [], Nat.zero_le _, rfl, rfl, by simp, hE2, hr2, by omega, hg02⟩
  case round =>
    obtain ⟨k, p, xs, hk, rfl, hxl, hall, hown, hrd, hpk, hgw⟩ := hrel
    obtain ⟨Ao, co, rfl, _⟩ := own_form hown
    have hallh := Lib.hid hall
    have hxlh := Lib.hid hxl
    clear hall hxl
    by_cases hlt : k < m
    · have hL := Lib.hid (l91Odd_any q p wr hrd (by omega))
      go_wp2_with fail
      refine hL.out.mono ?_
      rintro e w3 ⟨s, hs, rfl, hr3, hg3⟩
      have hown3 := own_keep2 hown hg3 (fun g hg _ he => by have := own_base hown hg; cases he; omega)
      have hga := World.grownBy_alloc w3 (.cells ((four s).map fun t => Value.string ⟨t.toArray⟩).toArray 9) none
      have hO := Lib.hid (of_any q (p + 2) _ _ 4 _ _ (hr3.grown0 hga) (by omega) (by simp [four]) (by simp [four]) (lits_sl w3 q hr3.lt (four s)))
      go_wp2_with fail
      refine hO.out.mono ?_
      rintro e w4 ⟨j, hj, rfl, hr4, hg4⟩
      have hj4 : j < (four s).length := by simpa using hj
      have hjl := four_le s hs _ (List.getElem_mem hj4)
      have hgj : (four s).getD j [] = (four s)[j] := by simp [List.getD, hj4]
      rw [hgj]
      generalize (four s)[j] = y at *
      have hown4 := own_keep2 (own_keep hown3 hga) hg4 (fun g hg _ he => by have := own_base hown hg; cases he; omega)
      have hgc := World.grownBy_alloc w4 (.cells #[.string ⟨y.toArray⟩] 9) none
      have hown5 := own_keep hown4 hgc
      have hr5 := hr4.grown0 hgc
      have hq4 := hr4.lt
      clear hgj
      go_wp2_with (at_builtin; refine wpList_app rfl _ _ 23 rfl (q + 1) 9 (.string ⟨#[]⟩) 16 Try.underlying23 info_str rfl _ _ _ _ rfl hown5 _ 1 1 _ rfl _ (sl_one w4 9 (.string ⟨y.toArray⟩)) (fun _ _ => rfl) (by unfold maxLen; omega) (by omega) (by rw [World.size_alloc]; omega) ?_; intro A' cap' w6 hown6 hg6 hat6)
      go_roundw
      case rel =>
        have hgwa := gr_trans_new hgw hg3 hq
        have hgwb := gr_trans_new (gr_trans hgwa hga) hg4 hq
        refine ⟨k + 1, p + 3, xs ++ [y], by omega, by go_num, by simp [hxlh.out], ?_, by rw [List.map_append]; exact hown6, hr5.grown hg6 (fun g hg => own_base hown5 hg), by omega, gr_own (gr_trans hgwb hgc) (own_weak hown5 (by omega)) hg6⟩
        intro x hx
        rcases List.mem_append.1 hx with h | h
        · exact hallh.out x h
        · obtain rfl : x = y := by simpa using h
          exact hjl
      case measure => simp [intOf]; omega
    · obtain rfl : k = m := by omega
      go_wp2_with fail
      go_ret
      have hxl := hxlh.out
      subst hxl
      exact ⟨xs, Ao, co, by omega, hallh.out, rfl, own_weak hown (by omega), hgw⟩
end Go.Proofs.Ytjkiidcdofikhaa
