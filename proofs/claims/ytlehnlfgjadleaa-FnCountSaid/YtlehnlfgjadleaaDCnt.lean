/- What is drawn for counts. -/
import Derived.Test.YtlehnlfgjadleaaDraw2
import Derived.Test.YtlehnlfgjadleaaCntApi
namespace Go.Proofs.Ytlehnlfgjadleaa
open Go.RowKit

set_option maxRecDepth 100000 in
set_option maxHeartbeats 2000000 in
theorem drawCountOf_any (A : Option Addr) (n c : Nat) (zs : List Int) (w : World) (h : IsRow .u8 w A n c zs) :
    Calls Try.prog 10 #[.slice A n c] w fun e w' => ∃ (s : List UInt8) (m : Int), s.length ≤ 100 ∧ -100 ≤ m ∧ m ≤ 100 ∧ e = .returned (.tuple #[.string ⟨s.toArray⟩, .int .i64 m]) ∧ w.grownBy w' none := by
  go_enter Try.func10, Try.ntmps10
  go_wp2_with fail
  refine (l6Open_any A n c zs w h).mono ?_
  rintro e w1 ⟨q, rfl, hq, hr, hg1⟩
  go_wp2_with fail
  refine (l91Odd_any q 0 w1 hr (by decide)).mono ?_
  rintro e w2 ⟨s, hs, rfl, hr2, hg2⟩
  go_wp2_with fail
  refine (pick_any q (0 + 2) 5 w2 hr2 (by decide) (by decide) (by decide)).mono ?_
  rintro e w3 ⟨i, hi, rfl, hr3, hg3⟩
  go_wp2_with fail
  refine (pick_any q (0 + 2 + 1) 20 w3 hr3 (by decide) (by decide) (by decide)).mono ?_
  rintro e w4 ⟨j, hj, rfl, hr4, hg4⟩
  have h1 : IntKind.i64.wrap (1 + (i : Int)) = 1 + (i : Int) := IntWalk.i64_in _ (by omega)
  have h2 : (j : Int).tdiv 19 = (j : Int) / 19 := Int.tdiv_eq_ediv_of_nonneg (by omega)
  have h3 : IntKind.i64.wrap ((j : Int) / 19) = (j : Int) / 19 := IntWalk.i64_in _ (by omega)
  have h4 : IntKind.i64.wrap ((j : Int) / 19 * 6) = (j : Int) / 19 * 6 := IntWalk.i64_in _ (by omega)
  have h5 : IntKind.i64.wrap (1 + (i : Int) - (j : Int) / 19 * 6) = 1 + (i : Int) - (j : Int) / 19 * 6 := IntWalk.i64_in _ (by omega)
  go_wp2_with fail
  go_ret2
  exact ⟨s, 1 + (i : Int) - (j : Int) / 19 * 6, hs, by omega, by omega, rfl, gr_trans_new hg1 (gr_trans (gr_trans hg2 hg3) hg4) hq⟩
theorem cnt_yes {s : List UInt8} {m : Int} (h : cntB s m = true) : ∃ n : Nat, m = (n : Int) ∧ 1 ≤ n ∧ n ≤ 8 ∧ (cntL s m).length = n ∧ (cntL s m).getD 0 0 = 3 ∧
    (n = 1 → cntB s (m - 1) = false) ∧ (2 ≤ n → cntB s (m - 1) = true ∧ cntL s (m - 1) = (cntL s m).take (n - 1)) := by
  unfold cntB cntL cntRes at *
  cases hr : Ty.read s with
  | none => rw [hr] at h; simp at h
  | some t =>
    rw [hr] at h
    simp only [] at h ⊢
    by_cases hm : 1 ≤ m ∧ m ≤ 8
    · obtain ⟨n, rfl⟩ : ∃ n : Nat, m = (n : Int) := ⟨m.toNat, by omega⟩
      rw [if_pos hm]
      refine ⟨n, rfl, by omega, by omega, by simp, ?_, fun h1 => ?_, fun h2 => ?_⟩
      · have h1 : 0 < n := by omega
        simp [List.getD, h1, C_one]
      · rw [if_neg (by omega)]; rfl
      · rw [if_pos (by omega)]
        refine ⟨rfl, ?_⟩
        simp only [Option.getD_some, Int.toNat_natCast]
        rw [← List.map_take, List.take_range]
        congr 2
        omega
    · rw [if_neg hm] at h
      simp at h
end Go.Proofs.Ytlehnlfgjadleaa
