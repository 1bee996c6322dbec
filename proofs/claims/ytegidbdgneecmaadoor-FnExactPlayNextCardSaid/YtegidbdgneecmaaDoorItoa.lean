/- strconv.Itoa at small numbers. -/
import Derived.Test.YtegidbdgneecmaaDoorAt
import Derived.Test.YtegidbdgneecmaaDoorPlays4
namespace Go.Proofs.YtegidbdgneecmaaDoor
open Go.RowKit

def digL : ByteArray := ⟨#[48, 49, 50, 51, 52, 53, 54, 55, 56, 57, 97, 98, 99, 100, 101, 102, 103, 104, 105, 106, 107, 108, 109, 110, 111, 112, 113, 114, 115, 116, 117, 118, 119, 120, 121, 122]⟩
theorem digL_get : ∀ n, n < 10 → digL.extract n (n + 1) = ⟨#[dgt n]⟩ := by decide +kernel
def smL : ByteArray := ⟨#[48, 48, 48, 49, 48, 50, 48, 51, 48, 52, 48, 53, 48, 54, 48, 55, 48, 56, 48, 57, 49, 48, 49, 49, 49, 50, 49, 51, 49, 52, 49, 53, 49, 54, 49, 55, 49, 56, 49, 57, 50, 48, 50, 49, 50, 50, 50, 51, 50, 52, 50, 53, 50, 54, 50, 55, 50, 56, 50, 57, 51, 48, 51, 49, 51, 50, 51, 51, 51, 52, 51, 53, 51, 54, 51, 55, 51, 56, 51, 57, 52, 48, 52, 49, 52, 50, 52, 51, 52, 52, 52, 53, 52, 54, 52, 55, 52, 56, 52, 57, 53, 48, 53, 49, 53, 50, 53, 51, 53, 52, 53, 53, 53, 54, 53, 55, 53, 56, 53, 57, 54, 48, 54, 49, 54, 50, 54, 51, 54, 52, 54, 53, 54, 54, 54, 55, 54, 56, 54, 57, 55, 48, 55, 49, 55, 50, 55, 51, 55, 52, 55, 53, 55, 54, 55, 55, 55, 56, 55, 57, 56, 48, 56, 49, 56, 50, 56, 51, 56, 52, 56, 53, 56, 54, 56, 55, 56, 56, 56, 57, 57, 48, 57, 49, 57, 50, 57, 51, 57, 52, 57, 53, 57, 54, 57, 55, 57, 56, 57, 57]⟩
theorem smL_get : ∀ n, n < 100 → smL.extract (n * 2) (n * 2 + 2) = ⟨#[dgt (n / 10), dgt (n % 10)]⟩ := by decide +kernel

set_option maxRecDepth 100000 in
set_option maxHeartbeats 1000000 in
theorem small_any (n : Nat) (hn : n < 100) (w : World) :
    Calls Tryd.prog 77 #[.int .i64 (n : Int)] w fun e w' => e = .returned (.string ⟨(dec n).toArray⟩) ∧ w = w' := by
  by_cases h10 : n < 10
  · have hd := Lib.hid (show digL.extract n (n + 1) = ⟨(dec n).toArray⟩ by rw [dec_lt h10]; exact digL_get n h10)
    go_enter Tryd.func77, Tryd.ntmps77
    go_wp2_with fail
    go_ret
    exact ⟨by rw [← hd.out]; rfl, rfl⟩
  · have hd := Lib.hid (show smL.extract (n * 2) (n * 2 + 2) = ⟨(dec n).toArray⟩ by rw [dec_ge h10, dec_lt (by omega : n / 10 < 10)]; exact smL_get n hn)
    go_enter Tryd.func77, Tryd.ntmps77
    go_wp2_with fail
    go_ret
    exact ⟨by rw [← hd.out]; rfl, rfl⟩
set_option maxRecDepth 100000 in
set_option maxHeartbeats 1000000 in
theorem itoa_any (n : Nat) (hn : n < 100) (w : World) :
    Calls Tryd.prog 55 #[.int .i64 (n : Int)] w fun e w' => e = .returned (.string ⟨(dec n).toArray⟩) ∧ w = w' := by
  have hS := Lib.hid (small_any n hn w)
  have hF : Calls Tryd.prog 74 #[.int .i64 (n : Int), .int .i64 10] w fun e w' => e = .returned (.string ⟨(dec n).toArray⟩) ∧ w = w' := by
    generalize dec n = l at *
    go_enter Tryd.func74, Tryd.ntmps74
    go_wp2_with fail
    refine hS.out.mono ?_
    rintro e w' ⟨rfl, rfl⟩
    go_wp2_with fail
    go_ret
    exact ⟨rfl, rfl⟩
  have hFh := Lib.hid hF
  clear hF hS
  have hI : Calls Tryd.prog 67 #[.int .i64 (n : Int)] w fun e w' => e = .returned (.string ⟨(dec n).toArray⟩) ∧ w = w' := by
    generalize dec n = l at *
    go_enter Tryd.func67, Tryd.ntmps67
    go_wp2_with fail
    refine hFh.out.mono ?_
    rintro e w' ⟨rfl, rfl⟩
    go_wp2_with fail
    go_ret
    exact ⟨rfl, rfl⟩
  have hIh := Lib.hid hI
  clear hI hFh
  generalize dec n = l at *
  go_enter Tryd.func55, Tryd.ntmps55
  go_wp2_with fail
  refine hIh.out.mono ?_
  rintro e w' ⟨rfl, rfl⟩
  go_wp2_with fail
  go_ret
  exact ⟨rfl, rfl⟩
end Go.Proofs.YtegidbdgneecmaaDoor
