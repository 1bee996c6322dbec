/- The reference's decimals below 100. -/
import Derived.Test.YtlehnlfgjadleaaDoorOwn
import Derived.Test.YtlehnlfgjadleaaDoorStr
import Derived.Test.YtlehnlfgjadleaaDoorBo
import Derived.Deep.RegionWith
import Derived.Deep.RegionHeld3
namespace Go.Proofs.YtlehnlfgjadleaaDoor
open Go.RowKit

/-- The sign of a digit. -/
def dgt (i : Nat) : UInt8 := UInt8.ofNat (48 + i)
theorem dgt_val {i : Nat} (h : i < 10) : (dgt i).toNat = 48 + i := by
  unfold dgt
  simp only [UInt8.toNat_ofNat']
  omega
/-- The decimals of a number. -/
def dec (n : Nat) : List UInt8 := Lib.decDigits n
theorem dec_lt {n : Nat} (h : n < 10) : dec n = [dgt n] := decDigits_lt h
theorem dec_ge {n : Nat} (h : ¬ n < 10) : dec n = dec (n / 10) ++ [dgt (n % 10)] := decDigits_ge h
theorem conv1 (W : World) (x : Int) (c : UInt8) (hx : (c.toNat : Int) = x) :
    (convert 74 9 (.slice (some ⟨W.heap.size, 0, none⟩) 1 1)).run Tryd.prog (W.alloc (.cells #[.int .u8 x] 5)) = .ok (.string ⟨#[c]⟩) (W.alloc (.cells #[.int .u8 x] 5)) := by
  subst hx
  have h1 := run_convert_bytes_back (P := Tryd.prog) (W.alloc (.cells #[.int .u8 (c.toNat : Int)] 5)) 74 9 5 ⟨W.heap.size, 0, none⟩ 1 [c] Tryd.underlying74 Tryd.underlying5 Tryd.underlying9 (by
    intro j hj
    obtain rfl : j = 0 := by simpa using hj
    rw [Addr.add_lit, (Blk.new W 5 #[.int .u8 (c.toNat : Int)]).cell]
    rfl)
  exact h1
set_option maxRecDepth 100000 in
set_option maxHeartbeats 400000 in
theorem l6Dec_lt (n : Nat) (h : n < 10) (w : World) : Calls Tryd.prog 37 #[.int .i64 (n : Int)] w fun e w' => e = .returned (.string ⟨[dgt n].toArray⟩) ∧ w.grownBy w' none := by
  have kc := conv1 w (48 + (n : Int)) (dgt n) (by rw [dgt_val h]; omega)
  have hn : (n : Int) < 10 := by omega
  go_enter Tryd.func37, Tryd.ntmps37
  go_wp2_with fail
  go_ret
  exact ⟨rfl, World.grownBy_alloc _ _ _⟩
theorem conv1b (W : World) (g : Nat) (x : Int) (c : UInt8) (hx : (c.toNat : Int) = x) (hb : Blk W g 5 #[.int .u8 x]) :
    (convert 74 9 (.slice (some ⟨g, 0, none⟩) 1 1)).run Tryd.prog W = .ok (.string ⟨#[c]⟩) W := by
  subst hx
  have h1 := run_convert_bytes_back (P := Tryd.prog) W 74 9 5 ⟨g, 0, none⟩ 1 [c] Tryd.underlying74 Tryd.underlying5 Tryd.underlying9 (by
    intro j hj
    obtain rfl : j = 0 := by simpa using hj
    rw [Addr.add_lit, hb.cell]
    rfl)
  exact h1
set_option maxRecDepth 100000 in
set_option maxHeartbeats 400000 in
theorem l6Dec_100 (n : Nat) (h : n < 100) (w : World) : Calls Tryd.prog 37 #[.int .i64 (n : Int)] w fun e w' => e = .returned (.string ⟨(dec n).toArray⟩) ∧ w.grownBy w' none := by
  by_cases h10 : n < 10
  · rw [dec_lt h10]
    exact l6Dec_lt n h10 w
  · have hd := Lib.hid (show dec n = [dgt (n / 10)] ++ [dgt (n % 10)] by rw [dec_ge h10, dec_lt (by omega : n / 10 < 10)])
    have hC := l6Dec_lt (n / 10) (by omega)
    rw [show ((n / 10 : Nat) : Int) = (n : Int) / 10 by omega] at hC
    have hCh := Lib.hid hC
    have hkc := Lib.hid (fun W => conv1 W (48 + (n : Int) % 10) (dgt (n % 10)) (by rw [dgt_val (by omega)]; omega))
    clear hC
    have hdg := Lib.hid (show ((dgt (n % 10)).toNat : Int) = 48 + (n : Int) % 10 by rw [dgt_val (by omega)]; omega)
    have kc0 := conv1b (w.alloc (.cells #[.int .u8 (48 + (n : Int) % 10)] 5)).drew w.heap.size (48 + (n : Int) % 10) (dgt (n % 10)) hdg.out (show Blk (w.alloc (.cells #[.int .u8 (48 + (n : Int) % 10)] 5)).drew w.heap.size 5 #[.int .u8 (48 + (n : Int) % 10)] from Blk.new w 5 #[.int .u8 (48 + (n : Int) % 10)])
    have hba := ba_app [dgt (n / 10)] [dgt (n % 10)]
    have t1 : (n : Int).tdiv 10 = (n : Int) / 10 := Int.tdiv_eq_ediv_of_nonneg (by omega)
    have t2 : IntKind.i64.wrap ((n : Int) / 10) = (n : Int) / 10 := IntWalk.i64_in _ (by omega)
    have t3 : (n : Int).tmod 10 = (n : Int) % 10 := Int.tmod_eq_emod_of_nonneg (by omega)
    have t4 : IntKind.i64.wrap ((n : Int) % 10) = (n : Int) % 10 := IntWalk.i64_in _ (by omega)
    have t5 : IntKind.i64.wrap (48 + (n : Int) % 10) = 48 + (n : Int) % 10 := IntWalk.i64_in _ (by omega)
    have t6 : IntKind.u8.wrap (48 + (n : Int) % 10) = 48 + (n : Int) % 10 := by rw [IntKind.wrap_u8]; omega
    go_enter Tryd.func37, Tryd.ntmps37
    go_wp2_with fail
    go_region_with (go_at_call 37; refine (hCh.out _).mono ?_; rintro e w1 ⟨rfl, hg1⟩; have kc2 := hkc.out w1; (first | (have kc3 := conv1b w1 w.heap.size (48 + (n : Int) % 10) (dgt (n % 10)) hdg.out ((show Blk (w.alloc (.cells #[.int .u8 (48 + (n : Int) % 10)] 5)).drew w.heap.size 5 #[.int .u8 (48 + (n : Int) % 10)] from Blk.new w 5 #[.int .u8 (48 + (n : Int) % 10)]).grown0 hg1)) | skip))
    all_goals
      go_wp2_with fail
      go_ret
      first
        | exact ⟨by rw [hd.out]; rfl, gr_alloc (gr_trans (gr_drew (gr_refl w none)) hg1) _⟩
        | exact ⟨by rw [hd.out]; rfl, gr_trans (gr_drew (World.grownBy_alloc w _ none)) hg1⟩
end Go.Proofs.YtlehnlfgjadleaaDoor
