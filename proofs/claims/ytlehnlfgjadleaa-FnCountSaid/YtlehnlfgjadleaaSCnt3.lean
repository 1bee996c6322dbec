/- The reference's CountOf. -/
import Derived.Test.YtlehnlfgjadleaaSCnt2
import Derived.Test.YtlehnlfgjadleaaType
namespace Go.Proofs.Ytlehnlfgjadleaa
open Go.RowKit

/-- What CountOf gives for a text and a number. -/
def cntRes (s : List UInt8) (most : Int) : Option (List Int) := match Ty.read s with
  | some t => if 1 ≤ most ∧ most ≤ 8 then some ((List.range most.toNat).map fun i => (C t.args (i + 1) : Int)) else none
  | none => none
def CntPost (s : List UInt8) (most : Int) (w : World) (e : Ending) (w' : World) : Prop :=
  w.grownBy w' none ∧ match cntRes s most with
    | some L => ∃ A c, e = .returned (.tuple #[.slice A L.length c, .bool true]) ∧ Sl w' (Fr w.heap.size) A L.length (iv L)
    | none => ∃ A c, e = .returned (.tuple #[.slice A 0 c, .bool false])
theorem CntPost.no {s : List UInt8} {most : Int} {w w' : World} {A : Option Addr} {c : Nat} (h : cntRes s most = none) (hg : w.grownBy w' none) : CntPost s most w (.returned (.tuple #[.slice A 0 c, .bool false])) w' := ⟨hg, by rw [h]; exact ⟨A, c, rfl⟩⟩
theorem CntPost.yes {s : List UInt8} {most : Int} {w w' : World} {A : Option Addr} {n c : Nat} {L : List Int} (h : cntRes s most = some L) (hl : L.length = n) (hg : w.grownBy w' none) (hs : Sl w' (Fr w.heap.size) A L.length (iv L)) : CntPost s most w (.returned (.tuple #[.slice A n c, .bool true])) w' := ⟨hg, by rw [h]; exact ⟨A, c, by rw [hl], hs⟩⟩
theorem handS_of {s : List UInt8} {t : Ty} (h : Ty.read s = some t) : HandS t.args ∧ t.args.length ≤ 7 := by
  have h1 := (Ty.read_some h).2
  have h2 := t.length_args
  exact ⟨fun u hu => by have := Ty.atoms_of_args hu; omega, by omega⟩
theorem l6In_b (n lo hi : Int) (b : Bool) (w : World) (h : (decide (lo ≤ n) && decide (n ≤ hi)) = b) : Calls Try.prog 13 #[.int .i64 n, .int .i64 lo, .int .i64 hi] w fun e w' => e = .returned (.bool b) ∧ w = w' := by
  subst h
  by_cases h1 : lo ≤ n
  · by_cases h2 : n ≤ hi
    · go_enter Try.func13, Try.ntmps13
      go_wp2_with fail
      go_ret
      exact ⟨by simp [h1, h2], rfl⟩
    · go_enter Try.func13, Try.ntmps13
      go_wp2_with fail
      go_ret
      exact ⟨by simp [h2], rfl⟩
  · go_enter Try.func13, Try.ntmps13
    go_wp2_with fail
    go_ret
    exact ⟨by rw [decide_eq_false (show ¬ lo ≤ n by omega)]; rfl, rfl⟩
set_option maxRecDepth 100000 in
set_option maxHeartbeats 2000000 in
theorem sCountOf_any (s : List UInt8) (most : Int) (w : World) (hs : s.length ≤ 1099511627776) :
    Calls Try.prog 5 #[.string ⟨s.toArray⟩, .int .i64 most] w (CntPost s most w) := by
  have hT := Lib.hid (l1Type_any s w hs)
  go_enter Try.func5, Try.ntmps5
  go_wp2_with fail
  refine hT.out.mono ?_
  rintro e w1 ⟨hg1, hm⟩
  clear hT
  have hga := gr_alloc hg1 (.cells #[.bool false] 39)
  cases hp : Ty.read s with
  | none =>
    rw [hp] at hm
    obtain ⟨t, A, c, rfl, ht⟩ := hm
    have hN := Lib.hid (show cntRes s most = none by unfold cntRes; rw [hp])
    clear hp
    go_wp2_with fail
    go_ret2
    exact CntPost.no hN.out (by repeat (first | exact hg1 | refine gr_alloc ?_ _))
  | some t =>
    rw [hp] at hm
    obtain ⟨A, c, rfl, ht⟩ := hm
    obtain ⟨hS, hl7⟩ := handS_of hp
    by_cases hr : 1 ≤ most ∧ most ≤ 8
    · have hY := Lib.hid (show cntRes s most = some ((List.range most.toNat).map fun i => (C t.args (i + 1) : Int)) by unfold cntRes; rw [hp]; exact if_pos hr)
      obtain ⟨n, rfl⟩ : ∃ n : Nat, most = (n : Int) := ⟨most.toNat, by omega⟩
      have hI := Lib.hid (fun W => l6In_b (n : Int) 1 8 true W (by simp; omega))
      have hb1 := (Blk.new w1 34 #[.slice A t.args.length c]).alloc (.cells #[.bool false] 39)
      have hb2 := Blk.new (w1.alloc (.cells #[.slice A t.args.length c] 34)) 39 #[.bool false]
      rw [World.size_alloc] at hb2
      have hg2 := gr_alloc (gr_alloc hg1 (.cells #[.slice A t.args.length c] 34)) (.cells #[.bool false] 39)
      have hC := Lib.hid (l6tCount_any 8 t.args A c (w1.heap.size + 1) n ((w1.alloc (.cells #[.slice A t.args.length c] 34)).alloc (.cells #[.bool false] 39)) (by omega) (by omega) (by omega) hS (by omega) (HandV.of_tree (((ht.grown0 (World.grownBy_alloc _ _ none)).grown0 (World.grownBy_alloc _ _ none)).mono fun _ _ _ => trivial)) hb2)
      clear hp
      go_wp2_with fail
      refine (hI.out _).mono ?_
      rintro e w2 ⟨rfl, rfl⟩
      go_wp2_with fail
      refine hC.out.mono ?_
      rintro e w3 ⟨g, rfl, hgl, hrow, hg3⟩
      have hbf := hb2.grown0 hg3
      have f0 := hbf.cell 0
      have f0l := hbf.lt
      simp only [List.getElem?_toArray, List.getElem?_cons_zero] at f0
      go_wp2_with fail
      go_ret2
      refine CntPost.yes hY.out (by simp) (gr_trans hg2 hg3) ?_
      rw [List.length_map, List.length_range, Int.toNat_natCast]
      intro _
      refine ⟨g, 1, rfl, by have := hg2.size; show w.heap.size ≤ g; omega, fun i hi => ?_⟩
      rw [Nat.add_comm, hrow.cell (by omega)]
      simp [iv, List.getD, hi]
    · have hN := Lib.hid (show cntRes s most = none by unfold cntRes; rw [hp]; exact if_neg hr)
      have hI := Lib.hid (fun W => l6In_b most 1 8 false W (by
        simp only [Bool.and_eq_false_iff, decide_eq_false_iff_not]
        omega))
      clear hp
      go_wp2_with fail
      refine (hI.out _).mono ?_
      rintro e w2 ⟨rfl, rfl⟩
      go_wp2_with fail
      go_ret2
      exact CntPost.no hN.out (by repeat (first | exact hg1 | refine gr_alloc ?_ _))
end Go.Proofs.Ytlehnlfgjadleaa
