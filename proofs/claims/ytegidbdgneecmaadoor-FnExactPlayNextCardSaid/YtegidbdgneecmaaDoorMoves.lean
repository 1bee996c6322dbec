/- Who makes a move, and what enables it. -/
import Derived.Test.YtegidbdgneecmaaDoorSAt
import Derived.Test.YtegidbdgneecmaaDoorStr
namespace Go.Proofs.YtegidbdgneecmaaDoor
open Go.RowKit

/-- Is a move made by the opponent? -/
def byOpp (c : UInt8) (p : List UInt8) : Bool := ((p.length + 1) % 2 == 1) == (c == 113)
/-- What enables a move. -/
def enab (c : UInt8) (p : List UInt8) : List UInt8 := if c == 113 then (if p.length = 0 then [] else (c :: p).take p.length) else 113 :: p

/-- 0 for the opponent, 1 for the player. -/
def who (c : UInt8) (p : List UInt8) : Int := if byOpp c p then 0 else 1

theorem byte0_eq (c : UInt8) (k : UInt8) (n : Int) (hk : (k.toNat : Int) = n) : (((c.toNat : Int)) == n) = (c == k) := by
  subst hk
  rw [Bool.eq_iff_iff]
  simp only [beq_iff_eq]
  constructor
  · intro h; exact UInt8.toNat_inj.1 (by omega)
  · intro h; subst h; rfl

set_option maxHeartbeats 400000 in
theorem isQuestion_any (c : UInt8) (p : List UInt8) (w : World) (_hp : p.length ≤ 1099511627776) :
    Calls Tryd.prog 64 #[.string ⟨(c :: p).toArray⟩] w fun e w' => e = .returned (.bool (c == 113)) ∧ w = w' := by
  have h0 : 0 < (⟨(c :: p).toArray⟩ : ByteArray).size := by simp [ByteArray.size]
  have hbv := byte_val (c :: p) 0 (by simp) h0
  simp only [List.getElem_cons_zero] at hbv
  have e1 := byte0_eq c 113 113 rfl
  go_enter Tryd.func64, Tryd.ntmps64
  go_wp2_with fail
  go_ret
  exact ⟨rfl, rfl⟩

set_option maxHeartbeats 400000 in
theorem byOpponent_any (c : UInt8) (p : List UInt8) (w : World) (hp : p.length ≤ 1099511627776) :
    Calls Tryd.prog 58 #[.string ⟨(c :: p).toArray⟩] w fun e w' => e = .returned (.bool (byOpp c p)) ∧ w = w' := by
  have hm : (((p.length : Int) + 1) % 2 == 1) = ((p.length + 1) % 2 == 1) := by
    rw [Bool.eq_iff_iff]; simp only [beq_iff_eq]; omega
  have hB := Lib.hid (show byOpp c p = (((p.length + 1) % 2 == 1) == (c == 113)) from rfl)
  generalize hx : ((p.length + 1) % 2 == 1) = x at hm hB
  clear hx
  go_enter Tryd.func58, Tryd.ntmps58
  go_wp2_with fail
  refine (isQuestion_any c p w hp).mono ?_
  rintro e w' ⟨rfl, rfl⟩
  generalize (c == 113) = y at hB
  go_wp2_with fail
  go_ret
  exact ⟨by rw [hB.out]; rfl, rfl⟩

set_option maxHeartbeats 400000 in
theorem enabler_any (c : UInt8) (p : List UInt8) (w : World) (hp : p.length ≤ 1099511627776) :
    Calls Tryd.prog 59 #[.string ⟨(c :: p).toArray⟩] w fun e w' => e = .returned (.string ⟨(enab c p).toArray⟩) ∧ w = w' := by
  have hsl : (⟨(c :: p).toArray⟩ : ByteArray).extract 1 (p.length + 1) = ⟨p.toArray⟩ := by rw [extract_ba]; simp
  have hs2 : (⟨(c :: p).toArray⟩ : ByteArray).extract 0 p.length = ⟨((c :: p).take p.length).toArray⟩ := by rw [extract_ba]; simp
  have happ : (⟨#[113]⟩ : ByteArray) ++ ⟨p.toArray⟩ = ⟨(113 :: p).toArray⟩ := ba_app [113] p
  by_cases h1 : c :: p = [113]
  · have hb : (c :: p == [113]) = true := beq_iff_eq.2 h1
    have hE := Lib.hid (show enab c p = [] by cases h1; rfl)
    go_enter Tryd.func59, Tryd.ntmps59
    go_wp2_with fail
    all_goals go_ret
    exact ⟨by rw [hE.out]; rfl, rfl⟩
  · have hb : (c :: p == [113]) = false := beq_eq_false_iff_ne.2 h1
    cases hq : (c == 113) with
    | true =>
      have hp0 : 0 < p.length := by
        rcases Nat.eq_zero_or_pos p.length with h | h
        · exact absurd (by rw [List.eq_nil_of_length_eq_zero h, beq_iff_eq.1 hq]) h1
        · exact h
      have hE := Lib.hid (show enab c p = (c :: p).take p.length by unfold enab; rw [hq, if_pos rfl, if_neg (by omega)])
      go_enter Tryd.func59, Tryd.ntmps59
      go_wp2_with fail
      refine (isQuestion_any c p w hp).mono ?_
      rintro e w' ⟨rfl, rfl⟩
      go_wp2_with fail
      go_ret
      exact ⟨by rw [hE.out, ← hs2]; rfl, rfl⟩
    | false =>
      have hE := Lib.hid (show enab c p = 113 :: p by unfold enab; rw [hq]; rfl)
      go_enter Tryd.func59, Tryd.ntmps59
      go_wp2_with fail
      refine (isQuestion_any c p w hp).mono ?_
      rintro e w' ⟨rfl, rfl⟩
      go_wp2_with fail
      go_ret
      exact ⟨by rw [hE.out]; rfl, rfl⟩

set_option maxHeartbeats 400000 in
theorem l1Player_any (c : UInt8) (p : List UInt8) (w : World) (hp : p.length ≤ 1099511627776) :
    Calls Tryd.prog 38 #[.string ⟨(c :: p).toArray⟩] w fun e w' => e = .returned (.int .i64 (who c p)) ∧ w = w' := by
  have h0 : 0 < (⟨(c :: p).toArray⟩ : ByteArray).size := by simp [ByteArray.size]
  have hbv := byte_val (c :: p) 0 (by simp) h0
  simp only [List.getElem_cons_zero] at hbv
  have e1 := byte0_ne c 113 113 rfl
  have hm0 : 0 ≤ (p.length : Int) % 2 ∧ (p.length : Int) % 2 ≤ 1 := by omega
  have hx : ((p.length + 1) % 2 == 1) = decide ((p.length : Int) % 2 = 0) := by
    rw [Bool.eq_iff_iff]; simp only [beq_iff_eq, decide_eq_true_eq]; omega
  have hB : byOpp c p = (decide ((p.length : Int) % 2 = 0) == (c == 113)) := by unfold byOpp; rw [hx]
  clear hx
  cases hq : (c == 113) with
  | true =>
    rw [hq, Bool.not_true] at e1
    rw [hq] at hB
    have hBh := Lib.hid hB
    clear hB hq
    go_enter Tryd.func38, Tryd.ntmps38
    go_wp2_with fail
    go_ret
    refine ⟨ret_int ?_, rfl⟩
    unfold who
    rw [hBh.out]
    by_cases h : (p.length : Int) % 2 = 0
    · simp [h]
    · simp [h]; omega
  | false =>
    rw [hq, Bool.not_false] at e1
    rw [hq] at hB
    have hBh := Lib.hid hB
    clear hB hq
    go_enter Tryd.func38, Tryd.ntmps38
    go_wp2_with fail
    go_ret
    refine ⟨ret_int ?_, rfl⟩
    unfold who
    rw [hBh.out]
    by_cases h : (p.length : Int) % 2 = 0
    · simp [h]
    · simp [h]; omega

set_option maxHeartbeats 400000 in
theorem l1Enabler_any (c : UInt8) (p : List UInt8) (w : World) (hp : p.length ≤ 1099511627776) :
    Calls Tryd.prog 39 #[.string ⟨(c :: p).toArray⟩] w fun e w' => e = .returned (.string ⟨(enab c p).toArray⟩) ∧ w = w' := by
  have h0 : 0 < (⟨(c :: p).toArray⟩ : ByteArray).size := by simp [ByteArray.size]
  have hbv := byte_val (c :: p) 0 (by simp) h0
  simp only [List.getElem_cons_zero] at hbv
  have e1 := byte0_ne c 113 113 rfl
  have hsl : (⟨(c :: p).toArray⟩ : ByteArray).extract 1 (p.length + 1) = ⟨p.toArray⟩ := by rw [extract_ba]; simp
  have hs2 : (⟨(c :: p).toArray⟩ : ByteArray).extract 0 p.length = ⟨((c :: p).take p.length).toArray⟩ := by rw [extract_ba]; simp
  have happ : (⟨#[113]⟩ : ByteArray) ++ ⟨p.toArray⟩ = ⟨(113 :: p).toArray⟩ := ba_app [113] p
  cases hq : (c == 113) with
  | true =>
    rw [hq, Bool.not_true] at e1
    by_cases hp0 : p.length = 0
    · have hE := Lib.hid (show enab c p = [] by unfold enab; rw [hq, if_pos rfl, if_pos hp0])
      have hb : (((p.length : Int) + 1) == 1) = true := by rw [beq_iff_eq]; omega
      go_enter Tryd.func39, Tryd.ntmps39
      go_wp2_with fail
      go_ret
      exact ⟨by rw [hE.out]; rfl, rfl⟩
    · have hE := Lib.hid (show enab c p = (c :: p).take p.length by unfold enab; rw [hq, if_pos rfl, if_neg hp0])
      have hb : (((p.length : Int) + 1) == 1) = false := by rw [beq_eq_false_iff_ne]; omega
      go_enter Tryd.func39, Tryd.ntmps39
      go_wp2_with fail
      go_ret
      exact ⟨by rw [hE.out, ← hs2]; rfl, rfl⟩
  | false =>
    rw [hq, Bool.not_false] at e1
    have hE := Lib.hid (show enab c p = 113 :: p by unfold enab; rw [hq]; rfl)
    go_enter Tryd.func39, Tryd.ntmps39
    go_wp2_with fail
    go_ret
    exact ⟨by rw [hE.out]; rfl, rfl⟩

theorem isMove_cons {t : Ty} {m : List UInt8} (h : isMove t m = true) : ∃ c p, m = c :: p := by
  cases m with
  | nil => simp [isMove] at h
  | cons c p => exact ⟨c, p, rfl⟩
/-- Is it a move of the type of a text? -/
def moveOf (r m : List UInt8) : Bool := match Ty.read r with | none => false | some t => isMove t m
theorem moveOf_cons {r m : List UInt8} (h : moveOf r m = true) : ∃ c p, m = c :: p := by
  unfold moveOf at h
  split at h
  · cases h
  · exact isMove_cons h

/-- O or P, or nothing for what is no move. -/
def playerOf (r m : List UInt8) : List UInt8 := if moveOf r m then (match m with | [] => [] | c :: p => if byOpp c p then [79] else [80]) else []



/-- What enables a move of a type, and whether it is one. -/
def enablerOf (r m : List UInt8) : List UInt8 := if moveOf r m then (match m with | [] => [] | c :: p => enab c p) else []


end Go.Proofs.YtegidbdgneecmaaDoor
