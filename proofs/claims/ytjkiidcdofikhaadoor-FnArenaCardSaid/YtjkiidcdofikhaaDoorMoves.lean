/- Who makes a move, and what enables it. -/
import Derived.Test.YtjkiidcdofikhaaDoorSAt
import Derived.Test.YtjkiidcdofikhaaDoorStr
namespace Go.Proofs.YtjkiidcdofikhaaDoor
open Go.RowKit

/-- Is a move made by the opponent? -/
def byOpp (c : UInt8) (p : List UInt8) : Bool := ((p.length + 1) % 2 == 1) == (c == 113)
/-- What enables a move. -/
def enab (c : UInt8) (p : List UInt8) : List UInt8 := if c == 113 then (if p.length = 0 then [] else (c :: p).take p.length) else 113 :: p

/-- 0 for the opponent, 1 for the player. -/
def who (c : UInt8) (p : List UInt8) : Int := if byOpp c p then 0 else 1

theorem byte0_eq (c : UInt8) (k : UInt8) (n : Int) (hk : (k.toNat : Int) = n) : (((c.toNat : Int)) == n) = (c == k) := by
  subst hk
  rw [Bool.eq_iff_iff]
  simp only [beq_iff_eq]
  constructor
  · intro h; exact UInt8.toNat_inj.1 (by omega)
  · intro h; subst h; rfl

set_option maxHeartbeats 400000 in
theorem isQuestion_any (c : UInt8) (p : List UInt8) (w : World) (_hp : p.length ≤ 1099511627776) :
    Calls Tryd.prog 61 #[.string ⟨(c :: p).toArray⟩] w fun e w' => e = .returned (.bool (c == 113)) ∧ w = w' := by
  have h0 : 0 < (⟨(c :: p).toArray⟩ : ByteArray).size := by simp [ByteArray.size]
  have hbv := byte_val (c :: p) 0 (by simp) h0
  simp only [List.getElem_cons_zero] at hbv
  have e1 := byte0_eq c 113 113 rfl
  go_enter Tryd.func61, Tryd.ntmps61
  go_wp2_with fail
  go_ret
  exact ⟨rfl, rfl⟩

set_option maxHeartbeats 400000 in
theorem byOpponent_any (c : UInt8) (p : List UInt8) (w : World) (hp : p.length ≤ 1099511627776) :
    Calls Tryd.prog 37 #[.string ⟨(c :: p).toArray⟩] w fun e w' => e = .returned (.bool (byOpp c p)) ∧ w = w' := by
  have hm : (((p.length : Int) + 1) % 2 == 1) = ((p.length + 1) % 2 == 1) := by
    rw [Bool.eq_iff_iff]; simp only [beq_iff_eq]; omega
  have hB := Lib.hid (show byOpp c p = (((p.length + 1) % 2 == 1) == (c == 113)) from rfl)
  generalize hx : ((p.length + 1) % 2 == 1) = x at hm hB
  clear hx
  go_enter Tryd.func37, Tryd.ntmps37
  go_wp2_with fail
  refine (isQuestion_any c p w hp).mono ?_
  rintro e w' ⟨rfl, rfl⟩
  generalize (c == 113) = y at hB
  go_wp2_with fail
  go_ret
  exact ⟨by rw [hB.out]; rfl, rfl⟩




theorem isMove_cons {t : Ty} {m : List UInt8} (h : isMove t m = true) : ∃ c p, m = c :: p := by
  cases m with
  | nil => simp [isMove] at h
  | cons c p => exact ⟨c, p, rfl⟩
theorem moveOf_cons {r m : List UInt8} (h : moveOf r m = true) : ∃ c p, m = c :: p := by
  unfold moveOf at h
  split at h
  · cases h
  · exact isMove_cons h

/-- O or P, or nothing for what is no move. -/
def playerOf (r m : List UInt8) : List UInt8 := if moveOf r m then (match m with | [] => [] | c :: p => if byOpp c p then [79] else [80]) else []

set_option maxHeartbeats 400000 in
theorem movePlayer_any (r m : List UInt8) (w : World) (hr : r.length ≤ 1099511627776) (hm : m.length ≤ 1099511627776) :
    Calls Tryd.prog 20 #[.string ⟨r.toArray⟩, .string ⟨m.toArray⟩] w fun e w' => e = .returned (.string ⟨(playerOf r m).toArray⟩) ∧ w.grownBy w' none := by
  cases hv : moveOf r m with
  | false =>
    have hP := Lib.hid (show playerOf r m = [] by unfold playerOf; rw [hv]; rfl)
    go_enter Tryd.func20, Tryd.ntmps20
    go_wp2_with fail
    refine (moveValid_any r m w hr hm).mono ?_
    rintro e w1 ⟨rfl, hg1⟩
    rw [hv]
    go_wp2_with fail
    go_ret
    exact ⟨by rw [hP.out]; rfl, hg1⟩
  | true =>
    obtain ⟨c, p, rfl⟩ := moveOf_cons hv
    have hpl : p.length ≤ 1099511627776 := by have : p.length + 1 ≤ 1099511627776 := by simpa using hm
                                              omega
    cases hb : byOpp c p with
    | true =>
      have hP := Lib.hid (show playerOf r (c :: p) = [79] by unfold playerOf; rw [hv]; simp [hb])
      go_enter Tryd.func20, Tryd.ntmps20
      go_wp2_with fail
      refine (moveValid_any r (c :: p) w hr hm).mono ?_
      rintro e w1 ⟨rfl, hg1⟩
      rw [hv]
      go_wp2_with fail
      refine (byOpponent_any c p w1 hpl).mono ?_
      rintro e w2 ⟨rfl, rfl⟩
      rw [hb]
      go_wp2_with fail
      go_ret
      exact ⟨by rw [hP.out]; rfl, hg1⟩
    | false =>
      have hP := Lib.hid (show playerOf r (c :: p) = [80] by unfold playerOf; rw [hv]; simp [hb])
      go_enter Tryd.func20, Tryd.ntmps20
      go_wp2_with fail
      refine (moveValid_any r (c :: p) w hr hm).mono ?_
      rintro e w1 ⟨rfl, hg1⟩
      rw [hv]
      go_wp2_with fail
      refine (byOpponent_any c p w1 hpl).mono ?_
      rintro e w2 ⟨rfl, rfl⟩
      rw [hb]
      go_wp2_with fail
      go_ret
      exact ⟨by rw [hP.out]; rfl, hg1⟩


/-- What enables a move of a type, and whether it is one. -/
def enablerOf (r m : List UInt8) : List UInt8 := if moveOf r m then (match m with | [] => [] | c :: p => enab c p) else []


end Go.Proofs.YtjkiidcdofikhaaDoor
