/- Names: both sides. -/
import Derived.Test.YtiaafacmfflfiaaTm
import Derived.Deep.QuietTactic
import Derived.BigQuiet
namespace Go.Proofs.Ytiaafacmfflfiaa
open Go.RowKit

def isDg (d : UInt8) : Bool := decide (48 ≤ d.toNat) && decide (d.toNat ≤ 57)
theorem isNm_cons (c : UInt8) (r : List UInt8) : isNm (c :: r) = (decide (r.length ≤ 2) && (decide (120 ≤ c.toNat) && decide (c.toNat ≤ 122)) && r.all isDg) := rfl
theorem isNm_no {c : UInt8} {r : List UInt8} {i : Nat} {x : UInt8} (h : r[i]? = some x) (hx : isDg x = false) : isNm (c :: r) = false := by
  rw [isNm_cons, Bool.and_eq_false_iff]
  refine .inr ?_
  rw [List.all_eq_false]
  exact ⟨x, List.mem_of_getElem? h, by rw [hx]; decide⟩
theorem isNm_yes {c : UInt8} {r : List UInt8} (h2 : r.length ≤ 2) (h3 : 120 ≤ c.toNat) (h4 : c.toNat ≤ 122) (h : ∀ i x, i < r.length → r[i]? = some x → isDg x = true) : isNm (c :: r) = true := by
  rw [isNm_cons]
  simp only [h2, h3, h4, decide_true, Bool.true_and, List.all_eq_true]
  intro x hx
  obtain ⟨i, hi, rfl⟩ := List.mem_iff_getElem.1 hx
  exact h i _ hi (List.getElem?_eq_getElem hi)
set_option maxRecDepth 100000 in
set_option maxHeartbeats 1000000 in
theorem isName_any (s : List UInt8) (w : World) (hs : s.length ≤ 4000000000) :
    Calls Try.prog 41 #[.string ⟨s.toArray⟩] w fun e w' => e = .returned (.bool (isNm s)) ∧ w.grownBy w' none := by
  cases s with
  | nil =>
    go_enter Try.func41, Try.ntmps41
    go_wp2_with fail
    go_ret
    exact ⟨rfl, gr_refl _ _⟩
  | cons c r =>
    have hsz : (⟨(c :: r).toArray⟩ : ByteArray).size = r.length + 1 := by simp [ByteArray.size]
    have hx0 : ∀ h, ((⟨(c :: r).toArray⟩ : ByteArray)[0]'h) = c := fun _ => rfl
    have hxs : ∀ i (h : i + 1 < (⟨(c :: r).toArray⟩ : ByteArray).size), ∃ x, ((⟨(c :: r).toArray⟩ : ByteArray)[i + 1]'h) = x ∧ r[i]? = some x := fun i h => by
      refine ⟨_, rfl, ?_⟩
      have := Lib.data_getElem? (⟨(c :: r).toArray⟩ : ByteArray) (i + 1) h
      simpa using this
    have hemp : (⟨(c :: r).toArray⟩ : ByteArray).toList.isEmpty = false := by
      rw [ByteArray.toList_eq]
      rfl
    have hxsh := Lib.hid hxs
    have hszh := Lib.hid hsz
    have hl : r.length ≤ 4000000000 := by simp at hs; omega
    have hN1 := Lib.hid (fun (h : ¬ (r.length ≤ 2 ∧ 120 ≤ c.toNat ∧ c.toNat ≤ 122)) => show isNm (c :: r) = false from by
      rw [isNm_cons]
      simp only [Bool.and_eq_false_iff, decide_eq_false_iff_not]
      omega)
    have hN2 := Lib.hid (fun (i : Nat) (x : UInt8) (h : r[i]? = some x) (hx : isDg x = false) => isNm_no (c := c) h hx)
    have hN3 := Lib.hid (isNm_yes (c := c) (r := r))
    generalize isNm (c :: r) = b at *
    generalize (⟨(c :: r).toArray⟩ : ByteArray) = S at *
    clear hxs hs hsz
    by_cases h3 : 3 < S.size
    · have hb := Lib.hid (hN1.out (by have := hszh.out; omega))
      have h3' : (3 : Int) < (S.size : Int) := by omega
      go_enter Try.func41, Try.ntmps41
      go_wp2_with fail
      go_ret
      exact ⟨congrArg (fun b => Ending.returned (.bool b)) hb.out.symm, gr_refl _ _⟩
    · have h3' : ¬ (3 : Int) < (S.size : Int) := by omega
      have hz : (0 : Int) < (S.size : Int) := by have := hszh.out; omega
      by_cases hc : 120 ≤ c.toNat ∧ c.toNat ≤ 122
      · have c1 : ¬ (c.toNat : Int) < 120 := by omega
        have c2 : ¬ (122 : Int) < (c.toNat : Int) := by omega
        go_enter Try.func41, Try.ntmps41
        go_wp2_with fail
        go_loopw [3] (fun i wr => ∃ (j : Nat), j ≤ r.length ∧ i = .int .i64 ((j + 1 : Nat) : Int) ∧ wr = w ∧ ∀ k x, k < j → r[k]? = some x → isDg x = true) (fun i _ => S.size - (intOf i).toNat)
        case atStart => exact ⟨0, Nat.zero_le _, rfl, rfl, fun k x h => absurd h (by omega)⟩
        case round =>
          obtain ⟨j, hj, rfl, rfl, hall⟩ := hrel
          have hallh := Lib.hid hall
          clear hall
          by_cases hjl : j + 1 < S.size
          · obtain ⟨x, hx, hrx⟩ := hxsh.out j hjl
            have hrxh := Lib.hid hrx
            have hjI : ((j + 1 : Nat) : Int) < (S.size : Int) := by omega
            clear hrx
            by_cases hd : isDg x = true
            · have hd' : 48 ≤ x.toNat ∧ x.toNat ≤ 57 := by unfold isDg at hd; simpa using hd
              have d1 : ¬ (x.toNat : Int) < 48 := by omega
              have d2 : ¬ (57 : Int) < (x.toNat : Int) := by omega
              have hdh := Lib.hid hd
              clear hd
              go_wp2_with fail
              go_roundw
              case rel => exact ⟨j + 1, by have := hszh.out; omega, by go_num, trivial, fun k y hk hy => by
                by_cases hkj : k = j
                · subst hkj
                  have := hrxh.out.symm.trans hy
                  cases this
                  exact hdh.out
                · exact hallh.out k y (by omega) hy⟩
              case measure => simp [intOf]; omega
            · have hd2 : isDg x = false := by cases h : isDg x <;> simp_all
              have hd' : x.toNat < 48 ∨ 57 < x.toNat := by
                unfold isDg at hd2
                simp at hd2
                omega
              have hb := Lib.hid (hN2.out j x hrxh.out hd2)
              clear hd hd2
              by_cases d1 : (x.toNat : Int) < 48
              · go_wp2_with fail
                go_ret
                exact ⟨congrArg (fun b => Ending.returned (.bool b)) hb.out.symm, gr_refl _ _⟩
              · have d2 : (57 : Int) < (x.toNat : Int) := by omega
                go_wp2_with fail
                go_ret
                exact ⟨congrArg (fun b => Ending.returned (.bool b)) hb.out.symm, gr_refl _ _⟩
          · have hjI : ¬ ((j + 1 : Nat) : Int) < (S.size : Int) := by omega
            have hb := Lib.hid (hN3.out (by have := hszh.out; omega) hc.1 hc.2 (fun i x hi hx => hallh.out i x (by have := hszh.out; omega) hx))
            go_wp2_with fail
            go_ret
            exact ⟨congrArg (fun b => Ending.returned (.bool b)) hb.out.symm, gr_refl _ _⟩
      · have hb := Lib.hid (hN1.out (by have := hszh.out; omega))
        by_cases c1 : (c.toNat : Int) < 120
        · clear hc
          go_enter Try.func41, Try.ntmps41
          go_wp2_with fail
          go_ret
          exact ⟨congrArg (fun b => Ending.returned (.bool b)) hb.out.symm, gr_refl _ _⟩
        · have c2 : (122 : Int) < (c.toNat : Int) := by omega
          clear hc
          go_enter Try.func41, Try.ntmps41
          go_wp2_with fail
          go_ret
          exact ⟨congrArg (fun b => Ending.returned (.bool b)) hb.out.symm, gr_refl _ _⟩

theorem l6In_q (n lo hi : Int) (b : Bool) (w : World) (h : (decide (lo ≤ n) && decide (n ≤ hi)) = b) : Calls Try.prog 52 #[.int .i64 n, .int .i64 lo, .int .i64 hi] w fun e w' => e = .returned (.bool b) ∧ w = w' := by
  subst h
  by_cases h : lo ≤ n
  · go_enter Try.func52, Try.ntmps52
    go_wp2_with fail
    go_ret
    exact ⟨by rw [decide_eq_true h]; rfl, rfl⟩
  · go_enter Try.func52, Try.ntmps52
    go_wp2_with fail
    go_ret
    exact ⟨by rw [decide_eq_false (by omega : ¬ lo ≤ n)]; rfl, rfl⟩
set_option maxRecDepth 100000 in
set_option maxHeartbeats 1000000 in
theorem l5Name_any (s : List UInt8) (w : World) (hs : s.length ≤ 4000000000) :
    Calls Try.prog 42 #[.string ⟨s.toArray⟩] w fun e w' => e = .returned (.bool (isNm s)) ∧ w.grownBy w' none := by
  cases s with
  | nil =>
    go_enter Try.func42, Try.ntmps42
    go_wp2_with fail
    refine (l6In_q _ _ _ false _ (by decide)).mono ?_
    rintro e w1 ⟨rfl, rfl⟩
    go_wp2_with fail
    go_ret
    exact ⟨rfl, gr_refl _ _⟩
  | cons c r =>
    have hsz : (⟨(c :: r).toArray⟩ : ByteArray).size = r.length + 1 := by simp [ByteArray.size]
    have hx0 : ∀ h, ((⟨(c :: r).toArray⟩ : ByteArray)[0]'h) = c := fun _ => rfl
    have hxs : ∀ i (h : i + 1 < (⟨(c :: r).toArray⟩ : ByteArray).size), ∃ x, ((⟨(c :: r).toArray⟩ : ByteArray)[i + 1]'h) = x ∧ r[i]? = some x := fun i h => by
      refine ⟨_, rfl, ?_⟩
      have := Lib.data_getElem? (⟨(c :: r).toArray⟩ : ByteArray) (i + 1) h
      simpa using this
    have hemp : (⟨(c :: r).toArray⟩ : ByteArray).toList.isEmpty = false := by
      rw [ByteArray.toList_eq]
      rfl
    have hxsh := Lib.hid hxs
    have hszh := Lib.hid hsz
    have hl : r.length ≤ 4000000000 := by simp at hs; omega
    have hN1 := Lib.hid (fun (h : ¬ (r.length ≤ 2 ∧ 120 ≤ c.toNat ∧ c.toNat ≤ 122)) => show isNm (c :: r) = false from by
      rw [isNm_cons]
      simp only [Bool.and_eq_false_iff, decide_eq_false_iff_not]
      omega)
    have hN2 := Lib.hid (fun (i : Nat) (x : UInt8) (h : r[i]? = some x) (hx : isDg x = false) => isNm_no (c := c) h hx)
    have hN3 := Lib.hid (isNm_yes (c := c) (r := r))
    generalize isNm (c :: r) = b at *
    generalize (⟨(c :: r).toArray⟩ : ByteArray) = S at *
    clear hxs hs hsz
    by_cases h3 : 3 < S.size
    · have hb := Lib.hid (hN1.out (by have := hszh.out; omega))
      have h3' : (3 : Int) < (S.size : Int) := by omega
      have hin := Lib.hid (fun W => l6In_q (S.size : Int) 1 3 false W (by rw [Bool.and_eq_false_iff, decide_eq_false_iff_not, decide_eq_false_iff_not]; omega))
      go_enter Try.func42, Try.ntmps42
      go_wp2_with fail
      refine (hin.out _).mono ?_
      rintro e w1 ⟨rfl, rfl⟩
      go_wp2_with fail
      go_ret
      exact ⟨congrArg (fun b => Ending.returned (.bool b)) hb.out.symm, gr_refl _ _⟩
    · have h3' : ¬ (3 : Int) < (S.size : Int) := by omega
      have hz : (0 : Int) < (S.size : Int) := by have := hszh.out; omega
      have hin := Lib.hid (fun W => l6In_q (S.size : Int) 1 3 true W (by rw [Bool.and_eq_true, decide_eq_true_eq, decide_eq_true_eq]; omega))
      by_cases hc : 120 ≤ c.toNat ∧ c.toNat ≤ 122
      · have c1 : ¬ (c.toNat : Int) < 120 := by omega
        have c2 : ¬ (122 : Int) < (c.toNat : Int) := by omega
        go_enter Try.func42, Try.ntmps42
        go_wp2_with fail
        refine (hin.out _).mono ?_
        rintro e w1 ⟨rfl, rfl⟩
        go_wp2_with fail
        go_loopw [3] (fun i wr => ∃ (j : Nat), j ≤ r.length ∧ i = .int .i64 ((j + 1 : Nat) : Int) ∧ wr = w ∧ ∀ k x, k < j → r[k]? = some x → isDg x = true) (fun i _ => S.size - (intOf i).toNat)
        case atStart => exact ⟨0, Nat.zero_le _, rfl, rfl, fun k x h => absurd h (by omega)⟩
        case round =>
          obtain ⟨j, hj, rfl, rfl, hall⟩ := hrel
          have hallh := Lib.hid hall
          clear hall
          by_cases hjl : j + 1 < S.size
          · obtain ⟨x, hx, hrx⟩ := hxsh.out j hjl
            have hrxh := Lib.hid hrx
            have hjI : ((j + 1 : Nat) : Int) < (S.size : Int) := by omega
            clear hrx
            by_cases hd : isDg x = true
            · have hd' : 48 ≤ x.toNat ∧ x.toNat ≤ 57 := by unfold isDg at hd; simpa using hd
              have d1 : ¬ (x.toNat : Int) < 48 := by omega
              have d2 : ¬ (57 : Int) < (x.toNat : Int) := by omega
              have hdh := Lib.hid hd
              clear hd
              go_wp2_with fail
              go_roundw
              case rel => exact ⟨j + 1, by have := hszh.out; omega, by go_num, trivial, fun k y hk hy => by
                by_cases hkj : k = j
                · subst hkj
                  have := hrxh.out.symm.trans hy
                  cases this
                  exact hdh.out
                · exact hallh.out k y (by omega) hy⟩
              case measure => simp [intOf]; omega
            · have hd2 : isDg x = false := by cases h : isDg x <;> simp_all
              have hd' : x.toNat < 48 ∨ 57 < x.toNat := by
                unfold isDg at hd2
                simp at hd2
                omega
              have hb := Lib.hid (hN2.out j x hrxh.out hd2)
              clear hd hd2
              by_cases d1 : (x.toNat : Int) < 48
              · go_wp2_with fail
                go_ret
                exact ⟨congrArg (fun b => Ending.returned (.bool b)) hb.out.symm, gr_refl _ _⟩
              · have d2 : (57 : Int) < (x.toNat : Int) := by omega
                go_wp2_with fail
                go_ret
                exact ⟨congrArg (fun b => Ending.returned (.bool b)) hb.out.symm, gr_refl _ _⟩
          · have hjI : ¬ ((j + 1 : Nat) : Int) < (S.size : Int) := by omega
            have hb := Lib.hid (hN3.out (by have := hszh.out; omega) hc.1 hc.2 (fun i x hi hx => hallh.out i x (by have := hszh.out; omega) hx))
            go_wp2_with fail
            go_ret
            exact ⟨congrArg (fun b => Ending.returned (.bool b)) hb.out.symm, gr_refl _ _⟩
      · have hb := Lib.hid (hN1.out (by have := hszh.out; omega))
        by_cases c1 : (c.toNat : Int) < 120
        · clear hc
          go_enter Try.func42, Try.ntmps42
          go_wp2_with fail
          refine (hin.out _).mono ?_
          rintro e w1 ⟨rfl, rfl⟩
          go_wp2_with fail
          go_ret
          exact ⟨congrArg (fun b => Ending.returned (.bool b)) hb.out.symm, gr_refl _ _⟩
        · have c2 : (122 : Int) < (c.toNat : Int) := by omega
          clear hc
          go_enter Try.func42, Try.ntmps42
          go_wp2_with fail
          refine (hin.out _).mono ?_
          rintro e w1 ⟨rfl, rfl⟩
          go_wp2_with fail
          go_ret
          exact ⟨congrArg (fun b => Ending.returned (.bool b)) hb.out.symm, gr_refl _ _⟩
end Go.Proofs.Ytiaafacmfflfiaa
