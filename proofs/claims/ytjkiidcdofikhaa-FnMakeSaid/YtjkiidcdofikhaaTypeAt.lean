/- TypeAt on both sides. -/
import Derived.Test.YtjkiidcdofikhaaSText
import Derived.Test.YtjkiidcdofikhaaSAt
namespace Go.Proofs.Ytjkiidcdofikhaa
open Go.RowKit

theorem at_atoms {t u : Ty} {p : List UInt8} (h : t.at_ p = some u) : u.atoms ≤ t.atoms := by
  induction p generalizing t with
  | nil => simp only [Ty.at_, Option.some.injEq] at h; subst h; exact Nat.le_refl _
  | cons c p ih =>
    rw [at_cons] at h
    split at h
    · cases hk : t.args[c.toNat - 48]? with
      | none => rw [hk] at h; cases h
      | some v =>
        rw [hk] at h
        have h1 := Ty.atoms_of_args (List.mem_of_getElem? hk)
        have h2 := ih h
        omega
    · cases h

/-- The type at a path in the type of a text. -/
def atOf (r p : List UInt8) : Option Ty := match Ty.read r with | none => none | some t => t.at_ p
/-- Its text, or the empty text. -/
def txt : Option Ty → List UInt8
  | none => []
  | some t => t.text

set_option maxHeartbeats 400000 in
theorem typeAt_any (r p : List UInt8) (w : World) (hr : r.length ≤ 1099511627776) (hm : p.length ≤ 1099511627776) :
    Calls Try.prog 18 #[.string ⟨r.toArray⟩, .string ⟨p.toArray⟩] w fun e w' => e = .returned (.tuple #[.string ⟨(txt (atOf r p)).toArray⟩, .bool (atOf r p).isSome]) ∧ w.grownBy w' none := by
  go_enter Try.func18, Try.ntmps18
  go_wp2_with fail
  refine (readKind_any r w hr).mono ?_
  rintro e w1 ⟨hg, hm1⟩
  cases hp : Ty.read r with
  | none =>
    have hV := Lib.hid (show atOf r p = none by unfold atOf; rw [hp])
    rw [hp] at hm1
    subst hm1
    clear hp
    go_wp2_with fail
    go_ret2
    exact ⟨by rw [hV.out]; rfl, hg⟩
  | some t =>
    have hV := Lib.hid (show atOf r p = t.at_ p by unfold atOf; rw [hp])
    have ha := (Ty.read_some hp).2
    rw [hp] at hm1
    obtain ⟨q, rfl, hk⟩ := hm1
    clear hp
    have hA := Lib.hid (at_any q t p _ w1 hk ha hm)
    cases hu : t.at_ p with
    | none =>
      have hV2 := hV.out
      rw [hu] at hV2
      have hV3 := Lib.hid hV2
      have hA2 := hA.out
      unfold AtPost at hA2
      rw [hu] at hA2
      have hA3 := Lib.hid hA2
      clear hu hV2 hA2
      go_wp2_with fail
      refine hA3.out.mono ?_
      rintro e w2 ⟨rfl, rfl⟩
      go_wp2_with fail
      go_ret2
      exact ⟨by rw [hV3.out]; rfl, hg⟩
    | some u =>
      have hau := at_atoms hu
      have hV2 := hV.out
      rw [hu] at hV2
      have hV3 := Lib.hid hV2
      have hA2 := hA.out
      unfold AtPost at hA2
      rw [hu] at hA2
      have hA3 := Lib.hid hA2
      clear hu hV2 hA2
      go_wp2_with fail
      refine hA3.out.mono ?_
      rintro e w2 ⟨⟨q', rfl, _⟩, rfl⟩
      go_wp2_with fail
      refine hA3.out.mono ?_
      rintro e w2 ⟨⟨q'', rfl, hk2⟩, rfl⟩
      go_wp2_with fail
      refine (text_any u.atoms u q'' _ w1 (Nat.le_refl _) (by omega) hk2).mono ?_
      rintro e w3 ⟨rfl, hg3⟩
      go_wp2_with fail
      go_ret2
      exact ⟨by rw [hV3.out]; rfl, gr_trans hg hg3⟩

set_option maxHeartbeats 400000 in
theorem sTypeAt_any (r p : List UInt8) (w : World) (hr : r.length ≤ 1099511627776) (hm : p.length ≤ 1099511627776) :
    Calls Try.prog 19 #[.string ⟨r.toArray⟩, .string ⟨p.toArray⟩] w fun e w' => e = .returned (.tuple #[.string ⟨(txt (atOf r p)).toArray⟩, .bool (atOf r p).isSome]) ∧ w.grownBy w' none := by
  go_enter Try.func19, Try.ntmps19
  go_wp2_with fail
  refine (l1Type_any r w hr).mono ?_
  rintro e w1 ⟨hg, hm1⟩
  cases hp : Ty.read r with
  | none =>
    have hV := Lib.hid (show atOf r p = none by unfold atOf; rw [hp])
    rw [hp] at hm1
    obtain ⟨t, A, c, rfl, ht⟩ := hm1
    clear hp
    go_wp2_with fail
    go_ret2
    exact ⟨by rw [hV.out]; rfl, gr_alloc hg _⟩
  | some t =>
    have hV := Lib.hid (show atOf r p = t.at_ p by unfold atOf; rw [hp])
    have ha := (Ty.read_some hp).2
    rw [hp] at hm1
    obtain ⟨A, c, rfl, ht⟩ := hm1
    clear hp
    have hg1 := World.grownBy_alloc w1 (.cells #[.slice A t.args.length c] 59) none
    have ht1 := ht.grown0 hg1
    have hA := Lib.hid (l1At_any t A c p _ _ ht1 ha hm)
    cases hu : t.at_ p with
    | none =>
      have hV2 := hV.out
      rw [hu] at hV2
      have hV3 := Lib.hid hV2
      have hA2 := hA.out
      unfold SAtPost at hA2
      rw [hu] at hA2
      have hA3 := Lib.hid hA2
      clear hu hV2 hA2
      go_wp2_with fail
      refine hA3.out.mono ?_
      rintro e w2 ⟨⟨u, A2, c2, rfl, _⟩, hg2⟩
      go_wp2_with fail
      go_ret2
      exact ⟨by rw [hV3.out]; rfl, gr_alloc (gr_trans (gr_trans hg hg1) hg2) _⟩
    | some u =>
      have hau := at_atoms hu
      have hV2 := hV.out
      rw [hu] at hV2
      have hV3 := Lib.hid hV2
      have hA2 := hA.out
      unfold SAtPost at hA2
      rw [hu] at hA2
      have hA3 := Lib.hid hA2
      clear hu hV2 hA2
      go_wp2_with fail
      refine hA3.out.mono ?_
      rintro e w2 ⟨⟨A2, c2, rfl, hk2⟩, hg2⟩
      have hg3 := World.grownBy_alloc w2 (.cells #[.slice A2 u.args.length c2] 59) none
      go_wp2_with fail
      refine (l1Text_any u.atoms u A2 c2 _ _ (Nat.le_refl _) (by omega) (hk2.grown0 hg3)).mono ?_
      rintro e w3 ⟨rfl, hg4⟩
      go_wp2_with fail
      go_ret2
      exact ⟨by rw [hV3.out]; rfl, gr_trans (gr_trans (gr_trans (gr_trans hg hg1) hg2) hg3) hg4⟩
end Go.Proofs.Ytjkiidcdofikhaa
