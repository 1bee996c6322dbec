/- The program's type of a closed term. -/
import Derived.Test.YtiaafacmfflfiaaTypedA
import Derived.Test.YtiaafacmfflfiaaTypedI
import Derived.Test.YtiaafacmfflfiaaTypedL
namespace Go.Proofs.Ytiaafacmfflfiaa
open Go.RowKit

theorem typed_any (t : Tm) : TypIH t := by
  induction t with
  | w c => exact typed_w c
  | nm x => exact typed_nm x
  | lam x k b ih => exact typed_lam x k b ih
  | app m n ihm ihn => exact typed_app m n ihm ihn
  | ite l m n ihl ihm ihn => exact typed_ite l m n ihl ihm ihn
/-- What both sides' TermType gives. -/
def tyRet (o : Option Ty) : Value := match o with
  | none => .tuple #[.string ⟨#[]⟩, .bool false]
  | some k => .tuple #[.string ⟨k.text.toArray⟩, .bool true]
set_option maxHeartbeats 1000000 in
theorem termType_any (r : List UInt8) (w : World) (hr : r.length ≤ 4000000000) : Calls Try.prog 10 #[.string ⟨r.toArray⟩] w fun e w' => e = .returned (tyRet (tyOf r)) ∧ w.grownBy w' none := by
  have hR := Lib.hid (readTerm_any r w hr)
  go_enter Try.func10, Try.ntmps10
  go_wp2_with fail
  refine hR.out.mono ?_
  rintro e w1 ⟨hg1, hm⟩
  cases ht : readT r with
  | none =>
    rw [ht] at hm
    subst hm
    have hT : tyOf r = none := by unfold tyOf; rw [ht]
    clear ht
    go_wp2_with fail
    exact bodyPost_ret (v := .tuple #[.string ⟨#[]⟩, .bool false]) (by simp [results, Try.results10, go_sem]) rfl ⟨by rw [hT]; rfl, hg1⟩
  | some t =>
    rw [ht] at hm
    obtain ⟨q, rfl, hk⟩ := hm
    obtain ⟨_, hwf, h60⟩ := readT_some.1 ht
    have hT : tyOf r = t.ty [] := by unfold tyOf; rw [ht]
    have hTy := Lib.hid (typed_any t [] q none 0 w1 (hk.mono fun _ _ _ => trivial) hwf (fun h => absurd h (by decide)) (by intro p hp; cases hp) (by simp only [List.length_nil]; omega) (Nat.le_refl _))
    have hok : Env.ok [] := by intro p hp; cases hp
    clear hk ht
    go_wp2_with fail
    refine hTy.out.mono ?_
    rintro e w2 ⟨hg2, v, rfl, hv⟩
    have hg := gr_trans hg1 hg2
    cases hu : t.ty [] with
    | none =>
      rw [hu] at hv hT
      obtain rfl := hv
      clear hu
      go_wp2_with fail
      exact bodyPost_ret (v := .tuple #[.string ⟨#[]⟩, .bool false]) (by simp [results, Try.results10, go_sem]) rfl ⟨by rw [hT]; rfl, hg⟩
    | some k =>
      have h15 := t.ty_le _ _ hok hu
      rw [hu] at hv hT
      obtain ⟨qk, rfl, hk⟩ := hv
      have hX := Lib.hid (text_any k.atoms k qk _ w2 (Nat.le_refl _) (by omega) hk)
      clear hu hk
      go_wp2_with fail
      refine hX.out.mono ?_
      rintro e w3 ⟨rfl, hg3⟩
      go_wp2_with fail
      exact bodyPost_ret (v := .tuple #[.string ⟨k.text.toArray⟩, .bool true]) (by simp [results, Try.results10, go_sem]) rfl ⟨by rw [hT]; rfl, gr_trans hg hg3⟩
end Go.Proofs.Ytiaafacmfflfiaa
