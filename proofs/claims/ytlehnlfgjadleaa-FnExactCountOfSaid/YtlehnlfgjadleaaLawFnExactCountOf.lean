/- PROVED: 'laws.FnExactCountOf' returns true for every input, and leaves its input as it was. No conditions. -/
import Derived.Test.YtlehnlfgjadleaaCntApi
import Derived.Test.YtlehnlfgjadleaaInts
import Derived.Test.YtlehnlfgjadleaaRow
namespace Go.Proofs.Ytlehnlfgjadleaa
open Go.RowKit

set_option maxRecDepth 100000 in
set_option maxHeartbeats 2000000 in
theorem FnExactCountOf_walk (s : List UInt8) (most : Int) (w : World) (_hr : (⟨⟨s⟩⟩ : ByteArray).size ≤ maxLen) (_hm : (Lit.int .i64 most).wf = true) :
    Calls Try.prog 3 #[.string ⟨s.toArray⟩, .int .i64 most] w fun e w' => e = .returned (.bool true) ∧ w.grownBy w' none := by
  have hr2 : s.length ≤ maxLen := _hr
  unfold maxLen at hr2
  by_cases hl : s.length > 1048576
  · go_enter Try.func3, Try.ntmps3
    go_wp2_with fail
    go_ret
    exact ⟨rfl, gr_refl _ _⟩
  · go_enter Try.func3, Try.ntmps3
    go_wp2_with fail
    refine (sCount_any s most w (by omega)).mono ?_
    rintro e w1 ⟨⟨A0, c0, rfl, hS0⟩, hg1⟩
    go_wp2_with fail
    refine (iCount_any s most w1 (by omega)).mono ?_
    rintro e w2 ⟨⟨A1, c1, rfl, hown1⟩, hg2⟩
    have hT := Lib.hid (fun W => iCount_any s most W (by omega))
    have hx := cntL_len s most
    generalize cntL s most = xs at *
    have hbb : (cntB s most != cntB s most) = false := by simp
    generalize cntB s most = b at *
    have hS0' : Sl w1 (fun x => x < w1.heap.size) A0 xs.length (iv xs) := hS0.mono fun x _ h => h
    have hown1h := Lib.hid hown1
    go_wp2_with fail
    refine (eqIntS_any xs xs A1 A0 c1 c0 _ _ w2 (own_sli hown1).1 (hS0'.grown0 hg2) (by omega) (by omega)).mono ?_
    rintro e w3 ⟨rfl, hg3⟩
    rw [beq_self_eq_true]
    have hown1c := own_keep hown1 hg3
    go_wp2_with fail
    refine (markIntS_any _ _ c1 1 A1 _ w3 hown1c (by omega) (by omega) (by omega)).mono ?_
    rintro e w4 ⟨rfl, hown4, hg4⟩
    have hg4w := gr_own (gr_trans (gr_trans hg1 hg2) hg3) (own_weak hown1c hg1.size) hg4
    have hS04 : Sl w4 (fun x => x < w1.heap.size) A0 xs.length (iv xs) := ((hS0'.grown0 hg2).grown0 hg3).keep fun x hx _ => hg4.block x (by have := hg2.size; have := hg3.size; omega) (fun e => by have := own_base hown1c e.symm; omega)
    have hS4 := (own_sli hown4).1
    rw [imarks_length] at hS4
    go_wp2_with fail
    refine (heldIntS_any _ c1 1 A1 _ w4 hS4 (by omega) (by omega) (by omega)).mono ?_
    rintro e w5 ⟨rfl, hg5⟩
    go_wp2_with fail
    refine (hT.out w5).mono ?_
    rintro e w6 ⟨⟨A2, c2, rfl, hown2⟩, hg6⟩
    go_wp2_with fail
    refine (eqIntS_any xs xs A2 A0 c2 c0 _ _ w6 (own_sli hown2).1 (hS04.grown0 (gr_trans hg5 hg6)) (by omega) (by omega)).mono ?_
    rintro e w7 ⟨rfl, hg7⟩
    rw [beq_self_eq_true]
    go_wp2_with fail
    refine (heldIntS_any _ c1 1 A1 _ w7 (hS4.grown0 (gr_trans (gr_trans hg5 hg6) hg7)) (by omega) (by omega) (by omega)).mono ?_
    rintro e w8 ⟨rfl, hg8⟩
    go_wp2_with fail
    go_ret
    exact ⟨rfl, gr_trans (gr_trans (gr_trans (gr_trans hg4w hg5) hg6) hg7) hg8⟩

section
open Go.ChangeShapes Go.WideShapes Go.ChangeAt Go.RowKit
open Go.ChangeMaps (open_string shut_string)
set_option maxRecDepth 100000 in
theorem FnExactCountOf_lifted (os : Os) (started : os.Started) (H : Type) (enc : TypeId × Value → H) :
    ReturnsInHanded {} Try.checked os 3 .any (Rows.fnExactCountOfSpec.pre6 enc Try.prog Try.f3 Rows.fnExactCountOfRow.domain false) (Rows.fnExactCountOfSpec.post enc Try.prog Try.f3 false true false false) := by
  refine returnsInHanded_of_change (C := Try.checked) Try.own started (by kernel_rfl) Try.func3
    (ChangeSpec.witness6 (enc := enc) (C := Try.checked) false ⟨#[], #[.string ByteArray.empty, .int .i64 0], []⟩ 8 (by kernel_rfl) (by kernel_rfl) (by kernel_rfl) (by kernel_rfl)) ?_
  intro W base args ds gs before hval0 hW hcnd _
  have hval : ∀ (j : Nat) t v, Try.f3.params[j]? = some t → args[j]? = some v → Value.okWide Try.prog W .any base t v := hval0
  have hW' := hW
  obtain ⟨p, q, hA0, hV, rfl, hfz, hnd⟩ := hW
  have hA : DataW.TrodAll enc Try.prog W 0 (fun _ => true) true Try.f3.params.toList args.toList ds p := hA0
  rw [Try.params3] at hA hval
  obtain ⟨v0, vs0, d0, ds0, p0, q0, hargs, rfl, rfl, h0, r0⟩ := trodAll_cons hA
  obtain ⟨v1, vs1, d1, ds1, p1, q1, rfl, rfl, rfl, h1, r1⟩ := trodAll_cons r0
  obtain ⟨rfl, rfl, rfl⟩ := trodAll_nil r1
  obtain rfl : args = #[v0, v1] := by cases args; simp_all
  obtain ⟨rfl, rfl⟩ := trodVars_none hV
  obtain ⟨⟨⟨a0⟩⟩, rfl, rfl, rfl, w0⟩ := open_string Try.underlying9 (hval 0 9 v0 rfl rfl) h0
  obtain ⟨a1, rfl, rfl, rfl, w1⟩ := open_int Try.underlying3 (hval 1 3 v1 rfl rfl) h1
  clear hA0 hval0
  simp only [List.append_nil] at hW'
  refine (FnExactCountOf_walk a0 a1 W w0 w1).mono fun e W' ⟨he, hg⟩ => ?_
  subst he
  exact ⟨_, rfl, post_grown (pa := []) (pv := []) hW' (fun _ _ _ => (trodAll_cons_mk (shut_bool Try.underlying4 _) trodAll_mk0)) (fun sp _ => (trodAll_cons_mk (shut_string Try.underlying9 w0) (trodAll_cons_mk (shut_int Try.underlying3 w1) trodAll_mk0))) (fun _ _ => rfl) rfl
    (below_gr hg) (ok_one (by kernel_rfl) rfl (okWide_bool_mk Try.underlying4 _))⟩
end

/-- The statement. -/
theorem FnExactCountOf_holds : Rows.FnExactCountOfSaid :=
  OpenClaim.holds_of_wide 3 Try.f3 rfl rfl rfl rfl rfl rfl rfl ⟨rfl, rfl, rfl, rfl, rfl⟩ rfl rfl rfl rfl rfl (by kernel_rfl) Try.func3 (by kernel_rfl)
    (of_decide_eq_true (by kernel_rfl)) (by unfold Func.isWrapper; first | (rw [if_pos (by decide +kernel)]; kernel_rfl) | (rw [if_neg (by decide +kernel)]; exact ⟨rfl, rfl⟩))
    (fun os started H enc _ => FnExactCountOf_lifted os started H enc)
end Go.Proofs.Ytlehnlfgjadleaa
