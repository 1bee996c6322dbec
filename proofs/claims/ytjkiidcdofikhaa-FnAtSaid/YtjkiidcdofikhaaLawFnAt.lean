/- PROVED: 'laws.FnAt' returns true for every input, and leaves its input as it was. No conditions. -/
import Derived.Test.YtjkiidcdofikhaaMoves
import Derived.Test.YtjkiidcdofikhaaEnab
import Derived.Test.YtjkiidcdofikhaaTypeAt
import Derived.Test.YtjkiidcdofikhaaDraw3
import Derived.Test.YtjkiidcdofikhaaRow
namespace Go.Proofs.Ytjkiidcdofikhaa
open Go.RowKit

set_option maxHeartbeats 1000000 in
theorem FnAt_walk (A : Option Addr) (n c : Nat) (zs : List Int) (w : World) (h : IsRow .u8 w A n c zs) :
    Calls Try.prog 5 #[.slice A n c] w fun e w' => e = .returned (.bool true) ∧ w.grownBy w' none := by
  by_cases hl : n > 1048576
  · go_enter Try.func5, Try.ntmps5
    go_wp2_with fail
    go_ret
    exact ⟨rfl, gr_refl _ _⟩
  · go_enter Try.func5, Try.ntmps5
    go_wp2_with fail
    refine (drawTypeAt_any A n c zs w h).mono ?_
    rintro e w1 ⟨s, p, hs, hm, rfl, hg1⟩
    go_wp2_with fail
    refine (typeAt_any s p w1 (by omega) (by omega)).mono ?_
    rintro e w2 ⟨rfl, hg2⟩
    go_wp2_with fail
    refine (sTypeAt_any s p w2 (by omega) (by omega)).mono ?_
    rintro e w3 ⟨rfl, hg3⟩
    have hg03 := gr_trans hg1 (gr_trans hg2 hg3)
    cases hv : atOf s p with
    | none =>
      clear hv
      simp only [txt, Option.isSome_none]
      go_wp2_with fail
      go_ret
      exact ⟨rfl, hg03⟩
    | some u =>
      have hle : ∀ t, Ty.read s = some t → u.atoms ≤ t.atoms := fun t ht => by
        unfold atOf at hv
        rw [ht] at hv
        exact at_atoms hv
      have hF := Lib.hid (at_facts hv hle)
      have hul : u.text.length ≤ 1000000 := by
        unfold atOf at hv
        cases hr : Ty.read s with
        | none => rw [hr] at hv; cases hv
        | some t =>
          have h1 := hle t hr
          have h2 := (Ty.read_some hr).2
          have h3 := Ty.length_text u
          omega
      clear hv hle
      simp only [txt, Option.isSome_some]
      have hV : ∀ c : UInt8, c = 113 ∨ c = 116 ∨ c = 102 → ∀ W, Calls Try.prog 20 #[.string ⟨s.toArray⟩, .string (⟨#[c]⟩ ++ ⟨p.toArray⟩)] W fun e w' => e = .returned (.bool true) ∧ W.grownBy w' none := by
        intro c hc W
        have h1 := moveValid_any s (c :: p) W (by omega) (by simp; omega)
        have h2 : moveOf s (c :: p) = true := by
          obtain ⟨a1, a2, a3, _⟩ := hF.out
          rcases hc with rfl | rfl | rfl
          · exact a1
          · exact a2
          · exact a3
        rw [h2] at h1
        rw [show (⟨#[c]⟩ : ByteArray) = ⟨([c] : List UInt8).toArray⟩ from rfl, ba_app]
        exact h1
      have hP : ∀ W, Calls Try.prog 21 #[.string ⟨s.toArray⟩, .string (⟨#[113]⟩ ++ ⟨p.toArray⟩)] W fun e w' => e = .returned (.string ⟨(if p.length % 2 = 1 then [80] else [79] : List UInt8).toArray⟩) ∧ W.grownBy w' none := by
        intro W
        have h1 := movePlayer_any s (113 :: p) W (by omega) (by simp; omega)
        rw [hF.out.2.2.2.1] at h1
        rw [show (⟨#[113]⟩ : ByteArray) = ⟨([113] : List UInt8).toArray⟩ from rfl, ba_app]
        exact h1
      have hT : ∀ W, Calls Try.prog 22 #[.string ⟨u.text.toArray⟩] W fun e w' => e = .returned (.bool true) ∧ W.grownBy w' none := by
        intro W
        have h1 := typeValid_any u.text W (by omega)
        rw [hF.out.2.2.2.2] at h1
        exact h1
      have hVh := Lib.hid hV
      have hPh := Lib.hid hP
      have hTh := Lib.hid hT
      clear hV hP hT
      have hmod : (p.length : Int).tmod 2 = ((p.length % 2 : Nat) : Int) := by rw [Int.tmod_eq_emod_of_nonneg (by omega)]; omega
      by_cases hodd : p.length % 2 = 1
      · rw [if_pos hodd] at hPh
        go_wp2_with fail
        refine (hVh.out 113 (by simp) w3).mono ?_
        rintro e w4 ⟨rfl, hg4⟩
        go_wp2_with fail
        refine (hVh.out 116 (by simp) w4).mono ?_
        rintro e w5 ⟨rfl, hg5⟩
        go_wp2_with fail
        refine (hVh.out 102 (by simp) w5).mono ?_
        rintro e w6 ⟨rfl, hg6⟩
        go_wp2_with fail
        refine (hPh.out w6).mono ?_
        rintro e w7 ⟨rfl, hg7⟩
        go_wp2_with fail
        refine (hTh.out w7).mono ?_
        rintro e w8 ⟨rfl, hg8⟩
        go_wp2_with fail
        go_ret
        exact ⟨rfl, gr_trans hg03 (gr_trans hg4 (gr_trans hg5 (gr_trans hg6 (gr_trans hg7 hg8))))⟩
      · rw [if_neg hodd] at hPh
        go_wp2_with fail
        refine (hVh.out 113 (by simp) w3).mono ?_
        rintro e w4 ⟨rfl, hg4⟩
        go_wp2_with fail
        refine (hVh.out 116 (by simp) w4).mono ?_
        rintro e w5 ⟨rfl, hg5⟩
        go_wp2_with fail
        refine (hVh.out 102 (by simp) w5).mono ?_
        rintro e w6 ⟨rfl, hg6⟩
        go_wp2_with fail
        refine (hPh.out w6).mono ?_
        rintro e w7 ⟨rfl, hg7⟩
        go_wp2_with fail
        refine (hTh.out w7).mono ?_
        rintro e w8 ⟨rfl, hg8⟩
        go_wp2_with fail
        go_ret
        exact ⟨rfl, gr_trans hg03 (gr_trans hg4 (gr_trans hg5 (gr_trans hg6 (gr_trans hg7 hg8))))⟩

section
open Go.ChangeShapes Go.WideShapes Go.ChangeAt Go.RowKit
open Go.ChangeMaps (open_string shut_string)
set_option maxRecDepth 100000 in
theorem FnAt_lifted (os : Os) (started : os.Started) (H : Type) (enc : TypeId × Value → H) :
    ReturnsInHanded {} Try.checked os 5 .any (Rows.fnAtSpec.pre6 enc Try.prog Try.f5 Rows.fnAtRow.domain false) (Rows.fnAtSpec.post enc Try.prog Try.f5 false true false false) := by
  refine returnsInHanded_of_change (C := Try.checked) Try.own started (by kernel_rfl) Try.func5
    (ChangeSpec.witness6 (enc := enc) (C := Try.checked) false ⟨#[], #[.slice none 0 0], []⟩ 8 (by kernel_rfl) (by kernel_rfl) (by kernel_rfl) (by kernel_rfl)) ?_
  intro W base args ds gs before hval0 hW hcnd _
  have hval : ∀ (j : Nat) t v, Try.f5.params[j]? = some t → args[j]? = some v → Value.okWide Try.prog W .any base t v := hval0
  have hW' := hW
  obtain ⟨p, q, hA0, hV, rfl, hfz, hnd⟩ := hW
  have hA : DataW.TrodAll enc Try.prog W 0 (fun _ => true) true Try.f5.params.toList args.toList ds p := hA0
  rw [Try.params5] at hA hval
  obtain ⟨v0, vs0, d0, ds0, p0, q0, hargs, rfl, rfl, h0, r0⟩ := trodAll_cons hA
  obtain ⟨rfl, rfl, rfl⟩ := trodAll_nil r0
  obtain rfl : args = #[v0] := by cases args; simp_all
  obtain ⟨rfl, rfl⟩ := trodVars_none hV
  obtain ⟨A0, n0, c0, rfl⟩ := okWide_slice Try.underlying22 (hval 0 22 v0 rfl rfl)
  have k0 := h0
  have lt0 : ∀ x ∈ p0, x.block < W.heap.size := by obtain ⟨m, hm⟩ := k0; exact DataW.trod_lt m _ _ _ hm
  obtain ⟨z0, w0⟩ : ∃ zs, IsRow .u8 W A0 n0 c0 zs := by
    obtain ⟨fuel, hf⟩ := h0
    rcases open_ints Try.underlying22 Try.underlying5 (by kernel_rfl) hf with ⟨hcs, _⟩ | ⟨x, l, c, zs, hcs, _, hl, hm, hz, _, hcell, hwz⟩
    · simp [Value.cells] at hcs
      obtain ⟨rfl, rfl, rfl⟩ := hcs
      exact ⟨[], .inl ⟨rfl, rfl, rfl, rfl⟩⟩
    · simp [Value.cells] at hcs
      obtain ⟨rfl, rfl, rfl⟩ := hcs
      exact ⟨zs, .inr ⟨_, rfl, hl, hm, by simpa using hz, hcell, hwz⟩⟩
  clear hA0 hval0
  refine (FnAt_walk A0 n0 c0 z0 W w0).mono fun e W' ⟨he, hg⟩ => ?_
  subst he
  have bel := below_gr hg
  exact ⟨_, rfl, _, _, _, [], _, [], hW', trodAll_mk1 (shut_bool Try.underlying4 _), (trodAll_cons_mk (Below.trod Try.laidOut (by kernel_rfl) (of_decide_eq_true (by kernel_rfl)) k0 bel lt0) trodAll_mk0), rfl, bel.frame _, fun h => by cases h⟩
end

/-- The statement. -/
theorem FnAt_holds : Rows.FnAtSaid :=
  OpenClaim.holds_of_wide 5 Try.f5 rfl rfl rfl rfl rfl rfl rfl ⟨rfl, rfl, rfl, rfl, rfl⟩ rfl rfl rfl rfl rfl (by kernel_rfl) Try.func5 (by kernel_rfl)
    (of_decide_eq_true (by kernel_rfl)) (by unfold Func.isWrapper; first | (rw [if_pos (by decide +kernel)]; kernel_rfl) | (rw [if_neg (by decide +kernel)]; exact ⟨rfl, rfl⟩))
    (fun os started H enc _ => FnAt_lifted os started H enc)
end Go.Proofs.Ytjkiidcdofikhaa
