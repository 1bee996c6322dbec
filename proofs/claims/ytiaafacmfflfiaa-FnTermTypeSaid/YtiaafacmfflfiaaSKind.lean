/- The reference's types of terms: words and names. -/
import Derived.Test.YtiaafacmfflfiaaSTyp
namespace Go.Proofs.Ytiaafacmfflfiaa
open Go.RowKit

theorem rev_at {E : Env} {j : Nat} (h : j < E.length) : E.reverse[E.length - 1 - j]? = some E[j] := by
  rw [List.getElem?_reverse (by omega)]
  have : E.length - 1 - (E.length - 1 - j) = j := by omega
  rw [this]
  exact List.getElem?_eq_getElem h
theorem nmAt_at {E : Env} {j : Nat} (h : j < E.length) : nmAt E (E.length - 1 - j) = E[j].1 := by unfold nmAt; rw [rev_at h]
theorem kdAt_at {E : Env} {j : Nat} (h : j < E.length) : kdAt E (E.length - 1 - j) = E[j].2 := by unfold kdAt; rw [rev_at h]
theorem look_drop {E : Env} {x : List UInt8} {j : Nat} (h : j < E.length) : look (E.drop j) x = if E[j].1 = x then some E[j].2 else look (E.drop (j + 1)) x := by
  rw [List.drop_eq_getElem_cons h]
  unfold look
  by_cases hx : E[j].1 = x
  · rw [List.find?_cons_of_pos (by simpa using hx), if_pos hx]; rfl
  · rw [List.find?_cons_of_neg (by simpa using hx), if_neg hx]
theorem look_wd {E : Env} (hE : ∀ p ∈ E, isNm p.1 = true) {x : List UInt8} (hx : isWd x = true) : look E x = none := by
  unfold look
  rw [List.find?_eq_none.2 (fun p hp => ?_)]
  · rfl
  · intro e
    have e : p.1 = x := by simpa using e
    have h1 := hE p hp
    rw [e, (isWd_noSep hx).2.1] at h1
    cases h1
/-- What the reference says of an atom. -/
def leafTy (E : Env) (x : List UInt8) : Ty × Bool := match look E x with
  | some k => (k, true)
  | none => (.b, isWd x)
/-- What it leaves. -/
def KPost (F : Nat → Prop) (u : Ty) (ok : Bool) (w : World) (e : Ending) (w' : World) : Prop :=
  w.grownBy w' none ∧ ∃ A c, e = .returned (.tuple #[.agg #[.slice A u.args.length c], .bool ok]) ∧ TreeV w' F (.slice A u.args.length c) u
theorem KPost.mk {F : Nat → Prop} {u : Ty} {ok : Bool} {w w' : World} {A : Option Addr} {c : Nat} (hg : w.grownBy w' none) (ht : TreeV w' F (.slice A u.args.length c) u) : KPost F u ok w (.returned (.tuple #[.agg #[.slice A u.args.length c], .bool ok])) w' := ⟨hg, A, c, rfl, ht⟩
set_option maxRecDepth 100000 in
set_option maxHeartbeats 4000000 in
theorem kind_leaf (x : List UInt8) (hx0 : x ≠ []) (E : Env) (An At A : Option Addr) (cn ct c : Nat) (F : Nat → Prop) (w : World) (hE : EnvS w F An At E) (hn : E.length ≤ 1000) :
    Calls Try.prog 32 #[.agg #[.slice An E.length cn, .slice At E.length ct], .agg #[.string ⟨x.toArray⟩, .slice A 0 c]] w (KPost F (leafTy E x).1 (leafTy E x).2 w) := by
  have hg0 := gr_alloc (gr_alloc (World.grownBy_alloc w (.cells #[.slice An E.length cn, .slice At E.length ct] 70) none) (.cells #[.string ⟨x.toArray⟩, .slice A 0 c] 37)) (.cells #[.slice none 0 0] 43)
  have hb := ((Blk.new w 70 #[.slice An E.length cn, .slice At E.length ct]).alloc (.cells #[.string ⟨x.toArray⟩, .slice A 0 c] 37)).alloc (.cells #[.slice none 0 0] 43)
  have hc := (Blk.new (w.alloc (.cells #[.slice An E.length cn, .slice At E.length ct] 70)) 37 #[.string ⟨x.toArray⟩, .slice A 0 c]).alloc (.cells #[.slice none 0 0] 43)
  have hr := Blk.new ((w.alloc (.cells #[.slice An E.length cn, .slice At E.length ct] 70)).alloc (.cells #[.string ⟨x.toArray⟩, .slice A 0 c] 37)) 43 #[.slice none 0 0]
  rw [World.size_alloc] at hc
  rw [World.size_alloc, World.size_alloc] at hr
  have hxe : x.isEmpty = false := by cases x with | nil => exact absurd rfl hx0 | cons a l => rfl
  have hbk := Lib.hid (fun (W : World) (hW : (((w.alloc (.cells #[.slice An E.length cn, .slice At E.length ct] 70)).alloc (.cells #[.string ⟨x.toArray⟩, .slice A 0 c] 37)).alloc (.cells #[.slice none 0 0] 43)).grownBy W none) =>
    (⟨(hb.grown0 hW).cell 0, (hb.grown0 hW).cell 1, (hb.grown0 hW).lt, (hc.grown0 hW).cell 0, (hc.grown0 hW).lt, (hr.grown0 hW).cell 0, (hr.grown0 hW).free 0, (hr.grown0 hW).lt, gr_trans hg0 hW⟩ :
      W.cell? ⟨w.heap.size, 0, none⟩ = some (.slice An E.length cn) ∧ W.cell? ⟨w.heap.size, 1, none⟩ = some (.slice At E.length ct) ∧ w.heap.size < W.heap.size ∧ W.cell? ⟨w.heap.size + 1, 0, none⟩ = some (.string ⟨x.toArray⟩) ∧ w.heap.size + 1 < W.heap.size ∧
      W.cell? ⟨w.heap.size + 1 + 1, 0, none⟩ = some (.slice none 0 0) ∧ W.frozen? ⟨w.heap.size + 1 + 1, 0, none⟩ = false ∧ w.heap.size + 1 + 1 < W.heap.size ∧ w.grownBy W none))
  obtain ⟨z0, z1, zl, zx, zl2, zr, zf, zl3, _⟩ := hbk.out _ (gr_refl _ _)
  obtain ⟨s1, vs, s2, s3⟩ := hE
  have s1h := Lib.hid (fun W (hW : w.grownBy W none) => s1.grown0 hW)
  have s2h := Lib.hid (fun W (hW : w.grownBy W none) => s2.grown0 hW)
  have s3h := Lib.hid s3
  have hrf := gr_refl (((w.alloc (.cells #[.slice An E.length cn, .slice At E.length ct] 70)).alloc (.cells #[.string ⟨x.toArray⟩, .slice A 0 c] 37)).alloc (.cells #[.slice none 0 0] 43)) none
  clear hb hc hr hg0 s1 s2 s3
  go_enter Try.func32, Try.ntmps32
  go_wp2_with fail
  generalize hWW : ((w.alloc (.cells #[.slice An E.length cn, .slice At E.length ct] 70)).alloc (.cells #[.string ⟨x.toArray⟩, .slice A 0 c] 37)).alloc (.cells #[.slice none 0 0] 43) = WW at *
  clear z0 z1 zl zx zl2 zr zf zl3 hWW
  go_loopw [6] (fun i wr => ∃ j m, j + m = E.length ∧ i = .int .i64 ((m : Int) - 1) ∧ look E x = look (E.drop j) x ∧ WW.grownBy wr none) (fun i _ => (intOf i + 1).toNat)
  case atStart => exact ⟨0, E.length, by omega, rfl, rfl, hrf⟩
  case round =>
    obtain ⟨j, m, hjm, rfl, hf, hg⟩ := hrel
    obtain ⟨wi, hwi⟩ : ∃ wi, wi = wr := ⟨_, rfl⟩
    rw [← hwi] at hg ⊢
    clear hwi
    obtain ⟨z0, z1, zl, zx, zl2, zr, zf, zl3, hgi⟩ := hbk.out _ hg
    cases m with
    | zero =>
      have hE : look E x = none := by
        rw [hf, List.drop_of_length_le (by omega)]
        rfl
      clear hf
      have hT : leafTy E x = (.b, isWd x) := by unfold leafTy; rw [hE]
      have hb0 := Lib.hid (fun (W : World) => show TreeV W F (.slice none (Ty.args .b).length 0) .b from .mk .b none 0 (fun _ => undef) Sl.nil_ (fun i u hu => by cases hu) (Nat.le_refl _))
      by_cases h1 : x = [116]
      · have h1b : (x == [116]) = true := by rw [beq_iff_eq]; exact h1
        have hW : isWd x = true := by unfold isWd; rw [h1b]; rfl
        clear h1
        go_wp2_with fail
        first | go_region_with (fail) | fail
        all_goals go_wp2_with fail
        all_goals exact bodyPost_ret (v := .tuple #[.agg #[.slice none 0 0], .bool true]) (by simp [results, Try.results32, go_sem, zr]) rfl (by rw [hT, hW]; exact KPost.mk (u := .b) (gr_drew (gr_set hgi (p := ⟨w.heap.size + 1 + 1, 0, none⟩) (.inr (by show w.heap.size ≤ w.heap.size + 1 + 1; omega)) _)) (hb0.out _))
      · have h1b : (x == [116]) = false := by rw [beq_eq_false_iff_ne]; exact h1
        by_cases h2 : x = [102]
        · have h2b : (x == [102]) = true := by rw [beq_iff_eq]; exact h2
          have hW : isWd x = true := by unfold isWd; rw [h1b, h2b]; rfl
          clear h1 h2
          go_wp2_with fail
          first | go_region_with (fail) | fail
          all_goals go_wp2_with fail
          all_goals exact bodyPost_ret (v := .tuple #[.agg #[.slice none 0 0], .bool true]) (by simp [results, Try.results32, go_sem, zr]) rfl (by rw [hT, hW]; exact KPost.mk (u := .b) (gr_drew (gr_set hgi (p := ⟨w.heap.size + 1 + 1, 0, none⟩) (.inr (by show w.heap.size ≤ w.heap.size + 1 + 1; omega)) _)) (hb0.out _))
        · have h2b : (x == [102]) = false := by rw [beq_eq_false_iff_ne]; exact h2
          have hW : isWd x = (x == [117]) := by unfold isWd; rw [h1b, h2b]; rfl
          go_wp2_with fail
          go_region_with (fail)
          all_goals go_wp2_with fail
          all_goals exact bodyPost_ret (v := .tuple #[.agg #[.slice none 0 0], .bool (x == [117])]) (by simp [results, Try.results32, go_sem, zr]) rfl (by rw [hT, hW]; exact KPost.mk (u := .b) (gr_drew (gr_set hgi (p := ⟨w.heap.size + 1 + 1, 0, none⟩) (.inr (by show w.heap.size ≤ w.heap.size + 1 + 1; omega)) _)) (hb0.out _))
    | succ m =>
      have ej : (((m + 1 : Nat) : Int) - 1) = (m : Int) := by omega
      rw [ej]
      have hjl : j < E.length := by omega
      have hld := look_drop (x := x) hjl
      have hnm := nmAt_at hjl
      have hkd := kdAt_at hjl
      have hm : E.length - 1 - j = m := by omega
      rw [hm] at hnm hkd
      obtain ⟨gn, o1, e1, _, k1⟩ := s1h.out _ hgi (by omega)
      obtain ⟨gt, o2, e2, _, k2⟩ := s2h.out _ hgi (by omega)
      have k1 := k1 m (by omega)
      have k2 := k2 m (by omega)
      obtain ⟨⟨Ak, ck, e3⟩, s4⟩ := s3h.out m (by omega)
      rw [e3] at k2 s4
      simp only [hnm] at k1
      rw [hkd] at k2 s4
      have hm0 : (0 : Int) ≤ (m : Int) := by omega
      have hm1 : (m : Int) < (E.length : Int) := by omega
      rw [hld] at hf
      have s4h := Lib.hid s4
      clear hnm hkd hld hm e3 s4
      generalize hEj : E[j] = p at *
      clear hEj
      by_cases hx : p.1 = x
      · have hx2 : (p.1 == x) = true := by rw [hx]; exact beq_self_eq_true _
        have hT : leafTy E x = (p.2, true) := by unfold leafTy; rw [hf, if_pos hx]
        subst e1 e2
        have hTh := Lib.hid hT
        clear hf hT
        go_wp2_with fail
        go_quiet (fail)
        go_wp2_with fail
        exact bodyPost_ret (v := .tuple #[.agg #[.slice Ak p.2.args.length ck], .bool true]) (by simp [results, Try.results32, go_sem, zr]) rfl (by rw [hTh.out]; exact (have hgF := (gr_set (gr_drewN hgi _) (p := ⟨w.heap.size + 1 + 1, 0, none⟩) (.inr (by show w.heap.size ≤ w.heap.size + 1 + 1; omega)) _); KPost.mk hgF (s4h.out.grown0 hgF)))
      · have hx2 : (p.1 == x) = false := by rw [beq_eq_false_iff_ne]; exact hx
        have hE := Lib.hid (show look E x = look (E.drop (j + 1)) x by rw [hf]; exact if_neg hx)
        subst e1 e2
        clear hf
        go_wp2_with fail
        go_quiet (fail)
        go_wp2_with fail
        exact ⟨⟨j + 1, m, by omega, rfl, hE.out, gr_drewN hg _⟩, by simp [intOf]⟩
end Go.Proofs.Ytiaafacmfflfiaa
