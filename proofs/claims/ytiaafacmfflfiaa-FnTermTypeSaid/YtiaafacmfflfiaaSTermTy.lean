/- The reference's type of a closed term. -/
import Derived.Test.YtiaafacmfflfiaaSKindA
import Derived.Test.YtiaafacmfflfiaaSKindI
import Derived.Test.YtiaafacmfflfiaaSKindL
import Derived.Test.YtiaafacmfflfiaaTermTy
import Derived.Test.YtiaafacmfflfiaaSSize
namespace Go.Proofs.Ytiaafacmfflfiaa
open Go.RowKit

theorem l5Kind_any (t : Tm) : KIH t := by
  induction t with
  | w cc =>
    intro E An At A cn ct c F w hF hE hok hnm hsz hwf hsm hx
    have hwd : isWd cc = true := hwf
    have hl : leafTy E cc = (.b, true) := by unfold leafTy; rw [look_wd hnm hwd, hwd]
    have h0 : cc ≠ [] := by rintro rfl; cases hwd
    refine (kind_leaf cc h0 E An At A cn ct c F w hE (by omega)).mono ?_
    rintro e w' h
    rw [hl] at h
    exact ⟨.b, h, by simp [Ty.args], fun k h => by cases h; rfl⟩
  | nm x =>
    intro E An At A cn ct c F w hF hE hok hnm hsz hwf hsm hx
    have hnx : isNm x = true := hwf
    have h0 : x ≠ [] := by rintro rfl; cases hnx
    have hwx : isWd x = false := by
      cases h : isWd x with
      | false => rfl
      | true => rw [(isWd_noSep h).2.1] at hnx; cases hnx
    refine (kind_leaf x h0 E An At A cn ct c F w hE (by omega)).mono ?_
    rintro e w' h
    have hty : (Tm.nm x).ty E = look E x := rfl
    cases hl : look E x with
    | none =>
      have hf : leafTy E x = (.b, false) := by unfold leafTy; rw [hl, hwx]
      rw [hf] at h
      rw [hty, hl]
      exact ⟨.b, h, by simp [Ty.args], fun k h => by cases h⟩
    | some k =>
      have hf : leafTy E x = (k, true) := by unfold leafTy; rw [hl]
      rw [hf] at h
      rw [hty, hl]
      have h15 := look_le hok hl
      have := k.length_args
      exact ⟨k, h, by omega, fun k' h => by cases h; rfl⟩
  | lam x k b ih => exact kind_lam x k b ih
  | app m n ihm ihn => exact kind_app m n ihm ihn
  | ite l m n ihl ihm ihn => exact kind_ite l m n ihl ihm ihn
/-- What the reference's reader of closed terms leaves. -/
def ClosedPost (l : List UInt8) (w : World) (e : Ending) (w' : World) : Prop :=
  w.grownBy w' none ∧ ∃ a A n c u B d, e = .returned (.tuple #[.agg #[.string a, .slice A n c], .agg #[.slice B (Ty.args u).length d], .bool (tyOf l).isSome]) ∧ TreeV w' Al (.slice B u.args.length d) u ∧ ∀ k, tyOf l = some k → u = k
set_option maxRecDepth 100000 in
set_option maxHeartbeats 4000000 in
theorem l5Closed_any (l : List UInt8) (w : World) (hl : l.length ≤ 4000000000) : Calls Try.prog 19 #[.string ⟨l.toArray⟩] w (ClosedPost l w) := by
  have hT := Lib.hid (fun W => l5Term_any l W hl)
  have hX := readX_eq l
  have hS := tyOf_small l
  have hg0 := gr_alloc (World.grownBy_alloc w (.cells #[.string ⟨#[]⟩, .slice none 0 0] 37) none) (.cells #[.slice none 0 0] 43)
  have hb1 := (Blk.new w 37 #[.string ⟨#[]⟩, .slice none 0 0]).alloc (.cells #[.slice none 0 0] 43)
  have hb2 := Blk.new (w.alloc (.cells #[.string ⟨#[]⟩, .slice none 0 0] 37)) 43 #[.slice none 0 0]
  rw [World.size_alloc] at hb2
  have hsz : ((w.alloc (.cells #[.string ⟨#[]⟩, .slice none 0 0] 37)).alloc (.cells #[.slice none 0 0] 43)).heap.size = w.heap.size + 2 := by simp
  have hbk := Lib.hid (fun (W : World) (hW : ((w.alloc (.cells #[.string ⟨#[]⟩, .slice none 0 0] 37)).alloc (.cells #[.slice none 0 0] 43)).grownBy W none) => (⟨(hb1.grown0 hW).cell 0, (hb1.grown0 hW).cell 1, (hb1.grown0 hW).free 0, (hb1.grown0 hW).free 1, (hb1.grown0 hW).lt, (hb2.grown0 hW).cell 0, (hb2.grown0 hW).free 0, (hb2.grown0 hW).lt⟩ :
    W.cell? ⟨w.heap.size, 0, none⟩ = some (.string ⟨#[]⟩) ∧ W.cell? ⟨w.heap.size, 1, none⟩ = some (.slice none 0 0) ∧ W.frozen? ⟨w.heap.size, 0, none⟩ = false ∧ W.frozen? ⟨w.heap.size, 1, none⟩ = false ∧ w.heap.size < W.heap.size ∧ W.cell? ⟨w.heap.size + 1, 0, none⟩ = some (.slice none 0 0) ∧ W.frozen? ⟨w.heap.size + 1, 0, none⟩ = false ∧ w.heap.size + 1 < W.heap.size))
  have hg0h := Lib.hid hg0
  clear hb1 hb2 hg0
  go_enter Try.func19, Try.ntmps19
  go_wp2_with fail
  refine (hT.out _).mono ?_
  rintro e w1 ⟨hg1, hm⟩
  have hle0 : w.heap.size ≤ w.heap.size := Nat.le_refl _
  have hle1 : w.heap.size ≤ w.heap.size + 1 := Nat.le_succ _
  cases hr : readX l with
  | none =>
    rw [hr] at hm hX
    obtain ⟨a, A, n, c, rfl⟩ := hm
    have hN : tyOf l = none := by
      rw [hS]
      cases h : readT l with
      | none => rfl
      | some t =>
        have h2 : readS l = if t.small then some t else none := by unfold readS; rw [h]
        cases hsm : t.small with
        | true => rw [h2, hsm] at hX; cases hX
        | false => show (if t.small = true then t.ty [] else none) = none; rw [hsm]; rfl
    have hga := gr_alloc hg1 (.cells #[.string a, .slice A n c] 37)
    obtain ⟨z0, z1, f0, f1, l0, y0, g0, l1⟩ := hbk.out _ hga
    have hbt := Blk.new w1 37 #[.string a, .slice A n c]
    clear hX hS hr
    go_wp2_with fail
    refine bodyPost_ret (v := .tuple #[.agg #[.string a, .slice A n c], .agg #[.slice none 0 0], .bool false]) (by simp [results, Try.results19, go_sem, z0, z1, y0]) rfl ?_
    exact ⟨gr_set (gr_set (gr_set (gr_trans hg0h.out hga) (.inr hle0) _) (.inr hle0) _) (.inr hle1) _, a, A, n, c, .b, none, 0, by rw [hN]; rfl, .mk .b none 0 (fun _ => undef) Sl.nil_ (fun i u hu => by cases hu) (Nat.le_refl _), fun k h => by rw [hN] at h; cases h⟩
  | some x =>
    rw [hr] at hm hX
    obtain ⟨A, c, rfl, hx, hok, hd, hs⟩ := hm
    obtain ⟨t, hN, rfl⟩ : ∃ t, readS l = some t ∧ x = t.sx := by
      cases h : readS l with | none => rw [h] at hX; cases hX | some t => rw [h] at hX; exact ⟨t, rfl, Option.some.inj hX⟩
    obtain ⟨hRT, hsm⟩ := readS_some hN
    obtain ⟨_, hwf, h60⟩ := readT_some.1 hRT
    have hTy : tyOf l = t.ty [] := by
      rw [hS, hRT]
      show (if t.small = true then t.ty [] else none) = t.ty []
      rw [hsm]
      rfl
    have hga := gr_alloc hg1 (.cells #[.string ⟨t.sx.atom.toArray⟩, .slice A t.sx.parts.length c] 37)
    have hbt := Blk.new w1 37 #[.string ⟨t.sx.atom.toArray⟩, .slice A t.sx.parts.length c]
    have hxa := (hx.mono (G := Al) (fun _ _ _ => trivial)).grown0 (World.grownBy_alloc w1 (.cells #[.string ⟨t.sx.atom.toArray⟩, .slice A t.sx.parts.length c] 37) none)
    have hTyh := Lib.hid hTy
    clear hX hS hr hN hRT hTy hok hd hs hx
    go_wp2_with fail
    generalize w1.alloc (.cells #[.string ⟨t.sx.atom.toArray⟩, .slice A t.sx.parts.length c] 37) = wa at *
    have hszb := hg1.size
    generalize w1.heap.size = bt at *
    have hszw := hga.size
    have hI := Lib.hid (fun W (hW : wa.grownBy W none) y (hyl : y < W.heap.size) => l5Kind_any t [] none none A 0 0 c (fun b => (b ≠ w.heap.size ∧ b ≠ w.heap.size + 1) ∧ b ≠ y) W (fun b hb => by have := hW.size; exact ⟨⟨by omega, by omega⟩, by omega⟩) ⟨Sl.nil_, fun _ => undef, Sl.nil_, fun i hi => absurd hi (Nat.not_lt_zero _)⟩ (by intro p hp; cases hp) (by intro p hp; cases hp) (by simp only [List.length_nil]; omega) hwf hsm (hxa.grown0 hW))
    have hl0 := (hbk.out _ hga).2.2.2.2.1
    refine (hI.out wa (gr_refl _ _) w.heap.size hl0).mono ?_
    rintro e w5 ⟨u, ⟨hg5, B, d, rfl, htm⟩, _, he⟩
    have hg5a := gr_alloc hg5 (.cells #[.slice B u.args.length d] 43)
    have hgx := gr_trans hga hg5a
    obtain ⟨z0, z1, f0, f1, l0, y0, g0, l1⟩ := hbk.out _ hgx
    have hbt5 := hbt.grown0 hg5a
    have c0 := hbt5.cell 0
    have c1 := hbt5.cell 1
    simp only [List.getElem?_toArray, List.getElem?_cons_zero, List.getElem?_cons_succ] at c0 c1
    have cl := hbt5.lt
    have hty := hTyh.out
    have hgw := gr_trans hg0h.out hgx
    have htz := htm.grown0 (World.grownBy_alloc w5 (.cells #[.slice B u.args.length d] 43) none)
    have hbt2 : w.heap.size + 2 ≤ bt := by omega
    have hdt0 : bt ≠ w.heap.size := by omega
    have hdt1 : bt ≠ w.heap.size + 1 := by omega
    have hbo := Blk.new w5 43 #[.slice B u.args.length d]
    have k0 := hbo.cell 0
    simp only [List.getElem?_toArray, List.getElem?_cons_zero] at k0
    have k1 := hbo.lt
    have hbn : w.heap.size + 2 ≤ w5.heap.size := by have := hg5.size; omega
    go_wp2_with fail
    generalize w5.alloc (.cells #[.slice B u.args.length d] 43) = wz at *
    generalize w5.heap.size = bo at *
    have hdo0 : bo ≠ w.heap.size := by omega
    have hdo1 : bo ≠ w.heap.size + 1 := by omega
    go_region_with (fail)
    all_goals go_wp2_with fail
    all_goals refine bodyPost_ret (v := .tuple #[.agg #[.string ⟨t.sx.atom.toArray⟩, .slice A t.sx.parts.length c], .agg #[.slice B u.args.length d], .bool (t.ty []).isSome]) (by simp [results, Try.results19, go_sem, Act.put, z0, z1, y0]) rfl ?_
    all_goals refine ⟨gr_drew (gr_set (gr_set (gr_set hgw (.inr hle0) _) (.inr hle0) _) (.inr hle1) _), _, _, _, _, u, B, d, by rw [hty], ((((htz.mono (fun _ hb _ => hb.1)).keep (w' := ((wz.setCell ⟨w.heap.size, 0, none⟩ _).setCell ⟨w.heap.size, 1, none⟩ _).setCell ⟨w.heap.size + 1, 0, none⟩ _) (fun b hb _ => (heap_setCell_other _ ⟨w.heap.size + 1, 0, none⟩ b _ hb.2).trans ((heap_setCell_other _ ⟨w.heap.size, 1, none⟩ b _ hb.1).trans (heap_setCell_other _ ⟨w.heap.size, 0, none⟩ b _ hb.1)))).grown0 (gr_drew (gr_refl _ none)))).all, fun k h => he k (by rw [← hty]; exact h)⟩
set_option maxHeartbeats 1000000 in
theorem sTermType_any (l : List UInt8) (w : World) (hl : l.length ≤ 4000000000) : Calls Try.prog 9 #[.string ⟨l.toArray⟩] w fun e w' => e = .returned (tyRet (tyOf l)) ∧ w.grownBy w' none := by
  have hC := Lib.hid (l5Closed_any l w hl)
  go_enter Try.func9, Try.ntmps9
  go_wp2_with fail
  refine hC.out.mono ?_
  rintro e w1 ⟨hg, a, A, n, c, u, B, d, rfl, ht, he⟩
  cases hT : tyOf l with
  | none =>
    go_wp2_with fail
    exact bodyPost_ret (v := .tuple #[.string ⟨#[]⟩, .bool false]) (by simp [results, Try.results9, go_sem]) rfl ⟨by rw [hT]; rfl, gr_alloc (gr_alloc hg _) _⟩
  | some k =>
    obtain rfl := he k hT
    have h15 := tyOf_le hT
    have hX := Lib.hid (fun W (hW : w1.grownBy W none) => l1Text_any u.atoms u B d Al W (Nat.le_refl _) (by omega) (ht.grown0 hW))
    have hTh := Lib.hid hT
    clear ht he hT
    go_wp2_with fail
    refine (hX.out _ (gr_alloc (World.grownBy_alloc _ _ _) _)).mono ?_
    rintro e w2 ⟨rfl, hg2⟩
    go_wp2_with fail
    exact bodyPost_ret (v := .tuple #[.string ⟨u.text.toArray⟩, .bool true]) (by simp [results, Try.results9, go_sem]) rfl ⟨by rw [hTh.out]; rfl, gr_trans (gr_alloc (gr_alloc hg _) _) hg2⟩
end Go.Proofs.Ytiaafacmfflfiaa
