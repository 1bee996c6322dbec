/- The reference's play with one move more. -/
import Derived.Test.YtegidbdgneecmaaDoorChains2
import Derived.Test.YtegidbdgneecmaaDoorMovesL
namespace Go.Proofs.YtegidbdgneecmaaDoor
open Go.RowKit

set_option maxRecDepth 100000 in
set_option maxHeartbeats 2000000 in
theorem l2With_any (p : Pl) (A : Option Addr) (cA : Nat) (B : Option Addr) (cB : Nat) (G : Nat → Prop) (w : World) (h : PlS w G p A B) (hll : p.ps.length = p.ms.length) (hl : p.ms.length ≤ 1000000) (m : List UInt8) (x : Int) :
    Calls Tryd.prog 34 #[.agg #[.slice A p.ms.length cA, .slice B p.ps.length cB], .string ⟨m.toArray⟩, .int .i64 x] w fun e w' => ∃ A' cA' B' cB', e = .returned (.agg #[.slice A' (p.snoc m x).ms.length cA', .slice B' (p.snoc m x).ps.length cB']) ∧ PlO w' w.heap.size (p.snoc m x) A' cA' B' cB' ∧ w.grownBy w' none := by
  have h1 := h.1
  have h2 := h.2
  have e1 : (p.snoc m x).ms.length = p.ms.length + 1 := by simp [Pl.snoc]
  have e2 : (p.snoc m x).ps.length = p.ms.length + 1 := by simp [Pl.snoc, hll]
  have e3 : (List.range p.ms.length).map (sv p.ms) ++ [strv m] = (p.snoc m x).ms.map strv := by rw [range_sv]; simp [Pl.snoc]
  have e4 : (List.range p.ms.length).map (iv p.ps) ++ [intv x] = (p.snoc m x).ps.map intv := by rw [← hll, range_iv]; simp [Pl.snoc]
  unfold PlO
  rw [e1, e2]
  rw [hll] at h2 ⊢
  have e3h := Lib.hid e3
  have e4h := Lib.hid e4
  clear e1 e2 e3 e4 hll h
  generalize p.snoc m x = p' at *
  generalize p.ms.length = n at *
  have hg0 := World.grownBy_alloc w (.cells #[.slice A n cA, .slice B n cB] 30) none
  have hg1 := gr_alloc hg0 (.cells #[.slice none 0 0, .slice none 0 0] 30)
  have hb := (Blk.new w 30 #[.slice A n cA, .slice B n cB]).alloc (.cells #[.slice none 0 0, .slice none 0 0] 30)
  have hr := (Blk.new (w.alloc (.cells #[.slice A n cA, .slice B n cB] 30)) 30 #[.slice none 0 0, .slice none 0 0])
  rw [World.size_alloc] at hr
  have h1 := h1.grown0 hg1
  have h2 := h2.grown0 hg1
  have hsz : ((w.alloc (.cells #[.slice A n cA, .slice B n cB] 30)).alloc (.cells #[.slice none 0 0, .slice none 0 0] 30)).heap.size = w.heap.size + 2 := by simp
  go_enter Tryd.func34, Tryd.ntmps34
  go_wp2_with fail
  rename_i hK1
  generalize hW : (w.alloc (.cells #[.slice A n cA, .slice B n cB] 30)).alloc (.cells #[.slice none 0 0, .slice none 0 0] 30) = W at *
  refine wp_region_held (S := fun w' => Blk w' w.heap.size 30 #[.slice A n cA, .slice B n cB]) (by kernel_rfl) ?_
  have hbD := hb.grown0 (gr_drew (gr_refl W none))
  have hrD := hr.grown0 (gr_drew (gr_refl W none))
  have h1D := h1.grown0 (gr_drew (gr_refl W none))
  have h2D := h2.grown0 (gr_drew (gr_refl W none))
  refine wpAnyH_take (i := 1) (v := .pointer (some ⟨w.heap.size, 0, none⟩)) rfl (by kernel_rfl) (by kernel_rfl) (by kernel_rfl) (fun _ _ _ h => h) (Or.inl ⟨by rfl, ?_⟩) hbD ?_
  · intro w' hS
    go_simp
  simp only [List.getElem_toArray, List.getElem_cons_succ, List.getElem_cons_zero, Act.put, List.setIfInBounds_toArray, List.set_cons_zero, List.set_cons_succ]
  refine wpAnyH_take (i := 2) (v := .slice A n cA) rfl (by kernel_rfl) (by kernel_rfl) (by kernel_rfl) (fun _ _ _ h => h) (Or.inl ⟨by rfl, ?_⟩) hbD ?_
  · intro w' hS
    have k := Blk.cell hS 0
    simp only [List.getElem?_toArray, List.getElem?_cons_zero] at k
    go_simp
  simp only [List.getElem_toArray, List.getElem_cons_succ, List.getElem_cons_zero, Act.put, List.setIfInBounds_toArray, List.set_cons_zero, List.set_cons_succ]
  refine wpAnyH_take (i := 4) (v := .string ⟨m.toArray⟩) rfl (by kernel_rfl) (by kernel_rfl) (by kernel_rfl) (fun _ _ _ h => h) (Or.inl ⟨by rfl, ?_⟩) hbD ?_
  · intro w' hS
    go_simp
  simp only [List.getElem_toArray, List.getElem_cons_succ, List.getElem_cons_zero, Act.put, List.setIfInBounds_toArray, List.set_cons_zero, List.set_cons_succ]
  refine wpAnyH_take (i := 8) (v := .pointer (some ⟨w.heap.size, 1, none⟩)) rfl (by kernel_rfl) (by kernel_rfl) (by kernel_rfl) (fun _ _ _ h => h) (Or.inl ⟨by rfl, ?_⟩) hbD ?_
  · intro w' hS
    go_simp
  simp only [List.getElem_toArray, List.getElem_cons_succ, List.getElem_cons_zero, Act.put, List.setIfInBounds_toArray, List.set_cons_zero, List.set_cons_succ]
  refine wpAnyH_take (i := 9) (v := .slice B n cB) rfl (by kernel_rfl) (by kernel_rfl) (by kernel_rfl) (fun _ _ _ h => h) (Or.inl ⟨by rfl, ?_⟩) hbD ?_
  · intro w' hS
    have k := Blk.cell hS 1
    simp only [List.getElem?_toArray, List.getElem?_cons_zero, List.getElem?_cons_succ] at k
    go_simp
  simp only [List.getElem_toArray, List.getElem_cons_succ, List.getElem_cons_zero, Act.put, List.setIfInBounds_toArray, List.set_cons_zero, List.set_cons_succ]
  refine wpAnyH_take (i := 11) (v := .int .i64 x) rfl (by kernel_rfl) (by kernel_rfl) (by kernel_rfl) (fun _ _ _ h => h) (Or.inl ⟨by rfl, ?_⟩) hbD ?_
  · intro w' hS
    go_simp
  simp only [List.getElem_toArray, List.getElem_cons_succ, List.getElem_cons_zero, Act.put, List.setIfInBounds_toArray, List.set_cons_zero, List.set_cons_succ]
  refine chains (fun wx hg => hbD.grown0 hg) (e := 9) (e' := 3) (src := .slice A n cA) (src' := .slice B n cB) (mv := .string ⟨m.toArray⟩) (mv' := .int .i64 x) (vs := sv p.ms) (vs' := iv p.ps) (t := 22) (t' := 23) (w0 := W.drew) (u6 := .pointer (some ⟨w.heap.size + 1, 0, none⟩)) (by decide)
    ?o0 ?o3 ?o5 ?o6 ?o7 ?o10 ?o12 ?o13 ?rdy Tryd.underlying22 info_str rfl Tryd.underlying23 info_int rfl (.inl ⟨rfl, _, rfl⟩) (.inr ⟨rfl, _, rfl⟩) rfl rfl (fun _ hg => ⟨_, h1D.grown0 hg⟩) (fun _ hg => ⟨_, h2D.grown0 hg⟩)
    (fun _ _ => rfl) (fun _ _ => rfl) (by unfold maxLen; omega) (by omega) (by omega) ?fin 8 false false false false false false false false _ _ rfl rfl rfl ?c1 ?c2 (gr_refl _ _) ?c6
  case rdy => decide +kernel
  case o0 => exact ⟨_, rfl, rfl, rfl, rfl⟩
  case o3 => exact ⟨_, rfl, rfl, rfl, rfl⟩
  case o5 => exact ⟨_, rfl, rfl, rfl, rfl⟩
  case o6 => exact ⟨_, rfl, rfl, rfl, rfl⟩
  case o7 => exact ⟨_, rfl, rfl, rfl, rfl⟩
  case o10 => exact ⟨_, rfl, rfl, rfl, rfl⟩
  case o12 => exact ⟨_, rfl, rfl, rfl, rfl⟩
  case o13 => exact ⟨_, rfl, rfl, rfl, rfl⟩
  case c6 => exact ⟨rfl, of_decide_eq_true rfl, rfl⟩
  case c1 => exact ⟨⟨of_decide_eq_true rfl, of_decide_eq_true rfl, of_decide_eq_true rfl, of_decide_eq_true rfl⟩, rfl, rfl, Nat.le_refl _, fun h => (by cases h), fun h => (by cases h), fun h => (by cases h), fun h => (by cases h)⟩
  case c2 => exact ⟨⟨of_decide_eq_true rfl, of_decide_eq_true rfl, of_decide_eq_true rfl, of_decide_eq_true rfl⟩, rfl, rfl, Nat.le_refl _, fun h => (by cases h), fun h => (by cases h), fun h => (by cases h), fun h => (by cases h)⟩
  intro a wx hC hC' hg h6
  obtain ⟨A1, c1, k1, o1⟩ := hC.h3 rfl
  obtain ⟨B1, d1, k2, o2⟩ := hC'.h3 rfl
  have hrx := hrD.grown0 hg
  have hbx := hbD.grown0 hg
  refine chains_end (r := w.heap.size + 1) ?o14 ?o15 ?r0 ?r1 ?r2 k1 k2 h6.1 h6.2.1 hbx hrx ?hs ?q
  case o14 => exact ⟨_, rfl, rfl, rfl, rfl⟩
  case o15 => exact ⟨_, rfl, rfl, rfl, rfl⟩
  case r0 => kernel_rfl
  case r1 => kernel_rfl
  case r2 => kernel_rfl
  case hs => exact ((hbx.other (p := ⟨w.heap.size + 1, 0, none⟩) (by simp) _).other (p := ⟨w.heap.size + 1, 1, none⟩) (by simp) _)
  intro a' h6' hd
  rw [h6.2.2] at hd
  have hD : W.drew.heap.size = w.heap.size + 2 := hsz
  have q1 := own_setlt (own_setlt o1 (a := ⟨w.heap.size + 1, 0, none⟩) (by rw [hD]; simp) (.slice A1 (n + 1) c1)) (a := ⟨w.heap.size + 1, 1, none⟩) (by rw [hD]; simp) (.slice B1 (n + 1) d1)
  have q2 := own_setlt (own_setlt o2 (a := ⟨w.heap.size + 1, 0, none⟩) (by rw [hD]; simp) (.slice A1 (n + 1) c1)) (a := ⟨w.heap.size + 1, 1, none⟩) (by rw [hD]; simp) (.slice B1 (n + 1) d1)
  have q3 := gr_set (gr_set (gr_trans (gr_drew hg1) hg) (p := ⟨w.heap.size + 1, 0, none⟩) (.inr (Nat.le_succ _)) (.slice A1 (n + 1) c1)) (p := ⟨w.heap.size + 1, 1, none⟩) (.inr (Nat.le_succ _)) (.slice B1 (n + 1) d1)
  have hb2 := (hrx.set 0 (.slice A1 (n + 1) c1)).set 1 (.slice B1 (n + 1) d1)
  have y0 := hb2.cell 0
  have y1 := hb2.cell 1
  simp at y0 y1
  have k6 : a'.tmps[6]?.getD undef = .pointer (some ⟨w.heap.size + 1, 0, none⟩) := by simpa [Act.eval] using h6'
  refine hK1 _ _ ?_
  go_wp2_with fail
  refine bodyPost_ret (v := .agg #[.slice A1 (n + 1) c1, .slice B1 (n + 1) d1]) ?_ hd ⟨A1, c1, B1, d1, rfl, ⟨?_, ?_⟩, q3⟩
  · generalize (wx.setCell ⟨w.heap.size + 1, 0, none⟩ (.slice A1 (n + 1) c1)).setCell ⟨w.heap.size + 1, 1, none⟩ (.slice B1 (n + 1) d1) = wz at *
    simp [results, Tryd.results34, go_sem, k6, y0, y1]
  · rw [← e3h.out]; exact own_weak q1 (by omega)
  · rw [← e4h.out]; exact own_weak q2 (by omega)
end Go.Proofs.YtegidbdgneecmaaDoor
