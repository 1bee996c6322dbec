/- The first moves of a play, copied. -/
import Derived.Test.YtkjkbcfifhakkaaDoorChains
import Derived.Test.YtkjkbcfifhakkaaDoorMovesL
import Derived.Test.YtkjkbcfifhakkaaDoorPlayApi
namespace Go.Proofs.YtkjkbcfifhakkaaDoor
open Go.RowKit

/-- How far two short chains are (ops 0, 5 and 6, 11 of 14; the others ahead of 12 are done). -/
def Lc (b0 b1 c0 c1 : Bool) : Array Bool := #[b0, true, true, true, true, b1, c0, true, true, true, true, c1, false, false]
def clC (b0 b1 : Bool) : Bool := !b1 || b0
def lfC (b0 b1 : Bool) : Nat := (if b0 then 0 else 1) + (if b1 then 0 else 1)
theorem lfC_zero : ∀ b0 b1, lfC b0 b1 = 0 → b0 = true ∧ b1 = true := by decide
theorem clC0 : ∀ b1, clC false b1 = true → b1 = false ∧ lfC true false + 1 = lfC false false ∧ clC true false = true := by decide
theorem clC1 : lfC true true + 1 = lfC true false ∧ clC true true = true := by decide
def mayC (b0 b1 c0 c1 : Bool) (i : Nat) : Prop :=
  (i = 0 ∧ b0 = false) ∨ (i = 5 ∧ b0 = true ∧ b1 = false) ∨ (i = 6 ∧ c0 = false) ∨ (i = 11 ∧ c0 = true ∧ c1 = false) ∨ (i = 12 ∧ b1 = true ∧ c1 = true)
instance {b0 b1 c0 c1 : Bool} {i : Nat} : Decidable (mayC b0 b1 c0 c1 i) := by unfold mayC; infer_instance

section
variable {P : Program} {ops : Array Oper} {Q : Exit → Act → World → Prop} {w0 : World} {n : Nat} {e e' : TypeId} {src src' mv mv' : Value} {vs vs' : Nat → Value} {t t' : TypeId} {z z' : Value} {bytes bytes' : Nat}
theorem chainsC {S : World → Prop} (hSg : ∀ w, w0.grownBy w none → S w) (hee : e ≠ e')
    (h0 : Is ops 0 5 (.buildSlice t 0 #[])) (h5 : Is ops 5 10 (app t 5 9)) (h6 : Is ops 6 11 (.buildSlice t' 0 #[])) (h11 : Is ops 11 16 (app t' 11 15))
    (hready : ∀ b0 b1 c0 c1, clC b0 b1 = true → clC c0 c1 = true → (∀ i ∈ Region.ready .any ops (Lc b0 b1 c0 c1), mayC b0 b1 c0 c1 i) ∧ (lfC b0 b1 + lfC c0 c1 ≠ 0 → Region.ready .any ops (Lc b0 b1 c0 c1) ≠ []))
    (ht : P.underlying t = some (.slice e)) (hi : (P.info? e).map (fun i => (i.zero, i.size, i.bytes)) = some (some z, 1, bytes)) (hzs : z.cells.size = 1)
    (ht' : P.underlying t' = some (.slice e')) (hi' : (P.info? e').map (fun i => (i.zero, i.size, i.bytes)) = some (some z', 1, bytes')) (hzs' : z'.cells.size = 1)
    {u4 : Value} {A B : Option Addr} {cA cB : Nat} (hsrc : src = .slice A n cA) (hsrc' : src' = .slice B n cB)
    (hr : ∀ w, w0.grownBy w none → ∃ F, Sl w F A n vs) (hr' : ∀ w, w0.grownBy w none → ∃ F, Sl w F B n vs') (hvs : ∀ j, j < n → (vs j).oneCell' = true) (hvs' : ∀ j, j < n → (vs' j).oneCell' = true)
    (h63 : n + 1 ≤ maxLen) (hby : (n + 1) * bytes ≤ 140737488355328) (hby' : (n + 1) * bytes' ≤ 140737488355328)
    (fin : ∀ a w, Ch w0.heap.size n e src mv vs 5 10 17 17 9 1 true true false false a w → Ch w0.heap.size n e' src' mv' vs' 11 16 17 17 15 1 true true false false a w → w0.grownBy w none → a.eval (.tmp 4) = u4 ∧ 17 < a.tmps.size ∧ a.defers = [] → wpAnyH P .any ops Q S 2 (Lc true true true true) a w) :
    ∀ m b0 b1 c0 c1 a w, lfC b0 b1 + lfC c0 c1 = m → clC b0 b1 = true → clC c0 c1 = true → Ch w0.heap.size n e src mv vs 5 10 17 17 9 1 b0 b1 false false a w → Ch w0.heap.size n e' src' mv' vs' 11 16 17 17 15 1 c0 c1 false false a w → w0.grownBy w none → a.eval (.tmp 4) = u4 ∧ 17 < a.tmps.size ∧ a.defers = [] →
      wpAnyH P .any ops Q S (m + 2) (Lc b0 b1 c0 c1) a w := by
  obtain ⟨i, hi1, hi2, hi3, _⟩ := info_parts hi
  obtain ⟨i', hi1', hi2', hi3', _⟩ := info_parts hi'
  intro m
  induction m with
  | zero =>
    intro b0 b1 c0 c1 a w hm hcb hcc hC hC' hg h6'
    obtain ⟨rfl, rfl⟩ := lfC_zero _ _ (Nat.eq_zero_of_add_eq_zero_right hm)
    obtain ⟨rfl, rfl⟩ := lfC_zero _ _ (Nat.eq_zero_of_add_eq_zero_left hm)
    exact fin a w hC hC' hg h6'
  | succ m ih =>
    intro b0 b1 c0 c1 a w hm hcb hcc hC hC' hg h6'
    obtain ⟨hrd, hne⟩ := hready b0 b1 c0 c1 hcb hcc
    refine ⟨fun h => absurd h (hne (by omega)), fun i hii => ?_⟩
    have fr : ∀ g, (none : Option Nat) = some g → ∃ cs e2, e2 ≠ e ∧ w.heap[g]? = some (.cells cs e2 (0, 0)) := fun _ h => by cases h
    have fr' : ∀ g, (none : Option Nat) = some g → ∃ cs e2, e2 ≠ e' ∧ w.heap[g]? = some (.cells cs e2 (0, 0)) := fun _ h => by cases h
    rcases hrd i hii with ⟨rfl, rfl⟩ | ⟨rfl, rfl, rfl⟩ | ⟨rfl, rfl⟩ | ⟨rfl, rfl, rfl⟩ | ⟨rfl, rfl, rfl⟩
    · obtain ⟨rfl, hl, hc⟩ := clC0 _ hcb
      refine wpOp_of h0 fun o ho hd => hC.step0 (by decide) ho hd ht ⟨_, hi1⟩ fun v w' hg' hC2 => ⟨hSg _ (gr_trans hg hg'), ?_⟩
      exact ih _ _ _ _ _ w' (by omega) hc hcc hC2 (hC'.other v (by decide) hg' fr') (gr_trans hg hg') ⟨(eval_put_ne v (by decide)).trans h6'.1, by rw [size_put]; exact h6'.2.1, h6'.2.2⟩
    · obtain ⟨hl, hc⟩ := clC1
      obtain ⟨F, hF⟩ := hr w hg
      refine wpOp_of h5 fun o ho hd => hC.step1 (by decide) ho hd ht hi hzs hsrc hF hvs h63 hby fun v w' x hg' hx hC2 => ⟨hSg _ (gr_x hg hg' fun g h => (hx g h).1), ?_⟩
      exact ih _ _ _ _ _ w' (by omega) hc hcc hC2 (hC'.other v (by decide) hg' fun g h => ⟨_, e, hee, (hx g h).2.choose_spec⟩) (gr_x hg hg' fun g h => (hx g h).1) ⟨(eval_put_ne v (by decide)).trans h6'.1, by rw [size_put]; exact h6'.2.1, h6'.2.2⟩
    · obtain ⟨rfl, hl, hc⟩ := clC0 _ hcc
      refine wpOp_of h6 fun o ho hd => hC'.step0 (by decide) ho hd ht' ⟨_, hi1'⟩ fun v w' hg' hC2 => ⟨hSg _ (gr_trans hg hg'), ?_⟩
      exact ih _ _ _ _ _ w' (by omega) hcb hc (hC.other v (by decide) hg' fr) hC2 (gr_trans hg hg') ⟨(eval_put_ne v (by decide)).trans h6'.1, by rw [size_put]; exact h6'.2.1, h6'.2.2⟩
    · obtain ⟨hl, hc⟩ := clC1
      obtain ⟨F, hF⟩ := hr' w hg
      refine wpOp_of h11 fun o ho hd => hC'.step1 (by decide) ho hd ht' hi' hzs' hsrc' hF hvs' h63 hby' fun v w' x hg' hx hC2 => ⟨hSg _ (gr_x hg hg' fun g h => (hx g h).1), ?_⟩
      exact ih _ _ _ _ _ w' (by omega) hcb hc (hC.other v (by decide) hg' fun g h => ⟨_, e', fun h => hee h.symm, (hx g h).2.choose_spec⟩) hC2 (gr_x hg hg' fun g h => (hx g h).1) ⟨(eval_put_ne v (by decide)).trans h6'.1, by rw [size_put]; exact h6'.2.1, h6'.2.2⟩
    · exfalso
      have e1 : b0 = true := by revert hcb; cases b0 <;> decide
      have e2 : c0 = true := by revert hcc; cases c0 <;> decide
      subst e1 e2
      simp [lfC] at hm

theorem chainsC_end {S : World → Prop} (h12 : Is ops 12 17 (.build 26 #[(0, .tmp 10), (1, .tmp 16)])) (h13 : ∃ o, ops[13]? = some o ∧ o.guard = none ∧ o.op = .store 26 (.tmp 4) (.tmp 17) ∧ o.dst = none)
    (r0 : Region.ready .any ops (Lc true true true true) = [12]) (r1 : Region.ready .any ops ((Lc true true true true).setIfInBounds 12 true) = [13]) (r2 : Region.ready .any ops (((Lc true true true true).setIfInBounds 12 true).setIfInBounds 13 true) = [])
    {a : Act} {w : World} {r n n' c c' : Nat} {A A' : Option Addr} (k1 : a.eval (.tmp 10) = .slice A n c) (k2 : a.eval (.tmp 16) = .slice A' n' c') (k6 : a.eval (.tmp 4) = .pointer (some ⟨r, 0, none⟩)) (hlt : 17 < a.tmps.size) (hS : S w) (hr : Blk w r 26 #[.slice none 0 0, .slice none 0 0])
    (hSr : S ((w.setCell ⟨r, 0, none⟩ (.slice A n c)).setCell ⟨r, 1, none⟩ (.slice A' n' c')))
    (fin : ∀ a' : Act, a'.eval (.tmp 4) = .pointer (some ⟨r, 0, none⟩) → a'.defers = a.defers → Q .normal a' ((w.setCell ⟨r, 0, none⟩ (.slice A n c)).setCell ⟨r, 1, none⟩ (.slice A' n' c'))) :
    wpAnyH Tryd.prog .any ops Q S 2 (Lc true true true true) a w := by
  refine ⟨fun h => (by rw [r0] at h; cases h), fun i hi => ?_⟩
  rw [r0] at hi
  obtain rfl := List.mem_singleton.1 hi
  have k1' : a.tmps[10]?.getD undef = .slice A n c := by simpa [Act.eval] using k1
  have k2' : a.tmps[16]?.getD undef = .slice A' n' c' := by simpa [Act.eval] using k2
  refine wpOp_of h12 fun o ho hd => ?_
  unfold Oper.wp execOp
  simp only [ho]
  go_simp
  refine ⟨hS, fun h => (by rw [r1] at h; cases h), fun i hi => ?_⟩
  rw [r1] at hi
  obtain rfl := List.mem_singleton.1 hi
  have k6' : a.tmps[4]?.getD undef = .pointer (some ⟨r, 0, none⟩) := by simpa [Act.eval] using k6
  have k6'' : (a.tmps.setIfInBounds 17 (.agg #[.slice A n c, .slice A' n' c']))[4]?.getD undef = .pointer (some ⟨r, 0, none⟩) := by simpa [Array.getElem?_setIfInBounds_ne] using k6'
  have k21 : (a.tmps.setIfInBounds 17 (.agg #[.slice A n c, .slice A' n' c']))[17]?.getD undef = .agg #[.slice A n c, .slice A' n' c'] := by simp [hlt]
  generalize a.tmps.setIfInBounds 17 (.agg #[.slice A n c, .slice A' n' c']) = T at *
  obtain ⟨o2, j1, j2, j3, j4⟩ := h13
  have x0 := hr.cell 0
  have x1 := hr.cell 1
  have f0 := hr.free 0
  have f1 := hr.free 1
  simp only [List.getElem?_toArray, List.getElem?_cons_zero, List.getElem?_cons_succ] at x0 x1
  unfold wpOp
  have hw : Region.wanted o2 (yielded ops T) = true := by simp [Region.wanted, j2]
  simp only [j1, hw, if_true]
  refine .inl ?_
  unfold Oper.wp execOp
  simp only [j3]
  go_simp
  exact ⟨hSr, r2, fin _ (by simpa [Act.eval] using k6'') rfl⟩
end

theorem sl_take {w : World} {F : Nat → Prop} {A : Option Addr} {l n : Nat} {f : Nat → Value} (h : Sl w F A l f) (hn : n ≤ l) : Sl w F A n f := fun h0 => by
  obtain ⟨g, o, e, hF, hc⟩ := h (by omega)
  exact ⟨g, o, e, hF, fun i hi => hc i (by omega)⟩

set_option maxRecDepth 100000 in
set_option maxHeartbeats 2000000 in
theorem cutPlay_any (p : Pl) (A : Option Addr) (cA : Nat) (B : Option Addr) (cB : Nat) (G : Nat → Prop) (n : Nat) (w : World) (h : PlS w G p A B) (hn : n ≤ p.ms.length) (hll : p.ps.length = p.ms.length) (hl : p.ms.length ≤ 1000000) (hA : p.ms.length ≤ cA) (hB : p.ps.length ≤ cB) :
    Calls Tryd.prog 10 #[.agg #[.slice A p.ms.length cA, .slice B p.ps.length cB], .int .i64 (n : Int)] w fun e w' => ∃ A' cA' B' cB', e = .returned (.agg #[.slice A' (p.cut n).ms.length cA', .slice B' (p.cut n).ps.length cB']) ∧ PlO w' w.heap.size (p.cut n) A' cA' B' cB' ∧ w.grownBy w' none := by
  have h1 := sl_take h.1 hn
  have h2 := sl_take h.2 (by omega : n ≤ p.ps.length)
  have e1 : (p.cut n).ms.length = n := by simp [Pl.cut]; omega
  have e2 : (p.cut n).ps.length = n := by simp [Pl.cut]; omega
  have e3 : (List.range n).map (sv p.ms) = (p.cut n).ms.map strv := by
    rw [show (p.cut n).ms.map strv = (p.ms.map strv).take n from by simp [Pl.cut], ← range_sv, ← List.map_take, List.take_range]; congr 2; omega
  have e4 : (List.range n).map (iv p.ps) = (p.cut n).ps.map intv := by
    rw [show (p.cut n).ps.map intv = (p.ps.map intv).take n from by simp [Pl.cut], ← range_iv, ← List.map_take, List.take_range]; congr 2; omega
  unfold PlO
  rw [e1, e2]
  rw [hll] at hB ⊢
  have e3h := Lib.hid e3
  have e4h := Lib.hid e4
  clear e1 e2 e3 e4 hll h
  generalize p.cut n = p' at *
  generalize p.ms.length = l at *
  have hg0 := World.grownBy_alloc w (.cells #[.slice A l cA, .slice B l cB] 26) none
  have hg1 := gr_alloc hg0 (.cells #[.slice none 0 0, .slice none 0 0] 26)
  have hb := (Blk.new w 26 #[.slice A l cA, .slice B l cB]).alloc (.cells #[.slice none 0 0, .slice none 0 0] 26)
  have hr := (Blk.new (w.alloc (.cells #[.slice A l cA, .slice B l cB] 26)) 26 #[.slice none 0 0, .slice none 0 0])
  rw [World.size_alloc] at hr
  have h1 := h1.grown0 hg1
  have h2 := h2.grown0 hg1
  have hsz : ((w.alloc (.cells #[.slice A l cA, .slice B l cB] 26)).alloc (.cells #[.slice none 0 0, .slice none 0 0] 26)).heap.size = w.heap.size + 2 := by simp
  have hn0 : 0 ≤ (n : Int) := by omega
  have hnA : (n : Int) ≤ (cA : Int) := by omega
  have hnB : (n : Int) ≤ (cB : Int) := by omega
  go_enter Tryd.func10, Tryd.ntmps10
  go_wp2_with fail
  rename_i hK1
  generalize hW : (w.alloc (.cells #[.slice A l cA, .slice B l cB] 26)).alloc (.cells #[.slice none 0 0, .slice none 0 0] 26) = W at *
  refine wp_region_held (S := fun w' => Blk w' w.heap.size 26 #[.slice A l cA, .slice B l cB]) (by kernel_rfl) ?_
  have hbD := hb.grown0 (gr_drew (gr_refl W none))
  have hrD := hr.grown0 (gr_drew (gr_refl W none))
  have h1D := h1.grown0 (gr_drew (gr_refl W none))
  have h2D := h2.grown0 (gr_drew (gr_refl W none))
  refine wpAnyH_take (i := 1) (v := .pointer (some ⟨w.heap.size, 0, none⟩)) rfl (by kernel_rfl) (by kernel_rfl) (by kernel_rfl) (fun _ _ _ h => h) (Or.inl ⟨by rfl, ?_⟩) hbD ?_
  · intro w' hS
    go_simp
  simp only [List.getElem_toArray, List.getElem_cons_succ, List.getElem_cons_zero, Act.put, List.setIfInBounds_toArray, List.set_cons_zero, List.set_cons_succ]
  refine wpAnyH_take (i := 2) (v := .slice A l cA) rfl (by kernel_rfl) (by kernel_rfl) (by kernel_rfl) (fun _ _ _ h => h) (Or.inl ⟨by rfl, ?_⟩) hbD ?_
  · intro w' hS
    have k := Blk.cell hS 0
    simp only [List.getElem?_toArray, List.getElem?_cons_zero] at k
    go_simp
  simp only [List.getElem_toArray, List.getElem_cons_succ, List.getElem_cons_zero, Act.put, List.setIfInBounds_toArray, List.set_cons_zero, List.set_cons_succ]
  refine wpAnyH_take (i := 3) (v := .int .i64 (n : Int)) rfl (by kernel_rfl) (by kernel_rfl) (by kernel_rfl) (fun _ _ _ h => h) (Or.inl ⟨by rfl, ?_⟩) hbD ?_
  · intro w' hS
    go_simp
  simp only [List.getElem_toArray, List.getElem_cons_succ, List.getElem_cons_zero, Act.put, List.setIfInBounds_toArray, List.set_cons_zero, List.set_cons_succ]
  refine wpAnyH_take (i := 4) (v := .slice A n cA) rfl (by kernel_rfl) (by kernel_rfl) (by kernel_rfl) (fun _ _ _ h => h) (Or.inl ⟨by rfl, ?_⟩) hbD ?_
  · intro w' hS
    go_simp
  simp only [List.getElem_toArray, List.getElem_cons_succ, List.getElem_cons_zero, Act.put, List.setIfInBounds_toArray, List.set_cons_zero, List.set_cons_succ]
  refine wpAnyH_take (i := 7) (v := .pointer (some ⟨w.heap.size, 1, none⟩)) rfl (by kernel_rfl) (by kernel_rfl) (by kernel_rfl) (fun _ _ _ h => h) (Or.inl ⟨by rfl, ?_⟩) hbD ?_
  · intro w' hS
    go_simp
  simp only [List.getElem_toArray, List.getElem_cons_succ, List.getElem_cons_zero, Act.put, List.setIfInBounds_toArray, List.set_cons_zero, List.set_cons_succ]
  refine wpAnyH_take (i := 8) (v := .slice B l cB) rfl (by kernel_rfl) (by kernel_rfl) (by kernel_rfl) (fun _ _ _ h => h) (Or.inl ⟨by rfl, ?_⟩) hbD ?_
  · intro w' hS
    have k := Blk.cell hS 1
    simp only [List.getElem?_toArray, List.getElem?_cons_zero, List.getElem?_cons_succ] at k
    go_simp
  simp only [List.getElem_toArray, List.getElem_cons_succ, List.getElem_cons_zero, Act.put, List.setIfInBounds_toArray, List.set_cons_zero, List.set_cons_succ]
  refine wpAnyH_take (i := 9) (v := .int .i64 (n : Int)) rfl (by kernel_rfl) (by kernel_rfl) (by kernel_rfl) (fun _ _ _ h => h) (Or.inl ⟨by rfl, ?_⟩) hbD ?_
  · intro w' hS
    go_simp
  simp only [List.getElem_toArray, List.getElem_cons_succ, List.getElem_cons_zero, Act.put, List.setIfInBounds_toArray, List.set_cons_zero, List.set_cons_succ]
  refine wpAnyH_take (i := 10) (v := .slice B n cB) rfl (by kernel_rfl) (by kernel_rfl) (by kernel_rfl) (fun _ _ _ h => h) (Or.inl ⟨by rfl, ?_⟩) hbD ?_
  · intro w' hS
    go_simp
  simp only [List.getElem_toArray, List.getElem_cons_succ, List.getElem_cons_zero, Act.put, List.setIfInBounds_toArray, List.set_cons_zero, List.set_cons_succ]
  refine chainsC (fun wx hg => hbD.grown0 hg) (e := 9) (e' := 3) (src := .slice A n cA) (src' := .slice B n cB) (mv := .int .i64 (n : Int)) (mv' := .int .i64 (n : Int)) (vs := sv p.ms) (vs' := iv p.ps) (t := 23) (t' := 24) (w0 := W.drew) (u4 := .pointer (some ⟨w.heap.size + 1, 0, none⟩)) (by decide)
    ?o0 ?o5 ?o6 ?o11 ?rdy Tryd.underlying23 info_str rfl Tryd.underlying24 info_int rfl rfl rfl (fun _ hg => ⟨_, h1D.grown0 hg⟩) (fun _ hg => ⟨_, h2D.grown0 hg⟩)
    (fun _ _ => rfl) (fun _ _ => rfl) (by unfold maxLen; omega) (by omega) (by omega) ?fin 4 false false false false _ _ rfl rfl rfl ?c1 ?c2 (gr_refl _ _) ?c6
  case rdy => decide +kernel
  case o0 => exact ⟨_, rfl, rfl, rfl, rfl⟩
  case o5 => exact ⟨_, rfl, rfl, rfl, rfl⟩
  case o6 => exact ⟨_, rfl, rfl, rfl, rfl⟩
  case o11 => exact ⟨_, rfl, rfl, rfl, rfl⟩
  case c6 => exact ⟨rfl, of_decide_eq_true rfl, rfl⟩
  case c1 => exact ⟨⟨of_decide_eq_true rfl, of_decide_eq_true rfl, of_decide_eq_true rfl, of_decide_eq_true rfl⟩, rfl, rfl, Nat.le_refl _, fun h => (by cases h), fun h => (by cases h), fun h => (by cases h), fun h => (by cases h)⟩
  case c2 => exact ⟨⟨of_decide_eq_true rfl, of_decide_eq_true rfl, of_decide_eq_true rfl, of_decide_eq_true rfl⟩, rfl, rfl, Nat.le_refl _, fun h => (by cases h), fun h => (by cases h), fun h => (by cases h), fun h => (by cases h)⟩
  intro a wx hC hC' hg h6
  obtain ⟨A1, c1, k1, o1⟩ := hC.h1 rfl rfl
  obtain ⟨B1, d1, k2, o2⟩ := hC'.h1 rfl rfl
  have hrx := hrD.grown0 hg
  have hbx := hbD.grown0 hg
  refine chainsC_end (r := w.heap.size + 1) ?o12 ?o13 ?r0 ?r1 ?r2 k1 k2 h6.1 h6.2.1 hbx hrx ?hs ?q
  case o12 => exact ⟨_, rfl, rfl, rfl, rfl⟩
  case o13 => exact ⟨_, rfl, rfl, rfl, rfl⟩
  case r0 => kernel_rfl
  case r1 => kernel_rfl
  case r2 => kernel_rfl
  case hs => exact ((hbx.other (p := ⟨w.heap.size + 1, 0, none⟩) (by simp) _).other (p := ⟨w.heap.size + 1, 1, none⟩) (by simp) _)
  intro a' h6' hd
  rw [h6.2.2] at hd
  have hD : W.drew.heap.size = w.heap.size + 2 := hsz
  have q1 := own_setlt (own_setlt o1 (a := ⟨w.heap.size + 1, 0, none⟩) (by rw [hD]; simp) (.slice A1 n c1)) (a := ⟨w.heap.size + 1, 1, none⟩) (by rw [hD]; simp) (.slice B1 n d1)
  have q2 := own_setlt (own_setlt o2 (a := ⟨w.heap.size + 1, 0, none⟩) (by rw [hD]; simp) (.slice A1 n c1)) (a := ⟨w.heap.size + 1, 1, none⟩) (by rw [hD]; simp) (.slice B1 n d1)
  have q3 := gr_set (gr_set (gr_trans (gr_drew hg1) hg) (p := ⟨w.heap.size + 1, 0, none⟩) (.inr (Nat.le_succ _)) (.slice A1 n c1)) (p := ⟨w.heap.size + 1, 1, none⟩) (.inr (Nat.le_succ _)) (.slice B1 n d1)
  have hb2 := (hrx.set 0 (.slice A1 n c1)).set 1 (.slice B1 n d1)
  have y0 := hb2.cell 0
  have y1 := hb2.cell 1
  simp at y0 y1
  have k6 : a'.tmps[4]?.getD undef = .pointer (some ⟨w.heap.size + 1, 0, none⟩) := by simpa [Act.eval] using h6'
  refine hK1 _ _ ?_
  go_wp2_with fail
  refine bodyPost_ret (v := .agg #[.slice A1 n c1, .slice B1 n d1]) ?_ hd ⟨A1, c1, B1, d1, rfl, ⟨?_, ?_⟩, q3⟩
  · generalize (wx.setCell ⟨w.heap.size + 1, 0, none⟩ (.slice A1 n c1)).setCell ⟨w.heap.size + 1, 1, none⟩ (.slice B1 n d1) = wz at *
    simp [results, Tryd.results10, go_sem, k6, y0, y1]
  · rw [← e3h.out]; exact own_weak q1 (by omega)
  · rw [← e4h.out]; exact own_weak q2 (by omega)
theorem playOf_cut {r : List UInt8} {p : Pl} (h : playOf r p = true) (n : Nat) : playOf r (p.cut n) = true := by
  unfold playOf at h ⊢
  split at h
  · cases h
  · exact Pl.ok_cut n h
theorem brOf_cut {r : List UInt8} {p : Pl} (h : brOf r p = true) (n : Nat) : brOf r (p.cut n) = true := by
  unfold brOf at h ⊢
  rw [Bool.and_eq_true] at h ⊢
  exact ⟨playOf_cut h.1 n, Pl.br_cut h.2⟩
theorem visOf_cut {r : List UInt8} {p : Pl} (h : visOf r p = true) (n : Nat) : visOf r (p.cut n) = true := by
  unfold visOf at h ⊢
  rw [Bool.and_eq_true] at h ⊢
  exact ⟨playOf_cut h.1 n, Pl.vis_cut h.2⟩
theorem SmallP.cut {p : Pl} (h : SmallP p) (n : Nat) : SmallP (p.cut n) := by
  obtain ⟨⟨h1, h2⟩, h3⟩ := h
  exact ⟨⟨by simp [Pl.cut]; omega, fun m hm => h2 m (List.mem_of_mem_take hm)⟩, by simp [Pl.cut]; omega⟩
end Go.Proofs.YtkjkbcfifhakkaaDoor
