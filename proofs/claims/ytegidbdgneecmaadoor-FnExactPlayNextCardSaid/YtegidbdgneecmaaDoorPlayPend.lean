/- Pending questions: the program's, with a map. -/
import Derived.Test.YtegidbdgneecmaaDoorPlayView
import Derived.Maps.OwnOps
import Derived.WalkArith
import Derived.Maps.Keyed
import Derived.Maps.Views
namespace Go.Proofs.YtegidbdgneecmaaDoor
open Go.RowKit Go.Maps

/-- A last question, behind some answers (behind a name). -/
def pendI (p : Pl) (n : Nat) (a : List Int) : Int := p.pend n a

theorem plainElem_bool_inv {H : Type} {P : Program} {e : TypeId} (he : P.underlying e = some .bool) {v : Value} {z : DataW H × List MemPlace} (h : plainElem P e v = some z) : ∃ a, v = .bool a ∧ z = (.lit (.bool a), []) := by
  unfold plainElem at h
  rw [he] at h
  cases v <;> simp at h
  exact ⟨_, rfl, h.symm⟩

/-- A look-up at elements that are bools. -/
theorem wpList_lookup_own_bool {H : Type} {P : Program} (w : World) {ops : Array Oper} {rest : List Oper} {o : Oper} {a : Act} {Q : Exit → Act → World → Prop}
    (hg : o.guard = none) (m x : Operand) (t : TypeId) (hop : o.op = Op.lookup t m x false)
    (k e : TypeId) (K : Keyed P k) (ht : P.underlying t = some (.map k e)) (he : P.underlying e = some .bool) (hz : (zeroValue e).run P w = .ok (.bool false) w) (b n : Nat) (D : DataW H)
    (hm : a.eval m = .map (some b)) (hown : w.ownsMap P k (plainElem P e) b n D) (key : Value) (kl : Lit) (hx : a.eval x = key) (hkey : keyOf P k key = some kl)
    (hK : ∀ c : Bool, D.atKey kl (.lit (.bool false)) = .lit (.bool c) → wpList P ops Q rest (a.put o.dst (.bool c)) w) :
    wpList P ops Q (o :: rest) a w := by
  refine wpList_plain hg fun K' hK' => ?_
  obtain ⟨v, ps, hrun, hv⟩ := hown.lookup K ht hz (plainElem_bool he false) hkey
  obtain ⟨c, rfl, hc⟩ := plainElem_bool_inv he hv
  simp only [Prod.mk.injEq] at hc
  unfold Oper.wp
  simp [execOp, hop, hm, hx, hrun, Result.andThen]
  exact hK' _ _ (hK c hc.1)

theorem lit_bool_inj {a b : Bool} (h : (DataW.lit (.bool a) : DataW Unit) = .lit (.bool b)) : a = b := by cases h; rfl

theorem keyI : Keyed Tryd.prog 3 := int_keyed Tryd.underlying3
theorem zeroB (w : World) : (zeroValue 4).run Tryd.prog w = .ok (.bool false) w := by kernel_rfl
theorem keyOfI {x : Int} (h : -9223372036854775808 ≤ x ∧ x ≤ 9223372036854775807) : keyOf Tryd.prog 3 (.int .i64 x) = some (.int .i64 x) := keyOf_int_mk Tryd.underlying3 (WalkArith.wf_i64 h)

/-- Block b is a map that holds the numbers of a. -/
def Ans (w : World) (b : Nat) (a : List Int) : Prop :=
  ∃ (D : DataW Unit), w.ownsMap Tryd.prog 3 (plainElem Tryd.prog 4) b a.length D ∧ IsMap D ∧ ∀ x : Int, (Lit.int .i64 x).wf = true → D.atKey (.int .i64 x) (.lit (.bool false)) = .lit (.bool (a.contains x))

theorem Ans.lt {w : World} {b : Nat} {a : List Int} (h : Ans w b a) : b < w.heap.size := by obtain ⟨D, h, _⟩ := h; exact h.lt
theorem ans_put {w : World} {b : Nat} {a : List Int} {x : Int} {D : DataW Unit} (hD : IsMap D) (hat : ∀ x : Int, (Lit.int .i64 x).wf = true → D.atKey (.int .i64 x) (.lit (.bool false)) = .lit (.bool (a.contains x)))
    (h : w.ownsMap Tryd.prog 3 (plainElem Tryd.prog 4) b (a.length + 1) (D.put (.int .i64 x) (.lit (.bool true)))) : Ans w b (a ++ [x]) := by
  refine ⟨_, by rw [List.length_append]; exact h, hD.put _ _, fun y hy => ?_⟩
  by_cases hxy : y = x
  · subst hxy
    rw [atKey_put_same hD (by simp [WideAt.IsKeyLit])]
    simp
  · rw [atKey_put_other (by intro e; cases e; exact hxy rfl), hat y hy]
    simp [hxy]

set_option maxHeartbeats 2000000 in
theorem pending_any (t : Ty) (p : Pl) (hp : p.ok t = true) (A : Option Addr) (cA : Nat) (B : Option Addr) (cB : Nat) (G : Nat → Prop) (n : Nat) (w : World) (h : PlS w G p A B) (hsm : SmallP p) (hn : n ≤ p.ms.length) :
    Calls Tryd.prog 65 #[.agg #[.slice A p.ms.length cA, .slice B p.ps.length cB], .int .i64 (n : Int)] w fun e w' => e = .returned (.int .i64 (pendI p n [])) ∧ w.grownBy w' none := by
  have h60 := (Pl.ok_iff.1 hp).1
  have hll := (Pl.ok_iff.1 hp).2.1
  have hml := Lib.hid hsm.1.2
  have hg0 := World.grownBy_alloc w (.cells #[.slice A p.ms.length cA, .slice B p.ps.length cB] 30) none
  have hbx := Blk.new w 30 #[.slice A p.ms.length cA, .slice B p.ps.length cB]
  obtain ⟨hA, hB⟩ := h.grown0 hg0
  rw [hll] at hA hB hg0 hbx ⊢
  have hllh := Lib.hid hll
  have hph := Lib.hid hp
  have hmm := @run_makeMap Tryd.prog
  clear hll h hsm hp
  go_enter Tryd.func65, Tryd.ntmps65
  go_wp2_with fail
  go_loopw [6] (fun i wr => ∃ (m : Nat) (a : List Int), m ≤ n ∧ i = .int .i64 ((m : Int) - 1) ∧ a.length + m ≤ n ∧ pendI p n [] = pendI p m a ∧ Ans wr (w.heap.size + 1) a ∧ (w.alloc (.cells #[.slice A p.ms.length cA, .slice B p.ms.length cB] 30)).grownBy wr none) (fun i _ => (intOf i + 1).toNat)
  case atStart => exact ⟨n, [], Nat.le_refl _, rfl, by simp, rfl, ⟨.map [], by have h := World.ownsMap_made (w.alloc (.cells #[.slice A p.ms.length cA, .slice B p.ms.length cB] 30)) Tryd.prog 3 (plainElem (H := Unit) Tryd.prog 4); rw [World.size_alloc] at h; exact h, ⟨[], rfl⟩, fun x _ => rfl⟩, gr_alloc (gr_refl _ _) _⟩
  case round =>
    obtain ⟨m, a, hmn, rfl, hLm, hvI, hans, hgx⟩ := hrel
    have hvh := Lib.hid hvI
    clear hvI
    cases m with
    | zero =>
      have hR := Lib.hid (show pendI p n [] = -1 by rw [hvh.out]; rfl)
      have hx0 : (((0 : Nat) : Int) - 1) = -1 := rfl
      rw [hx0]
      clear hx0
      go_wp2_with fail
      go_ret
      exact ⟨ret_int hR.out.symm, gr_trans hg0 hgx⟩
    | succ j =>
      have hx0 : (((j + 1 : Nat) : Int) - 1) = (j : Int) := by omega
      rw [hx0]
      have hjl : j < p.ms.length := by omega
      have hpl : j < p.ps.length := by rw [hllh.out]; exact hjl
      obtain ⟨g, o1, rfl, _, _⟩ := hA (by omega)
      obtain ⟨g2, o2, rfl, _, _⟩ := hB (by omega)
      obtain ⟨c, r, hcr⟩ := isMove_cons' (Pl.ok_mv hph.out hjl).1
      have hrl : r.length ≤ 1048576 := by
        have h := hml.out _ (List.getElem_mem hjl)
        rw [← mv_lt hjl, hcr] at h
        simp at h
        omega
      have c1 := (hA.grown0 hgx).at_ hjl
      have c2 := (hB.grown0 hgx).at_ hjl
      rw [sv_lt p.ms hjl, ← mv_lt hjl, hcr] at c1
      rw [iv_lt p.ps hpl, ← pt_lt hpl] at c2
      have hbw := hbx.grown0 hgx
      have d0 := hbw.cell 0
      have d1 := hbw.cell 1
      simp only [List.getElem?_toArray, List.getElem?_cons_zero, List.getElem?_cons_succ] at d0 d1
      have hmQ : mQ (p.mv j) = (c == 113) := by rw [hcr]; rfl
      have hxb : -1 ≤ p.pt j ∧ p.pt j ≤ 1000 := by
        rcases Nat.eq_zero_or_pos j with h0 | h0
        · subst h0
          rw [(Pl.ok_zero hph.out hjl).2]; omega
        · obtain ⟨k, hk, hkj, _⟩ := Pl.ok_prev hph.out h0 hjl
          omega
      obtain ⟨D, hown, hDm, hat⟩ := hans
      have hath := Lib.hid hat
      have hDh := Lib.hid hDm
      have hown' := hown
      have hb : w.heap.size + 1 < wr.heap.size := hown.lt
      have hQ := isQuestion_any c r wr (by omega)
      clear hx0 hcr hat hDm hbw
      cases hq : (c == 113) with
      | false =>
        rw [hq] at hQ hmQ
        have hQh := Lib.hid hQ
        have hstep := Lib.hid (show pendI p n [] = pendI p j (a ++ [p.pt j]) by rw [hvh.out]; unfold pendI; simp [Pl.pend, hmQ])
        have hkey := keyOfI (x := p.pt j) (by omega)
        clear hq hQ hmQ
        generalize p.pt j = x at *
        go_wp2_with fail
        refine hQh.out.mono ?_
        rintro e w' ⟨rfl, rfl⟩
        go_wp2_with (at_mapUpdate; refine wpList_mapUpdate_own _ rfl _ _ _ 89 rfl 3 4 keyI Tryd.underlying89 _ (w.heap.size + 1) a.length D rfl hown (by unfold maxLen; omega) _ _ _ rfl rfl hkey (.lit (.bool true)) [] (plainElem_bool Tryd.underlying4 true) ?_; intro w1 hown1 hgrow1)
        go_roundw
        case rel => exact ⟨j, a ++ [x], by omega, rfl, by rw [List.length_append, List.length_singleton]; omega, hstep.out, ans_put hDh.out hath.out hown1, gr_trans_new hgx hgrow1 (by simp)⟩
        case measure => simp [intOf]
      | true =>
        rw [hq] at hQ hmQ
        have hQh := Lib.hid hQ
        have hkey := keyOfI (x := (j : Int)) (by omega)
        have hatj := Lib.hid (hath.out (j : Int) (WalkArith.wf_i64 (by omega)))
        cases hin : a.contains (j : Int) with
        | true =>
          have hstep := Lib.hid (show pendI p n [] = pendI p j a by rw [hvh.out]; unfold pendI; rw [List.contains_iff_mem] at hin; simp [Pl.pend, hmQ, hin])
          have hatj2 := hatj.out
          rw [hin] at hatj2
          have hatj3 := Lib.hid hatj2
          clear hq hQ hmQ hin hatj2 hatj
          go_wp2_with fail
          refine hQh.out.mono ?_
          rintro e w' ⟨rfl, rfl⟩
          go_wp2_with (at_lookup; refine wpList_lookup_own_bool _ rfl _ _ 89 rfl 3 4 keyI Tryd.underlying89 Tryd.underlying4 (zeroB _) (w.heap.size + 1) a.length D rfl hown _ _ rfl hkey ?_; intro c' hc'; obtain rfl := lit_bool_inj (hatj3.out.symm.trans hc'))
          go_roundw
          case rel => exact ⟨j, a, by omega, rfl, by omega, hstep.out, ⟨D, hown', hDh.out, hath.out⟩, hgx⟩
          case measure => simp [intOf]
        | false =>
          have hR := Lib.hid (show pendI p n [] = (j : Int) by
            rw [hvh.out]; unfold pendI
            have hin2 : (j : Int) ∉ a := by intro h; rw [← List.contains_iff_mem, hin] at h; cases h
            simp [Pl.pend, hmQ, hin2])
          have hatj2 := hatj.out
          rw [hin] at hatj2
          have hatj3 := Lib.hid hatj2
          clear hq hQ hmQ hin hatj2 hatj
          go_wp2_with fail
          refine hQh.out.mono ?_
          rintro e w' ⟨rfl, rfl⟩
          go_wp2_with (at_lookup; refine wpList_lookup_own_bool _ rfl _ _ 89 rfl 3 4 keyI Tryd.underlying89 Tryd.underlying4 (zeroB _) (w.heap.size + 1) a.length D rfl hown _ _ rfl hkey ?_; intro c' hc'; obtain rfl := lit_bool_inj (hatj3.out.symm.trans hc'))
          go_ret
          exact ⟨ret_int hR.out.symm, gr_trans hg0 hgx⟩
end Go.Proofs.YtegidbdgneecmaaDoor
