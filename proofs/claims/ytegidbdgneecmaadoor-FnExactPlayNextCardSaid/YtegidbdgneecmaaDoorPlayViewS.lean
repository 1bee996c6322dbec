/- Views: the reference's. -/
import Derived.Test.YtegidbdgneecmaaDoorPlayView
import Derived.Test.YtegidbdgneecmaaDoorPlayOkS
namespace Go.Proofs.YtegidbdgneecmaaDoor
open Go.RowKit

theorem own_lit {w : World} {base : Nat} (e : TypeId) (v : Value) (h : base ≤ w.heap.size) : (w.alloc (.cells #[v] e)).ownsRow base e 1 (.slice (some ⟨w.heap.size, 0, none⟩) 1 1) 1 [v] :=
  ⟨rfl, .inr ⟨w.heap.size, 1, #[v], rfl, h, heap_alloc_new w _, Nat.le_refl _, by unfold maxLen; omega, rfl, rfl⟩⟩

theorem range_iv (L : List Int) : (List.range L.length).map (iv L) = L.map intv := by
  refine List.ext_getElem (by simp) fun i h1 h2 => ?_
  simp only [List.length_map] at h2
  simp only [List.getElem_map, List.getElem_range]
  rw [iv_lt L h2]; rfl

/-- 0 for the opponent, 1 for the player. -/
def whoI (o : Bool) : Int := if o then 0 else 1

set_option maxHeartbeats 2000000 in
theorem l2View_any (t : Ty) (p : Pl) (hp : p.ok t = true) (A : Option Addr) (cA : Nat) (B : Option Addr) (cB : Nat) (G : Nat → Prop) (o : Bool) (wh : Int) (hwh : wh = whoI o) (n : Nat) (w : World) (h : PlS w G p A B) (hsm : SmallP p) (hn : n ≤ p.ms.length) :
    Calls Tryd.prog 35 #[.agg #[.slice A p.ms.length cA, .slice B p.ps.length cB], .int .i64 wh, .int .i64 (n : Int)] w fun e w' => ∃ V c, e = .returned (.slice V (vI p o n).length c) ∧ w'.ownsRow w.heap.size 3 1 (.slice V (vI p o n).length c) (vI p o n).length ((vI p o n).map intv) ∧ w.grownBy w' none := by
  have h60 := (Pl.ok_iff.1 hp).1
  have hll := (Pl.ok_iff.1 hp).2.1
  have hml := Lib.hid hsm.1.2
  have hg0 := World.grownBy_alloc w (.cells #[.slice A p.ms.length cA, .slice B p.ps.length cB] 30) none
  have hbx := Blk.new w 30 #[.slice A p.ms.length cA, .slice B p.ps.length cB]
  obtain ⟨hA, hB⟩ := h.grown0 hg0
  rw [hll] at hA hB hg0 hbx ⊢
  have hE := own_empty (w := (w.alloc (.cells #[.slice A p.ms.length cA, .slice B p.ms.length cB] 30))) (base := (w.alloc (.cells #[.slice A p.ms.length cA, .slice B p.ms.length cB] 30)).heap.size) 3 (Nat.le_refl _)
  have hllh := Lib.hid hll
  have hph := Lib.hid hp
  have hwhh := Lib.hid hwh
  clear hll h hsm hp hwh
  go_enter Tryd.func35, Tryd.ntmps35
  go_wp2_with fail
  go_loopw [2, 7] (fun i u wr => ∃ (m : Nat) (L : List Int), m ≤ n ∧ i = .int .i64 (m : Int) ∧ L.length + m ≤ n ∧ vI p o n = vI p o m ++ L ∧ wr.ownsRow (w.alloc (.cells #[.slice A p.ms.length cA, .slice B p.ms.length cB] 30)).heap.size 3 1 u L.length (L.map intv) ∧ (w.alloc (.cells #[.slice A p.ms.length cA, .slice B p.ms.length cB] 30)).grownBy wr none) (fun i _ _ => (intOf i).toNat)
  case atStart => exact ⟨n, [], Nat.le_refl _, rfl, by simp, by simp, by simpa using hE, gr_alloc (gr_refl _ _) _⟩
  case round =>
    obtain ⟨m, L, hmn, rfl, hLm, hvI, hown, hgx⟩ := hrel
    obtain ⟨Ao, co, rfl, _⟩ := own_form hown
    have hvh := Lib.hid hvI
    clear hvI
    cases m with
    | zero =>
      have hR := Lib.hid (show L = vI p o n by rw [hvh.out]; unfold vI; rw [Pl.view_zero]; rfl)
      have hx0 : ((0 : Nat) : Int) = 0 := rfl
      rw [hx0]
      clear hx0
      go_wp2_with fail
      go_ret
      have h := hR.out
      subst h
      exact ⟨Ao, co, rfl, own_weak hown (by simp), gr_trans hg0 hgx⟩
    | succ j =>
      have hjl : j < p.ms.length := by omega
      have hpl : j < p.ps.length := by rw [hllh.out]; exact hjl
      have hx0 : ((j + 1 : Nat) : Int) = (j : Int) + 1 := by omega
      rw [hx0]
      have hg1 := World.grownBy_alloc wr (.cells #[.int .i64 (j : Int)] 3) none
      have hownL := own_lit (w := wr) (base := (w.alloc (.cells #[.slice A p.ms.length cA, .slice B p.ms.length cB] 30)).heap.size) 3 (.int .i64 (j : Int)) hgx.size
      have hbase : (w.alloc (.cells #[.slice A p.ms.length cA, .slice B p.ms.length cB] 30)).heap.size ≤ (wr.alloc (.cells #[.int .i64 (j : Int)] 3)).heap.size := Nat.le_trans hgx.size (by rw [World.size_alloc wr]; omega)
      have hsl := (own_sli (own_keep hown hg1)).1
      obtain ⟨g, o1, rfl, _, _⟩ := hA (by omega)
      obtain ⟨g2, o2, rfl, _, _⟩ := hB (by omega)
      obtain ⟨c, r, hcr⟩ := isMove_cons' (Pl.ok_mv hph.out hjl).1
      have hmo : mOpp (p.mv j) = byOpp c r := by rw [hcr]; rfl
      obtain ⟨hn1, hn2⟩ := ok_nx hph.out hjl o
      have hle := p.nx_le o j
      have hrl : r.length ≤ 1048576 := by
        have h := hml.out _ (List.getElem_mem hjl)
        rw [← mv_lt hjl, hcr] at h
        simp at h
        omega
      have hstep := Lib.hid (show vI p o n = vI p o (p.nx o j) ++ ((j : Int) :: L) by
        rw [hvh.out]; unfold vI; rw [Pl.view_succ]; simp)
      have hcl := Lib.hid (fun (W : World) (hW : (w.alloc (.cells #[.slice (some ⟨g, o1, none⟩) p.ms.length cA, .slice (some ⟨g2, o2, none⟩) p.ms.length cB] 30)).grownBy W none) => show W.cell? ⟨g, o1 + j, none⟩ = some (.string ⟨(c :: r).toArray⟩) by
        have h := (hA.grown0 hW).at_ hjl
        rw [sv_lt p.ms hjl, ← mv_lt hjl, hcr] at h
        exact h)
      have hcl2 := Lib.hid (fun (W : World) (hW : (w.alloc (.cells #[.slice (some ⟨g, o1, none⟩) p.ms.length cA, .slice (some ⟨g2, o2, none⟩) p.ms.length cB] 30)).grownBy W none) => show W.cell? ⟨g2, o2 + j, none⟩ = some (.int .i64 (p.pt j)) by
        have h := (hB.grown0 hW).at_ hjl
        rw [iv_lt p.ps hpl, ← pt_lt hpl] at h
        exact h)
      have hbk := Lib.hid (fun (W : World) (hW : (w.alloc (.cells #[.slice (some ⟨g, o1, none⟩) p.ms.length cA, .slice (some ⟨g2, o2, none⟩) p.ms.length cB] 30)).grownBy W none) => show W.cell? ⟨w.heap.size, 0, none⟩ = some (.slice (some ⟨g, o1, none⟩) p.ms.length cA) ∧ W.cell? ⟨w.heap.size, 1, none⟩ = some (.slice (some ⟨g2, o2, none⟩) p.ms.length cB) from
        ⟨(hbx.grown0 hW).cell 0, (hbx.grown0 hW).cell 1⟩)
      have hmoh := Lib.hid hmo
      have hn1h := Lib.hid hn1
      have hn2h := Lib.hid hn2
      have hB2 := Lib.hid (fun W => l1Player_any c r W (by omega))
      clear hx0 hcr hmo hn1 hn2
      generalize p.nx o j = m' at *
      generalize p.pt j = x at *
      by_cases hw : byOpp c r = o
      · have hm' := hn1h.out (by rw [hmoh.out]; exact hw)
        subst hm'
        have hwe : who c r = wh := by unfold who; rw [hw, hwhh.out]; rfl
        have hB3 := hB2.out
        rw [hwe] at hB3
        have hB4 := Lib.hid hB3
        clear hw hB3 hB2 hwe
        go_wp2_with (at_builtin; refine wpList_app rfl _ _ 23 rfl (w.alloc (.cells #[.slice (some ⟨g, o1, none⟩) p.ms.length cA, .slice (some ⟨g2, o2, none⟩) p.ms.length cB] 30)).heap.size 3 (.int .i64 0) 8 Tryd.underlying23 info_int rfl _ _ _ _ rfl hownL _ _ _ _ rfl _ hsl (fun _ _ => rfl) (by unfold maxLen; omega) (by omega) hbase ?_; intro A' cap w3 hown3 hg3 hat3; have hgx3 := gr_own (gr_trans hgx hg1) hownL hg3; obtain ⟨d0, d1⟩ := hbk.out w3 hgx3; have c1 := hcl.out w3 hgx3)
        refine (hB4.out w3).mono ?_
        rintro e w' ⟨rfl, rfl⟩
        go_wp2_with fail
        go_roundw
        case rel =>
          refine ⟨m', (m' : Int) :: L, by omega, by go_num, by rw [List.length_cons]; omega, hstep.out, ?_, hgx3⟩
          rw [range_iv] at hown3
          rw [List.length_cons, Nat.add_comm L.length 1, List.map_cons]
          exact hown3
        case measure => simp [intOf]
      · have hwe : (who c r == wh) = false := by
          rw [beq_eq_false_iff_ne]
          intro h
          rw [hwhh.out] at h
          unfold who whoI at h
          cases hq : byOpp c r <;> cases o <;> rw [hq] at h hw <;> simp at h hw
        have hm' := hn2h.out (by rw [hmoh.out]; exact hw)
        have hmh := Lib.hid hm'
        have hx : -1 ≤ x := by omega
        have hxu : x ≤ 1000 := by omega
        clear hw hm'
        by_cases hx0 : x < 0
        · go_wp2_with (at_builtin; refine wpList_app rfl _ _ 23 rfl (w.alloc (.cells #[.slice (some ⟨g, o1, none⟩) p.ms.length cA, .slice (some ⟨g2, o2, none⟩) p.ms.length cB] 30)).heap.size 3 (.int .i64 0) 8 Tryd.underlying23 info_int rfl _ _ _ _ rfl hownL _ _ _ _ rfl _ hsl (fun _ _ => rfl) (by unfold maxLen; omega) (by omega) hbase ?_; intro A' cap w3 hown3 hg3 hat3; have hgx3 := gr_own (gr_trans hgx hg1) hownL hg3; obtain ⟨d0, d1⟩ := hbk.out w3 hgx3; have c1 := hcl.out w3 hgx3; have c2 := hcl2.out w3 hgx3)
          refine (hB2.out w3).mono ?_
          rintro e w' ⟨rfl, rfl⟩
          generalize who c r = y at *
          go_wp2_with fail
          go_roundw
          case rel =>
            refine ⟨0, (j : Int) :: L, by omega, rfl, by rw [List.length_cons]; omega, (by rw [hstep.out, show m' = 0 by have := hmh.out; omega]), ?_, hgx3⟩
            rw [range_iv] at hown3
            rw [List.length_cons, Nat.add_comm L.length 1, List.map_cons]
            exact hown3
          case measure => simp [intOf]
        · go_wp2_with (at_builtin; refine wpList_app rfl _ _ 23 rfl (w.alloc (.cells #[.slice (some ⟨g, o1, none⟩) p.ms.length cA, .slice (some ⟨g2, o2, none⟩) p.ms.length cB] 30)).heap.size 3 (.int .i64 0) 8 Tryd.underlying23 info_int rfl _ _ _ _ rfl hownL _ _ _ _ rfl _ hsl (fun _ _ => rfl) (by unfold maxLen; omega) (by omega) hbase ?_; intro A' cap w3 hown3 hg3 hat3; have hgx3 := gr_own (gr_trans hgx hg1) hownL hg3; obtain ⟨d0, d1⟩ := hbk.out w3 hgx3; have c1 := hcl.out w3 hgx3; have c2 := hcl2.out w3 hgx3)
          refine (hB2.out w3).mono ?_
          rintro e w' ⟨rfl, rfl⟩
          generalize who c r = y at *
          go_wp2_with fail
          go_roundw
          case rel =>
            refine ⟨m', (j : Int) :: L, by omega, congrArg (Value.int .i64) (by have := hmh.out; omega), by rw [List.length_cons]; omega, hstep.out, ?_, hgx3⟩
            rw [range_iv] at hown3
            rw [List.length_cons, Nat.add_comm L.length 1, List.map_cons]
            exact hown3
          case measure => have := hmh.out; simp [intOf]; omega
end Go.Proofs.YtegidbdgneecmaaDoor
