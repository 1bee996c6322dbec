/- The reference's next plays. -/
import Derived.Test.YtegidbdgneecmaaDoorPlayList
import Derived.Test.YtegidbdgneecmaaDoorPlayRestS
namespace Go.Proofs.YtegidbdgneecmaaDoor
open Go.RowKit

/-- What a call that makes a list of plays leaves. -/
def NextPost (w : World) (L : List Pl) (e : Ending) (w' : World) : Prop :=
  ∃ A' c' D, e = .returned (.slice A' D.length c') ∧ PDs w' w.heap.size (.slice A' D.length c') D ∧ D.map PD.p = L ∧ w.grownBy w' none

/-- What the reference's next plays has made: all pointers below k, and of the pointer k the moves below j. -/
def NIn (Wb : World) (base : Nat) (p : Pl) (M : List (List UInt8)) (V : List Int) (AV : Option Addr) (cV : Nat) (AM : Option Addr) (cM : Nat) (k j : Nat) (out : Value) (wr : World) : Prop :=
  ∃ (D : List PD) (A' : Option Addr) (c' : Nat), out = .slice A' D.length c' ∧ PDs wr base (.slice A' D.length c') D ∧
    D.map PD.p = (List.range k).flatMap (fun i => (M.filter (Pl.fitS p i)).map fun m => p.snoc m i) ++ ((M.take j).filter (Pl.fitS p k)).map (fun m => p.snoc m k) ∧
    D.length ≤ 24 * k + j ∧ Wb.grownBy wr none ∧ wr.ownsRow base 3 1 (.slice AV V.length cV) V.length (V.map intv) ∧ wr.ownsRow base 9 1 (.slice AM M.length cM) M.length (M.map strv)
section
variable {Wb wr wz : World} {base : Nat} {p : Pl} {M : List (List UInt8)} {V : List Int} {AV AM : Option Addr} {cV cM k j : Nat} {out : Value}
theorem NIn.keep (h : NIn Wb base p M V AV cV AM cM k j out wr) (hg : wr.grownBy wz none) : NIn Wb base p M V AV cV AM cM k j out wz := by
  obtain ⟨D, A', c', h1, h2, h3, h4, h5, h6, h7⟩ := h
  exact ⟨D, A', c', h1, h2.keep hg, h3, h4, gr_trans h5 hg, own_keep h6 hg, own_keep h7 hg⟩
theorem NIn.skip (h : NIn Wb base p M V AV cV AM cM k j out wr) (hj : j < M.length) (hf : p.fitS k M[j] = false) : NIn Wb base p M V AV cV AM cM k (j + 1) out wr := by
  obtain ⟨D, A', c', h1, h2, h3, h4, h5, h6, h7⟩ := h
  refine ⟨D, A', c', h1, h2, ?_, by omega, h5, h6, h7⟩
  rw [h3, Ty.take_snoc (List.getElem?_eq_getElem hj), List.filter_append]
  simp [List.filter, hf]
theorem NIn.none (h : NIn Wb base p M V AV cV AM cM k j out wr) (hf : ∀ m ∈ M, p.fitS k m = false) (hj : j ≤ 24) : NIn Wb base p M V AV cV AM cM (k + 1) 0 out wr := by
  obtain ⟨D, A', c', h1, h2, h3, h4, h5, h6, h7⟩ := h
  refine ⟨D, A', c', h1, h2, ?_, by omega, h5, h6, h7⟩
  have e1 : (M.take j).filter (Pl.fitS p k) = [] := List.filter_eq_nil_iff.2 fun m hm => by rw [hf m (List.mem_of_mem_take hm)]; simp
  have e2 : M.filter (Pl.fitS p k) = [] := List.filter_eq_nil_iff.2 fun m hm => by rw [hf m hm]; simp
  rw [h3, e1, List.range_succ, List.flatMap_append]
  simp [e2]
theorem NIn.done (h : NIn Wb base p M V AV cV AM cM k M.length out wr) (hM : M.length ≤ 24) : NIn Wb base p M V AV cV AM cM (k + 1) 0 out wr := by
  obtain ⟨D, A', c', h1, h2, h3, h4, h5, h6, h7⟩ := h
  refine ⟨D, A', c', h1, h2, ?_, by omega, h5, h6, h7⟩
  rw [h3, List.take_length, List.range_succ, List.flatMap_append]
  simp
theorem NIn.push {D : List PD} {A1 A2 : Option Addr} {c1 c2 : Nat} {w5 : World} {d : PD} (h2 : PDs wr base (.slice A1 D.length c1) D)
    (h3 : D.map PD.p = (List.range k).flatMap (fun i => (M.filter (Pl.fitS p i)).map fun m => p.snoc m i) ++ ((M.take j).filter (Pl.fitS p k)).map (fun m => p.snoc m k))
    (h4 : D.length ≤ 24 * k + j) (h5 : Wb.grownBy wr Option.none) (h6 : wr.ownsRow base 3 1 (.slice AV V.length cV) V.length (V.map intv)) (h7 : wr.ownsRow base 9 1 (.slice AM M.length cM) M.length (M.map strv))
    (hj : j < M.length) (hf : p.fitS k M[j] = true) (hd : d.p = p.snoc M[j] k) (hb : Wb.heap.size ≤ base)
    (hD5 : PDs w5 base (.slice A2 (D ++ [d]).length c2) (D ++ [d])) (hg5 : wr.grownBy w5 (Value.slice A1 D.length c1).ownBlock) : NIn Wb base p M V AV cV AM cM k (j + 1) (.slice A2 (D ++ [d]).length c2) w5 := by
  have hty : ∀ {e : TypeId} {n : Nat} {u : Value} {xs : List Value}, e ≠ 30 → wr.ownsRow base e 1 u n xs → w5.ownsRow base e 1 u n xs := fun {e n u xs} he q => own_keep2 q hg5 fun g hu _ hgx => by
    obtain ⟨_, cs, hc⟩ := own2_ty h2.1 hgx.symm
    obtain ⟨c2, k2⟩ := own_ty q hu
    unfold Blk at k2 hc
    rw [hc] at k2
    injection k2 with k3
    injection k3 with _ k4 _
    exact he k4.symm
  refine ⟨D ++ [d], A2, c2, rfl, hD5, ?_, by simp; omega, gr_x h5 hg5 (fun g hg => Nat.le_trans hb (own2_ty h2.1 hg).1), hty (by decide) h6, hty (by decide) h7⟩
  rw [List.map_append, h3, Ty.take_snoc (List.getElem?_eq_getElem hj), List.filter_append, List.map_append]
  simp [List.filter, hf, hd]
end

set_option maxRecDepth 100000 in
set_option maxHeartbeats 4000000 in
theorem l2Next_any (t : Ty) (ht : t.atoms ≤ 15) (T : Option Addr) (c0 : Nat) (p : Pl) (hp : p.legal t = true) (h60 : p.ms.length < 60) (A : Option Addr) (cA : Nat) (B : Option Addr) (cB : Nat) (F G : Nat → Prop) (w : World) (hk : TreeV w F (.slice T t.args.length c0) t) (h : PlS w G p A B) (hsm : SmallP p) :
    Calls Tryd.prog 17 #[.agg #[.slice T t.args.length c0], .agg #[.slice A p.ms.length cA, .slice B p.ps.length cB]] w (NextPost w (Pl.nextL t p)) := by
  have hok : p.ok t = true := by unfold Pl.legal at hp; simp only [Bool.and_eq_true] at hp; exact hp.1
  have hll := (Pl.ok_iff.1 hok).2.1
  have hokh := Lib.hid hok
  have hph := Lib.hid hp
  have hsmh := Lib.hid hsm
  have hg00 := World.grownBy_alloc w (.cells #[.slice T t.args.length c0] 41) none
  have hg0 := gr_alloc hg00 (.cells #[.slice A p.ms.length cA, .slice B p.ps.length cB] 30)
  have hbx := Blk.new (w.alloc (.cells #[.slice T t.args.length c0] 41)) 30 #[.slice A p.ms.length cA, .slice B p.ps.length cB]
  have hbt := (Blk.new w 41 #[.slice T t.args.length c0]).alloc (.cells #[.slice A p.ms.length cA, .slice B p.ps.length cB] 30)
  rw [World.size_alloc] at hbx
  have hsz : ((w.alloc (.cells #[.slice T t.args.length c0] 41)).alloc (.cells #[.slice A p.ms.length cA, .slice B p.ps.length cB] 30)).heap.size = w.heap.size + 2 := by simp
  have hnil := PDs.nil (w := (w.alloc (.cells #[.slice T t.args.length c0] 41)).alloc (.cells #[.slice A p.ms.length cA, .slice B p.ps.length cB] 30)) (base := w.heap.size + 2) (by rw [hsz]; exact Nat.le_refl _)
  have hW0 := Lib.hid (fun (W : World) (hW : w.grownBy W none) (m : List UInt8) (x : Int) => l2With_any p A cA B cB G W (h.grown0 hW) hll (by omega) m x)
  clear hok hp hsm
  by_cases hn : p.ms.length = 0
  · have hR : Pl.nextL t p = [p.snoc [113] (-1)] := by unfold Pl.nextL; rw [if_pos hn]
    rw [hR]
    have hn2 : p.ps.length = 0 := by omega
    clear hR
    have hC := hW0.out (((w.alloc (.cells #[.slice T t.args.length c0] 41)).alloc (.cells #[.slice A p.ms.length cA, .slice B p.ps.length cB] 30)).alloc (.cells #[] 30)) (gr_alloc hg0 _) [113] (-1)
    have hgn := gr_alloc hg0 (.cells #[] 30)
    rw [hsz] at hnil
    rw [hn, hn2] at hbx hnil hC hgn ⊢
    clear hW0 hg0 h hk
    have hszA : w.heap.size + 2 ≤ (((w.alloc (.cells #[.slice T t.args.length c0] 41)).alloc (.cells #[.slice A 0 cA, .slice B 0 cB] 30)).alloc (.cells #[] 30)).heap.size := by simp
    go_enter Tryd.func17, Tryd.ntmps17
    go_wp2_with fail
    refine hC.mono ?_
    rintro e w3 ⟨A', cA', B', cB', rfl, hO, hg3⟩
    have hD3 := hnil.keep (gr_alloc hg3 (.cells #[.slice A' (p.snoc [113] (-1)).ms.length cA', .slice B' (p.snoc [113] (-1)).ps.length cB'] 30))
    have hO3 := (hO.keep (World.grownBy_alloc w3 (.cells #[.slice A' (p.snoc [113] (-1)).ms.length cA', .slice B' (p.snoc [113] (-1)).ps.length cB'] 30) none)).weak hszA
    have hb3 := Blk.new w3 30 #[.slice A' (p.snoc [113] (-1)).ms.length cA', .slice B' (p.snoc [113] (-1)).ps.length cB']
    have hs3 : w.heap.size + 2 ≤ (w3.alloc (.cells #[.slice A' (p.snoc [113] (-1)).ms.length cA', .slice B' (p.snoc [113] (-1)).ps.length cB'] 30)).heap.size := by
      rw [World.size_alloc]
      exact Nat.le_succ_of_le (Nat.le_trans hszA hg3.size)
    generalize p.snoc [113] (-1) = q at *
    go_wp2_with (at_builtin; refine wpList_appP rfl _ _ 27 rfl Tryd.underlying27 info_play rfl hD3 ⟨q, A', cA', B', cB'⟩ rfl hb3 hO3 (Nat.zero_le _) hs3 ?_; intro A4 c4 w4 hD4 hg4)
    go_ret
    exact ⟨A4, c4, _, rfl, hD4.weak (by omega), rfl, gr_x (gr_alloc (gr_trans hgn hg3) _) hg4 (fun g hg => by have := (own2_ty hD3.1 hg).1; omega)⟩
  · have hR : Pl.nextL t p = (List.range p.ms.length).flatMap fun i => ((movesT t []).filter (Pl.fitS p i)).map fun m => p.snoc m i := by unfold Pl.nextL; rw [if_neg hn]
    rw [hR]
    clear hR
    have hn0 : ((p.ms.length : Int) == 0) = false := by rw [beq_eq_false_iff_ne]; omega
    have hgn := gr_alloc hg0 (.cells #[] 30)
    have hV0 := Lib.hid (fun (W : World) (hW : w.grownBy W none) (wh : Int) (hwh : wh = whoI (p.ms.length % 2 == 0)) => l2View_any t p hokh.out A cA B cB G (p.ms.length % 2 == 0) wh hwh p.ms.length W (h.grown0 hW) hsmh.out (Nat.le_refl _))
    have hP0 := Lib.hid (fun (W : World) (hW : w.grownBy W none) => l2Pending_any t p hokh.out A cA B cB G p.ms.length W (h.grown0 hW) hsmh.out (Nat.le_refl _))
    have hla := t.length_args
    have hM0 := Lib.hid (fun (W : World) (hW : w.grownBy W none) (base g : Nat) (hg : Blk W g 9 #[]) (hb : base ≤ g) (hgw : w.heap.size ≤ g) => show Calls Tryd.prog 36 #[.agg #[.slice T t.args.length c0], .string ⟨#[]⟩, .slice (some ⟨g, 0, none⟩) 0 0] W (fun e w' => ∃ A' c', e = .returned (.slice A' (movesT t []).length c') ∧ w'.ownsRow base 9 1 (.slice A' (movesT t []).length c') (movesT t []).length ((movesT t []).map strv) ∧ W.grownBy w' (some g) ∧ ∀ g2, (Value.slice A' (movesT t []).length c').ownBlock = some g2 → some g2 = some g ∨ W.heap.size ≤ g2) from
      l1Moves_any t.atoms t T c0 (fun b => F b ∧ b < w.heap.size) [] [] (some ⟨g, 0, none⟩) 0 base W (Nat.le_refl _) ht (by simp; omega) ((hk.mono (G := fun b => F b ∧ b < w.heap.size) (fun b h1 h2 => ⟨h1, h2⟩)).grown0 hW) ⟨rfl, .inr ⟨g, 0, #[], rfl, hb, hg, Nat.le_refl _, by unfold maxLen; omega, rfl, rfl⟩⟩ (Nat.le_trans hb (Nat.le_of_lt hg.lt)) (by simp; omega) (fun b hb1 e => by
        injection e with e
        have := hb1.2
        simp at e
        omega))
    rw [hll] at hbx hbt hnil hgn hsz hV0 hP0 hW0 ⊢
    go_enter Tryd.func17, Tryd.ntmps17
    go_wp2_with fail
    have hwh : (p.ms.length : Int) % 2 = whoI (p.ms.length % 2 == 0) := by
      unfold whoI
      by_cases h : p.ms.length % 2 = 0
      · simp [h]; omega
      · simp [h]; omega
    refine (hV0.out _ hgn _ hwh).mono ?_
    rintro e w3 ⟨AV, cV, rfl, hownV, hg3⟩
    have hgw3 := gr_trans (World.grownBy_alloc _ (.cells #[] 30) none) hg3
    have hb3 := hbt.grown0 hgw3
    have t0 := hb3.cell 0
    simp only [List.getElem?_toArray, List.getElem?_cons_zero] at t0
    have hg3w := gr_trans hgn hg3
    have hs3 := hg3w.size
    go_wp2_with fail
    refine (hM0.out _ (gr_alloc hg3w _) (w.heap.size + 2) w3.heap.size (Blk.new w3 _ _) ?_ hs3).mono ?_
    · have := hg3.size
      simp at this
      omega
    rintro e w4 ⟨AM, cM, rfl, hownM, hg4, hbM⟩
    have hownV4 := own_keep2 (own_keep hownV (World.grownBy_alloc w3 (.cells #[] 9) none)) hg4 (fun g hg _ he => by
      injection he with he
      subst he
      exact Nat.lt_irrefl _ (own_lt hownV hg))
    have hsz3 := hg3.size
    rw [World.size_alloc, hsz] at hsz3
    have hx3 := (own_weak hownV4 (b := w.heap.size + 2) (by rw [World.size_alloc, hsz]; omega))
    have hgx4 := gr_x (gr_alloc hgw3 (.cells #[] 9)) hg4 (fun g hg => by injection hg with hg; rw [hsz]; omega)
    have hnil4 := (hnil.keep hg3).keep (World.grownBy_alloc w3 (.cells #[] 9) none)
    have hnil5 : PDs w4 (w.heap.size + 2) (.slice (some ⟨w.heap.size + 2, 0, none⟩) 0 0) [] := by
      have h1 := own2_keep hnil4.1 hg4 (fun g hg he => by
        rw [hsz] at hg
        injection he with he
        injection hg with hg
        simp at hg
        omega)
      rw [hsz] at h1
      exact ⟨h1, fun _ h => by cases h⟩
    have hgWb := gr_alloc hg00 (.cells #[.slice A p.ms.length cA, .slice B p.ms.length cB] 30)
    have hVl : (vI p (p.ms.length % 2 == 0) p.ms.length).length ≤ p.ms.length := vI_length _ _ _
    have hMl : (movesT t []).length ≤ 24 := by
      have h1 := movesT_length t []
      have h2 := count_atoms t
      omega
    have hMm := Lib.hid (fun m hm => (mem_movesT (t := t) ht m).1 hm)
    have hfit := Lib.hid (show ∀ (i : Nat) (m : List UInt8), p.fitS i m = (hasI (vI p (p.ms.length % 2 == 0) p.ms.length) (i : Int) && ((m != [113] && mOpp m == (p.ms.length % 2 == 0) && mEn m == p.mv i) && (mQ m || pendI p p.ms.length [] == (i : Int)))) from fun i m => by
      have : hasI (vI p (p.ms.length % 2 == 0) p.ms.length) (i : Int) = (p.view (p.ms.length % 2 == 0) p.ms.length).contains i := by
        unfold hasI vI
        rw [Bool.eq_iff_iff, List.contains_iff_mem, List.contains_iff_mem]
        constructor
        · intro h
          obtain ⟨v, hv, e⟩ := List.mem_map.1 h
          obtain rfl : v = i := by omega
          exact hv
        · intro h
          exact List.mem_map.2 ⟨i, h, rfl⟩
      rw [this]; rfl)
    clear hnil hnil4 hownV hownV4 hg4 hg3 hgw3 hbM hg3w hsz3 hs3 hb3 t0 hgn hg0 hV0 hM0 hwh hbt
    generalize vI p (p.ms.length % 2 == 0) p.ms.length = V at *
    generalize hMe : movesT t [] = M at *
    have hMeh := Lib.hid hMe
    clear hMe
    generalize (w.alloc (.cells #[.slice T t.args.length c0] 41)).alloc (.cells #[.slice A p.ms.length cA, .slice B p.ms.length cB] 30) = Wb at *
    go_wp2_with fail
    go_loopw [5, 9] (fun out i wr => ∃ (k : Nat), k ≤ p.ms.length ∧ i = .int .i64 (k : Int) ∧ NIn Wb (w.heap.size + 2) p M V AV cV AM cM k 0 out wr) (fun _ i _ => p.ms.length - (intOf i).toNat)
    case atStart => exact ⟨0, Nat.zero_le _, rfl, [], _, _, rfl, hnil5, rfl, Nat.le_refl _, hgx4, hx3, hownM⟩
    case round =>
      clear hnil5 hgx4 hx3 hownM
      obtain ⟨k, hkl, rfl, hN0⟩ := hrel
      have hN0h := Lib.hid hN0
      by_cases hlt : k < p.ms.length
      · have hk0 : 0 ≤ (k : Int) := by omega
        have hk1 : (k : Int) < (p.ms.length : Int) := by omega
        clear hN0
        go_wp2_with fail
        go_loopw [5, 10] (fun out i wr => ∃ (j : Nat), j ≤ M.length ∧ i = .int .i64 (j : Int) ∧ NIn Wb (w.heap.size + 2) p M V AV cV AM cM k j out wr) (fun _ i _ => M.length - (intOf i).toNat)
        case atStart => exact ⟨0, Nat.zero_le _, rfl, hN0h.out⟩
        case round =>
          clear hN0h
          obtain ⟨j, hjl, rfl, hN⟩ := hrel
          have hNh := Lib.hid hN
          obtain ⟨D, A1, c1, rfl, hD, hDp, hDl, hgr, hrV, hrM⟩ := hN
          have hDph := Lib.hid hDp
          clear hDp
          by_cases hj : j < M.length
          · have hHas := Lib.hid (l2Has_any V (k : Int) AV cV _ wr (own_sli hrV).1 (by omega))
            cases hv : hasI V (k : Int) with
            | false =>
              have hNx := Lib.hid (hNh.out.none (fun m _ => by rw [hfit.out, hv]; rfl) (by omega))
              rw [hv] at hHas
              go_wp2_with fail
              refine hHas.out.mono ?_
              rintro e w' ⟨rfl, rfl⟩
              go_wp2_with fail
              go_roundw
              case rel => exact ⟨k + 1, by omega, by go_num, hNx.out⟩
              case measure => simp [intOf]; omega
            | true =>
              rw [hv] at hHas
              have hj0 : 0 ≤ (j : Int) := by omega
              have hj1 : (j : Int) < (M.length : Int) := by omega
              have hmm := hMm.out _ (List.getElem_mem hj)
              have hm8 := isMove_len ht hmm
              obtain ⟨c, r, hcr⟩ := isMove_cons' hmm
              have hrl : r.length ≤ 1048576 := by rw [hcr] at hm8; simp at hm8; omega
              obtain ⟨g, o, rfl, _, hcM⟩ := (own_sl hrM).1 (by omega)
              have cM1 := hcM j hj
              rw [sv_lt M hj, hcr] at cM1
              obtain ⟨g1, o1, rfl, _, hcA⟩ := (h.1.grown0 (gr_trans hgWb hgr)) (by omega)
              have cA1 := hcA k hlt
              rw [sv_lt p.ms hlt, ← mv_lt hlt] at cA1
              have hbw := hbx.grown0 hgr
              have d0 := hbw.cell 0
              have d1 := hbw.cell 1
              simp only [List.getElem?_toArray, List.getElem?_cons_zero, List.getElem?_cons_succ] at d0 d1
              have hfm := hfit.out k M[j]
              rw [hv, Bool.true_and, hcr] at hfm
              have hwho : (mOpp (c :: r) == (p.ms.length % 2 == 0)) = (who c r == (p.ms.length : Int) % 2) := by
                show (byOpp c r == (p.ms.length % 2 == 0)) = _
                unfold who
                cases hb : byOpp c r <;> by_cases hz : p.ms.length % 2 = 0
                · have : (p.ms.length : Int) % 2 = 0 := by omega
                  simp [hz, this]
                · have : (p.ms.length : Int) % 2 = 1 := by omega
                  simp [hz, this]
                · have : (p.ms.length : Int) % 2 = 0 := by omega
                  simp [hz, this]
                · have : (p.ms.length : Int) % 2 = 1 := by omega
                  simp [hz, this]
              rw [hwho] at hfm
              have hfm2 : p.fitS k M[j] = (((c :: r != [113]) && (who c r == (p.ms.length : Int) % 2) && (enab c r == p.mv k)) && ((c == 113) || pendI p p.ms.length [] == (k : Int))) := by rw [hcr]; exact hfm
              have hPl := Lib.hid (fun W => l1Player_any c r W (by omega))
              have hEn := Lib.hid (fun W => l1Enabler_any c r W (by omega))
              have hskip := Lib.hid (fun (hf : p.fitS k M[j] = false) (wz : World) (hz : wr.grownBy wz none) => (hNh.out.keep hz).skip hj hf)
              have hfmh := Lib.hid hfm2
              have hcrh := Lib.hid hcr
              have hDh := Lib.hid hD
              have hDlh := Lib.hid hDl
              have hrVh := Lib.hid hrV
              have hrMh := Lib.hid hrM
              clear hfm hfm2 hwho hcM hcA hbw hv hmm hm8 hcr hD hDl hrV hrM
              have h0 : 0 < (⟨(c :: r).toArray⟩ : ByteArray).size := by simp [ByteArray.size]
              have hbv := byte_val (c :: r) 0 (by simp) h0
              simp only [List.getElem_cons_zero] at hbv
              have e2 := byte0_eq c 113 113 rfl
              generalize hme : c :: r = m at *
              clear hme
              have htm := Lib.hid (show (p.ms.length : Int).tmod 2 = (p.ms.length : Int) % 2 from Int.tmod_eq_emod_of_nonneg (by omega))
              cases hb1 : (m != [113]) with
              | false =>
                have hf := Lib.hid (show p.fitS k M[j] = false by rw [hfmh.out, hb1]; simp)
                clear hfmh
                have hb1p : m = [113] := by simpa using hb1
                go_wp2_with fail
                refine hHas.out.mono ?_
                rintro e w' ⟨rfl, rfl⟩
                go_wp2_with fail
                go_quiet (fail)
                go_wp2_with fail
                go_roundw
                case rel => exact ⟨j + 1, by omega, by go_num, hskip.out hf.out _ (gr_drewN (gr_refl _ _) _)⟩
                case measure => simp [intOf]; omega
              | true =>
                have hb1p : ¬ m = [113] := by simpa using hb1
                have hb1q : (m == [113]) = false := beq_eq_false_iff_ne.2 hb1p
                cases hb2 : (who c r == (p.ms.length : Int) % 2) with
                | false =>
                  have hf := Lib.hid (show p.fitS k M[j] = false by rw [hfmh.out, hb1, hb2]; simp)
                  clear hfmh
                  generalize who c r = x at *
                  have hb2p : ¬ x = (p.ms.length : Int).tmod 2 := by rw [htm.out]; simpa using hb2
                  go_wp2_with fail
                  refine hHas.out.mono ?_
                  rintro e w' ⟨rfl, rfl⟩
                  go_wp2_with fail
                  go_quiet ((go_at_call 38; exact quiet_eq (hPl.out _)))
                  go_wp2_with fail
                  go_roundw
                  case rel => exact ⟨j + 1, by omega, by go_num, hskip.out hf.out _ (gr_drewN (gr_refl _ _) _)⟩
                  case measure => simp [intOf]; omega
                | true =>
                  cases hb3 : (enab c r == p.mv k) with
                  | false =>
                    have hf := Lib.hid (show p.fitS k M[j] = false by rw [hfmh.out, hb1, hb2, hb3]; rfl)
                    clear hfmh
                    generalize who c r = x at *
                    have hb2p : x = (p.ms.length : Int).tmod 2 := by rw [htm.out]; simpa using hb2
                    clear hb2
                    subst hb2p
                    generalize enab c r = y at *
                    generalize p.mv k = z at *
                    have hb3p : ¬ y = z := by simpa using hb3
                    go_wp2_with fail
                    refine hHas.out.mono ?_
                    rintro e w' ⟨rfl, rfl⟩
                    go_wp2_with fail
                    go_quiet ((first | (go_at_call 38; exact quiet_eq (hPl.out _)) | (go_at_call 39; exact quiet_eq (hEn.out _))))
                    go_wp2_with fail
                    go_roundw
                    case rel => exact ⟨j + 1, by omega, by go_num, hskip.out hf.out _ (gr_drewN (gr_refl _ _) _)⟩
                    case measure => simp [intOf]; omega
                  | true =>
                    cases hq : (c == 113) with
                    | true =>
                      have hf := Lib.hid (show p.fitS k M[j] = true by rw [hfmh.out, hb1, hb2, hb3, hq]; rfl)
                      have hqp : (c.toNat : Int) = 113 := beq_iff_eq.1 (e2.trans hq)
                      rw [hq] at e2
                      clear hfmh
                      generalize who c r = x at *
                      have hb2p : x = (p.ms.length : Int).tmod 2 := by rw [htm.out]; simpa using hb2
                      clear hb2
                      subst hb2p
                      generalize enab c r = y at *
                      generalize p.mv k = z at *
                      have hb3p : y = z := by simpa using hb3
                      subst hb3p
                      clear hb3
                      go_wp2_with fail
                      refine hHas.out.mono ?_
                      rintro e w' ⟨rfl, rfl⟩
                      go_wp2_with fail
                      go_quiet ((first | (go_at_call 38; exact quiet_eq (hPl.out _)) | (go_at_call 39; exact quiet_eq (hEn.out _))))
                      go_wp2_with fail
                      refine (hW0.out _ (gr_trans hgWb (gr_trans hgr (gr_drewN (gr_refl wr none) nq))) m k).mono ?_
                      rintro e w6 ⟨A', cA', B', cB', rfl, hO, hg6⟩
                      have hgz := gr_alloc (gr_trans (gr_drewN (gr_refl wr none) nq) hg6) (.cells #[.slice A' (p.snoc m k).ms.length cA', .slice B' (p.snoc m k).ps.length cB'] 30)
                      have hD6 := hDh.out.keep hgz
                      have hszw : w.heap.size + 2 ≤ wr.heap.size := by rw [← hsz]; exact hgr.size
                      have hO6 := (hO.keep (World.grownBy_alloc w6 (.cells #[.slice A' (p.snoc m k).ms.length cA', .slice B' (p.snoc m k).ps.length cB'] 30) none)).weak (Nat.le_trans hszw ((gr_drewN (gr_refl wr none) nq)).size)
                      have hb6 := Blk.new w6 30 #[.slice A' (p.snoc m k).ms.length cA', .slice B' (p.snoc m k).ps.length cB']
                      have hs6 := Nat.le_trans hszw hgz.size
                      have hDl6 : D.length ≤ 1000000 := by have := hDlh.out; omega
                      have hQ := Lib.hid (fun (A4 : Option Addr) (c4 : Nat) (w7 : World) => NIn.push (Wb := Wb) (M := M) (V := V) (AV := AV) (cV := cV) (AM := some ⟨g, o, none⟩) (cM := cM) (k := k) (j := j) (A2 := A4) (c2 := c4) (w5 := w7) (d := ⟨p.snoc m k, A', cA', B', cB'⟩) hD6 hDph.out hDlh.out (gr_trans hgr hgz) (own_keep hrVh.out hgz) (own_keep hrMh.out hgz) hj hf.out (by rw [hcrh.out]) (Nat.le_of_eq hsz))
                      generalize p.snoc m k = q at *
                      go_wp2_with (at_builtin; refine wpList_appP rfl _ _ 27 rfl Tryd.underlying27 info_play rfl hD6 ⟨q, A', cA', B', cB'⟩ rfl hb6 hO6 hDl6 hs6 ?_; intro A4 c4 w7 hD7 hg7)
                      go_roundw
                      case rel =>
                        have hE := hQ.out A4 c4 w7 hD7 hg7
                        rw [List.length_append, List.length_singleton] at hE
                        exact ⟨j + 1, by omega, by go_num, hE⟩
                      case measure => simp [intOf]; omega
                    | false =>
                      have hqp : ¬ (c.toNat : Int) = 113 := by have := e2.trans hq; simpa using this
                      have hfm := Lib.hid (show p.fitS k M[j] = (pendI p p.ms.length [] == (k : Int)) by rw [hfmh.out, hb1, hb2, hb3, hq]; rfl)
                      rw [hq] at e2
                      clear hfmh
                      generalize who c r = x at *
                      have hb2p : x = (p.ms.length : Int).tmod 2 := by rw [htm.out]; simpa using hb2
                      clear hb2
                      subst hb2p
                      generalize enab c r = y at *
                      generalize p.mv k = z at *
                      have hb3p : y = z := by simpa using hb3
                      subst hb3p
                      clear hb3
                      generalize pendI p p.ms.length [] = pe at *
                      go_wp2_with fail
                      refine hHas.out.mono ?_
                      rintro e w' ⟨rfl, rfl⟩
                      go_wp2_with fail
                      go_quiet ((first | (go_at_call 38; exact quiet_eq (hPl.out _)) | (go_at_call 39; exact quiet_eq (hEn.out _))))
                      go_wp2_with fail
                      refine (hP0.out _ (gr_trans hgWb (gr_drewN hgr nq))).mono ?_
                      rintro e w2 ⟨rfl, hg2⟩
                      have hg2n := gr_trans (gr_drewN (gr_refl wr none) nq) hg2
                      have hbw2 := hbx.grown0 (gr_trans hgr hg2n)
                      have d0' := hbw2.cell 0
                      have d1' := hbw2.cell 1
                      simp only [List.getElem?_toArray, List.getElem?_cons_zero, List.getElem?_cons_succ] at d0' d1'
                      cases hpd : (pe == (k : Int)) with
                      | false =>
                        have hpp : ¬ pe = (k : Int) := by simpa using hpd
                        have hf := Lib.hid (show p.fitS k M[j] = false by rw [hfm.out, hpd])
                        clear hbw2
                        go_wp2_with fail
                        go_roundw
                        case rel => exact ⟨j + 1, by omega, by go_num, hskip.out hf.out _ hg2n⟩
                        case measure => simp [intOf]; omega
                      | true =>
                        have hpp : pe = (k : Int) := by simpa using hpd
                        have hf := Lib.hid (show p.fitS k M[j] = true by rw [hfm.out, hpd])
                        clear hpd hfm hbw2
                        subst hpp
                        go_wp2_with fail
                        refine (hW0.out _ (gr_trans hgWb (gr_trans hgr hg2n)) m k).mono ?_
                        rintro e w6 ⟨A', cA', B', cB', rfl, hO, hg6⟩
                        have hgz := gr_alloc (gr_trans hg2n hg6) (.cells #[.slice A' (p.snoc m k).ms.length cA', .slice B' (p.snoc m k).ps.length cB'] 30)
                        have hD6 := hDh.out.keep hgz
                        have hszw : w.heap.size + 2 ≤ wr.heap.size := by rw [← hsz]; exact hgr.size
                        have hO6 := (hO.keep (World.grownBy_alloc w6 (.cells #[.slice A' (p.snoc m k).ms.length cA', .slice B' (p.snoc m k).ps.length cB'] 30) none)).weak (Nat.le_trans hszw (hg2n).size)
                        have hb6 := Blk.new w6 30 #[.slice A' (p.snoc m k).ms.length cA', .slice B' (p.snoc m k).ps.length cB']
                        have hs6 := Nat.le_trans hszw hgz.size
                        have hDl6 : D.length ≤ 1000000 := by have := hDlh.out; omega
                        have hQ := Lib.hid (fun (A4 : Option Addr) (c4 : Nat) (w7 : World) => NIn.push (Wb := Wb) (M := M) (V := V) (AV := AV) (cV := cV) (AM := some ⟨g, o, none⟩) (cM := cM) (k := k) (j := j) (A2 := A4) (c2 := c4) (w5 := w7) (d := ⟨p.snoc m k, A', cA', B', cB'⟩) hD6 hDph.out hDlh.out (gr_trans hgr hgz) (own_keep hrVh.out hgz) (own_keep hrMh.out hgz) hj hf.out (by rw [hcrh.out]) (Nat.le_of_eq hsz))
                        generalize p.snoc m k = q at *
                        go_wp2_with (at_builtin; refine wpList_appP rfl _ _ 27 rfl Tryd.underlying27 info_play rfl hD6 ⟨q, A', cA', B', cB'⟩ rfl hb6 hO6 hDl6 hs6 ?_; intro A4 c4 w7 hD7 hg7)
                        go_roundw
                        case rel =>
                          have hE := hQ.out A4 c4 w7 hD7 hg7
                          rw [List.length_append, List.length_singleton] at hE
                          exact ⟨j + 1, by omega, by go_num, hE⟩
                        case measure => simp [intOf]; omega
          · obtain rfl : j = M.length := by omega
            have hNx := Lib.hid (hNh.out.done hMl)
            go_wp2_with fail
            go_roundw
            case rel => exact ⟨k + 1, by omega, by go_num, hNx.out⟩
            case measure => simp [intOf]; omega
      · obtain rfl : k = p.ms.length := by omega
        obtain ⟨D, A1, c1, rfl, hD, hDp, hDl, hgr, hrV, hrM⟩ := hN0
        have hDph := Lib.hid hDp
        clear hDp
        go_wp2_with fail
        go_ret
        refine ⟨A1, c1, D, rfl, hD.weak (by omega), ?_, gr_trans hgWb hgr⟩
        rw [hDph.out, ← hMeh.out]
        simp
end Go.Proofs.YtegidbdgneecmaaDoor
