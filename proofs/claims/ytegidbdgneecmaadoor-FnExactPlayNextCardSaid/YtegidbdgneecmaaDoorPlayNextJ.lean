/- All next plays: the program's, their lists pairwise apart. -/
import Derived.Test.YtegidbdgneecmaaDoorPlayNextI
namespace Go.Proofs.YtegidbdgneecmaaDoor
open Go.RowKit

/-- No two plays of the list share a list. -/
def Apart (D : List PD) : Prop := D.Pairwise fun d e => (∀ g, d.a.ownBlock = some g → e.a.ownBlock ≠ some g) ∧ (∀ g, d.b.ownBlock = some g → e.b.ownBlock ≠ some g)
theorem Apart.snoc {D : List PD} {e : PD} {N : Nat} (h : Apart D) (h1 : ∀ d ∈ D, (∀ g, d.a.ownBlock = some g → g < N) ∧ (∀ g, d.b.ownBlock = some g → g < N)) (h2 : (∀ g, e.a.ownBlock = some g → N ≤ g) ∧ (∀ g, e.b.ownBlock = some g → N ≤ g)) : Apart (D ++ [e]) := by
  refine List.pairwise_append.2 ⟨h, List.pairwise_singleton _ _, fun d hd e' he => ?_⟩
  obtain rfl := List.mem_singleton.1 he
  exact ⟨fun g hg hg' => by have := (h1 d hd).1 g hg; have := h2.1 g hg'; omega, fun g hg hg' => by have := (h1 d hd).2 g hg; have := h2.2 g hg'; omega⟩
theorem PDs.below {w : World} {base : Nat} {v : Value} {D : List PD} (h : PDs w base v D) : ∀ d ∈ D, (∀ g, d.a.ownBlock = some g → g < w.heap.size) ∧ (∀ g, d.b.ownBlock = some g → g < w.heap.size) := fun d hd =>
  ⟨fun _ hg => by obtain ⟨_, hb⟩ := own_ty (h.2 d hd).1 hg; exact hb.lt, fun _ hg => by obtain ⟨_, hb⟩ := own_ty (h.2 d hd).2 hg; exact hb.lt⟩
def NextPostJ (w : World) (L : List Pl) (e : Ending) (w' : World) : Prop :=
  ∃ A' c' D, e = .returned (.slice A' D.length c') ∧ PDs w' w.heap.size (.slice A' D.length c') D ∧ D.map PD.p = L ∧ Apart D ∧ w.grownBy w' none
/-- What the program's next plays has made. -/
def NJ (Wb : World) (base : Nat) (p : Pl) (M : List (List UInt8)) (k j : Nat) (out : Value) (wr : World) : Prop :=
  ∃ (D : List PD) (A' : Option Addr) (c' : Nat), out = .slice A' D.length c' ∧ PDs wr base (.slice A' D.length c') D ∧
    D.map PD.p = (List.range k).flatMap (fun i => (M.filter (Pl.fitS p i)).map fun m => p.snoc m i) ++ ((M.take j).filter (Pl.fitS p k)).map (fun m => p.snoc m k) ∧
    D.length ≤ 24 * k + j ∧ Apart D ∧ Wb.grownBy wr none
section
variable {Wb wr wz : World} {base : Nat} {p : Pl} {M : List (List UInt8)} {k j : Nat} {out : Value}
theorem NJ.keep (h : NJ Wb base p M k j out wr) (hg : wr.grownBy wz none) : NJ Wb base p M k j out wz := by
  obtain ⟨D, A', c', h1, h2, h3, h4, hap, h5⟩ := h
  exact ⟨D, A', c', h1, h2.keep hg, h3, h4, hap, gr_trans h5 hg⟩
theorem NJ.skip (h : NJ Wb base p M k j out wr) (hj : j < M.length) (hf : p.fitS k M[j] = false) : NJ Wb base p M k (j + 1) out wr := by
  obtain ⟨D, A', c', h1, h2, h3, h4, hap, h5⟩ := h
  refine ⟨D, A', c', h1, h2, ?_, by omega, hap, h5⟩
  rw [h3, Ty.take_snoc (List.getElem?_eq_getElem hj), List.filter_append]
  simp [List.filter, hf]
theorem NJ.done (h : NJ Wb base p M k M.length out wr) (hM : M.length ≤ 24) : NJ Wb base p M (k + 1) 0 out wr := by
  obtain ⟨D, A', c', h1, h2, h3, h4, hap, h5⟩ := h
  refine ⟨D, A', c', h1, h2, ?_, by omega, hap, h5⟩
  rw [h3, List.take_length, List.range_succ, List.flatMap_append]
  simp
theorem NJ.push {D : List PD} {A1 A2 : Option Addr} {c1 c2 : Nat} {w5 : World} {d : PD} (h2 : PDs wr base (.slice A1 D.length c1) D)
    (h3 : D.map PD.p = (List.range k).flatMap (fun i => (M.filter (Pl.fitS p i)).map fun m => p.snoc m i) ++ ((M.take j).filter (Pl.fitS p k)).map (fun m => p.snoc m k))
    (h4 : D.length ≤ 24 * k + j) (h5 : Wb.grownBy wr Option.none)
    (hj : j < M.length) (hf : p.fitS k M[j] = true) (hd : d.p = p.snoc M[j] k) (hb : Wb.heap.size ≤ base) {N : Nat} (hap : Apart D) (hlo : ∀ d ∈ D, (∀ g, d.a.ownBlock = some g → g < N) ∧ (∀ g, d.b.ownBlock = some g → g < N)) (hhi : (∀ g, d.a.ownBlock = some g → N ≤ g) ∧ (∀ g, d.b.ownBlock = some g → N ≤ g))
    (hD5 : PDs w5 base (.slice A2 (D ++ [d]).length c2) (D ++ [d])) (hg5 : wr.grownBy w5 (Value.slice A1 D.length c1).ownBlock) : NJ Wb base p M k (j + 1) (.slice A2 (D ++ [d]).length c2) w5 := by
  refine ⟨D ++ [d], A2, c2, rfl, hD5, ?_, by simp; omega, hap.snoc hlo hhi, gr_x h5 hg5 (fun g hg => Nat.le_trans hb (own2_ty h2.1 hg).1)⟩
  rw [List.map_append, h3, Ty.take_snoc (List.getElem?_eq_getElem hj), List.filter_append, List.map_append]
  simp [List.filter, hf, hd]
end

set_option maxRecDepth 100000 in
set_option maxHeartbeats 4000000 in
theorem nextApart_any (q : Nat) (t : Ty) (ht : t.atoms ≤ 15) (p : Pl) (hp : p.legal t = true) (h60 : p.ms.length < 60) (A : Option Addr) (cA : Nat) (B : Option Addr) (cB : Nat) (F G : Nat → Prop) (w : World) (hk : KindP w F q t) (h : PlS w G p A B) (hsm : SmallP p) :
    Calls Tryd.prog 22 #[.pointer (some ⟨q, 0, none⟩), .agg #[.slice A p.ms.length cA, .slice B p.ps.length cB]] w (NextPostJ w (Pl.nextL t p)) := by
  have hok : p.ok t = true := by unfold Pl.legal at hp; simp only [Bool.and_eq_true] at hp; exact hp.1
  have hll := Lib.hid (Pl.ok_iff.1 hok).2.1
  have hg0 := World.grownBy_alloc w (.cells #[.slice A p.ms.length cA, .slice B p.ps.length cB] 30) none
  have hbx := Blk.new w 30 #[.slice A p.ms.length cA, .slice B p.ps.length cB]
  rw [hll.out] at hg0 hbx ⊢
  have hkh := Lib.hid (fun (W : World) (hW : w.grownBy W none) => hk.grown0 hW)
  have hW0 := fun (W : World) (hW : w.grownBy W none) (m : List UInt8) (x : Int) => with_any p A cA B cB G W (h.grown0 hW) (by omega) (by rw [hll.out]; omega) m x
  simp only [hll.out] at hW0
  have hWh := Lib.hid hW0
  have hsmh := Lib.hid hsm
  have hph := Lib.hid hp
  clear hW0 hk h hsm hp hok
  by_cases hn : p.ms.length = 0
  · have hR : Pl.nextL t p = [p.snoc [113] (-1)] := by unfold Pl.nextL; rw [if_pos hn]
    rw [hR]
    have hpe : p.snoc [113] (-1) = ⟨[[113]], [-1]⟩ := by
      obtain ⟨ms, ps⟩ := p
      have h1 : ms = [] := List.eq_nil_of_length_eq_zero hn
      have h2 : ps = [] := List.eq_nil_of_length_eq_zero (by have := hll.out; simp only at this; rw [this]; exact hn)
      subst h1 h2
      rfl
    rw [hpe]
    have r1 := own_oneN (w := w.alloc (.cells #[.slice A 0 cA, .slice B 0 cB] 30)) (base := w.heap.size) 9 (.string ⟨#[113]⟩) (by rw [World.size_alloc]; omega)
    have r2 := own_oneN (w := (w.alloc (.cells #[.slice A 0 cA, .slice B 0 cB] 30)).alloc (.cells #[.string ⟨#[113]⟩] 9)) (base := w.heap.size) 3 (.int .i64 (-1)) (by rw [World.size_alloc, World.size_alloc]; omega)
    have r3 := Blk.new (((w.alloc (.cells #[.slice A 0 cA, .slice B 0 cB] 30)).alloc (.cells #[.string ⟨#[113]⟩] 9)).alloc (.cells #[.int .i64 (-1)] 3)) 30 #[.slice (some ⟨w.heap.size + 1, 0, none⟩) 1 1, .slice (some ⟨w.heap.size + 1 + 1, 0, none⟩) 1 1]
    simp only [World.size_alloc] at r1 r2 r3
    have r1h := Lib.hid r1
    have r2h := Lib.hid r2
    have r3h := Lib.hid r3
    have hnh := Lib.hid hn
    clear hR hpe r1 r2 r3
    rw [hn]
    clear hn hWh hbx hg0
    go_enter Tryd.func22, Tryd.ntmps22
    go_wp2_with fail
    go_ret
    exact ⟨_, 1, [⟨⟨[[113]], [-1]⟩, some ⟨w.heap.size + 1, 0, none⟩, 1, some ⟨w.heap.size + 1 + 1, 0, none⟩, 1⟩], rfl,
      ⟨⟨rfl, .inr ⟨w.heap.size + 1 + 1 + 1, 1, _, rfl, by omega, r3h.out, Nat.le_refl _, by unfold maxLen; omega, rfl, rfl⟩⟩, fun d hd => by
        obtain rfl := List.mem_singleton.1 hd
        exact ⟨own_keep (own_keep r1h.out (World.grownBy_alloc _ _ _)) (World.grownBy_alloc _ _ _), own_keep r2h.out (World.grownBy_alloc _ _ _)⟩⟩, rfl, List.pairwise_singleton _ _,
      gr_alloc (gr_alloc (gr_alloc (World.grownBy_alloc w _ none) _) _) _⟩
  · have hR : Pl.nextL t p = (List.range p.ms.length).flatMap fun i => ((movesT t []).filter (Pl.fitS p i)).map fun m => p.snoc m i := by unfold Pl.nextL; rw [if_neg hn]
    rw [hR]
    clear hR
    have hn0 : ((p.ms.length : Int) == 0) = false := by rw [beq_eq_false_iff_ne]; omega
    have hMl : (movesT t []).length ≤ 24 := by
      have h1 := movesT_length t []
      have h2 := count_atoms t
      omega
    have hmv := Lib.hid (fun (W : World) (hW : w.grownBy W none) => moves_any t.atoms t q _ [] W (Nat.le_refl _) ht (by simp; omega) (hkh.out W hW))
    have hfit := Lib.hid (fun (i : Nat) (hi : i < p.ms.length) (m : List UInt8) (hm : m ∈ movesT t []) => show isMove t m = true ∧ ((p.snoc m i).ok t && ((p.snoc m i).vis && (p.snoc m i).br)) = p.fitS i m from
      ⟨(mem_movesT ht m).1 hm, Pl.fit_eq hph.out h60 hi ((mem_movesT ht m).1 hm)⟩)
    have hHP := Lib.hid (fun (r : Pl) (hsr : SmallP r) (A : Option Addr) (cA : Nat) (B : Option Addr) (cB : Nat) (G : Nat → Prop) (W : World) (hW : w.grownBy W none) (hS : PlS W G r A B) => hasPlay_any q t r A cA B cB _ G W (hkh.out W hW) ht hS hsr)
    have hLG := Lib.hid (fun (r : Pl) (hr : r.ok t = true) (hsr : SmallP r) (A : Option Addr) (cA : Nat) (B : Option Addr) (cB : Nat) (G : Nat → Prop) (W : World) (hS : PlS W G r A B) => legal_any t r hr A cA B cB G W hS hsr)
    generalize hMe : movesT t [] = M at *
    have hMeh := Lib.hid hMe
    clear hMe
    go_enter Tryd.func22, Tryd.ntmps22
    go_wp2_with fail
    have hg0h := Lib.hid hg0
    have hbk := Lib.hid (fun (W : World) (hW : (w.alloc (.cells #[.slice A p.ms.length cA, .slice B p.ms.length cB] 30)).grownBy W none) => show W.cell? ⟨w.heap.size, 0, none⟩ = some (.slice A p.ms.length cA) ∧ W.cell? ⟨w.heap.size, 1, none⟩ = some (.slice B p.ms.length cB) ∧ w.heap.size < W.heap.size from ⟨(hbx.grown0 hW).cell 0, (hbx.grown0 hW).cell 1, (hbx.grown0 hW).lt⟩)
    have hsz0 : w.heap.size + 1 = (w.alloc (.cells #[.slice A p.ms.length cA, .slice B p.ms.length cB] 30)).heap.size := by rw [World.size_alloc]
    clear hg0 hbx
    generalize w.alloc (.cells #[.slice A p.ms.length cA, .slice B p.ms.length cB] 30) = Wb at *
    go_loopw [5, 21] (fun out i wr => ∃ (k : Nat), k ≤ p.ms.length ∧ i = .int .i64 (k : Int) ∧ NJ Wb Wb.heap.size p M k 0 out wr) (fun _ i _ => p.ms.length - (intOf i).toNat)
    case atStart => exact ⟨0, Nat.zero_le _, rfl, [], none, 0, rfl, ⟨⟨rfl, .inl ⟨rfl, rfl⟩⟩, fun _ h => by cases h⟩, rfl, Nat.le_refl _, List.Pairwise.nil, gr_refl _ _⟩
    case round =>
      obtain ⟨wO, hwO⟩ : ∃ wo, wo = wr := ⟨_, rfl⟩
      subst hwO
      obtain ⟨k, hkl, rfl, hN0⟩ := hrel
      have hN0h := Lib.hid hN0
      by_cases hlt : k < p.ms.length
      · have hgr : Wb.grownBy wO none := by obtain ⟨_, _, _, _, _, _, _, _, h⟩ := hN0; exact h
        clear hN0
        go_wp2_with fail
        refine (hmv.out wO (gr_trans hg0h.out hgr)).mono ?_
        rintro e wA ⟨AM, cM, rfl, hownM, hgA⟩
        have hMr := Lib.hid hownM
        have hNA := Lib.hid (hN0h.out.keep hgA)
        clear hownM hN0h
        go_wp2_with fail
        go_loopw [5, 27] (fun out i wr => ∃ (j : Nat), j ≤ M.length ∧ i = .int .i64 (j : Int) ∧ NJ Wb Wb.heap.size p M k j out wr ∧ wr.ownsRow wO.heap.size 9 1 (.slice AM M.length cM) M.length (M.map strv)) (fun _ i _ => M.length - (intOf i).toNat)
        case atStart => exact ⟨0, Nat.zero_le _, rfl, hNA.out, hMr.out⟩
        case round =>
          clear hNA hgA hgr hMr
          obtain ⟨wi, hwi⟩ : ∃ wo, wo = wr := ⟨_, rfl⟩
          subst hwi
          obtain ⟨j, hjl, rfl, hN, hRM⟩ := hrel
          by_cases hj : j < M.length
          · have hNh := Lib.hid hN
            obtain ⟨D, A1, c1, rfl, hD, hDp, hDl, hap, hgr⟩ := hN
            have hk0 : 0 ≤ (k : Int) := by omega
            have hj0 : 0 ≤ (j : Int) := by omega
            have hj1 : (j : Int) < (M.length : Int) := by omega
            obtain ⟨d0, d1, dlt⟩ := hbk.out wi hgr
            have hRMh := Lib.hid hRM
            obtain ⟨g, o, rfl, _, hcM⟩ := (own_sl hRM).1 (by omega)
            clear hRM
            have cM1 := hcM j hj
            rw [sv_lt M hj] at cM1
            obtain ⟨hmm, hfe⟩ := hfit.out k hlt M[j] (List.getElem_mem hj)
            have hm8 := isMove_len ht hmm
            have hsq := Lib.hid (SmallP.snoc hsmh.out (by omega) (by rw [hll.out]; omega) hm8 (k : Int))
            have hgw := gr_trans hg0h.out hgr
            have hskip := Lib.hid (fun (hf : p.fitS k M[j] = false) (wz : World) (hz : wi.grownBy wz none) => (hNh.out.keep hz).skip hj hf)
            have hQ := Lib.hid (fun (A' : Option Addr) (cA' : Nat) (B' : Option Addr) (cB' : Nat) (A4 : Option Addr) (c4 : Nat) (w6 w7 : World) (hz : wi.grownBy w6 none) (hf : p.fitS k M[j] = true) {wq : World} (hOq : PlO wq wi.heap.size (p.snoc M[j] k) A' cA' B' cB') (hD7 : PDs w7 Wb.heap.size (.slice A4 (D ++ [PD.mk (p.snoc M[j] k) A' cA' B' cB']).length c4) (D ++ [PD.mk (p.snoc M[j] k) A' cA' B' cB'])) (hg7 : w6.grownBy w7 (Value.slice A1 D.length c1).ownBlock) =>
              NJ.push (Wb := Wb) (M := M) (k := k) (j := j) (d := PD.mk (p.snoc M[j] k) A' cA' B' cB') (hD.keep hz) hDp hDl (gr_trans hgr hz) hj hf rfl (Nat.le_refl _) (N := wi.heap.size) hap hD.below ⟨fun _ hg => own_base hOq.1 hg, fun _ hg => own_base hOq.2 hg⟩ hD7 hg7)
            have hDh := Lib.hid hD
            have hDl6 : D.length ≤ 1000000 := by omega
            have hfeh := Lib.hid hfe
            clear hcM hmm hm8 hD hDp hNh hfe
            have hWk := Lib.hid (hWh.out wi hgw M[j] (k : Int))
            have hHk := Lib.hid (hHP.out (p.snoc M[j] k) hsq.out)
            have hLk := Lib.hid (fun (hr9 : (p.snoc M[j] (k : Int)).ok t = true) => hLG.out (p.snoc M[j] k) hr9 hsq.out)
            have hbs : Wb.heap.size ≤ wi.heap.size := hgr.size
            generalize hsn : p.snoc M[j] (k : Int) = s at *
            have hsnh := Lib.hid hsn
            clear hsn
            go_wp2_with fail
            refine hWk.out.mono ?_
            rintro e w6 ⟨A', cA', B', cB', rfl, hO, hg6⟩
            have hgz := gr_alloc hg6 (.cells #[.slice A' s.ms.length cA', .slice B' s.ps.length cB'] 30)
            have hO7 := (hO.keep (World.grownBy_alloc w6 (.cells #[.slice A' s.ms.length cA', .slice B' s.ps.length cB'] 30) none))
            have hb9 := Blk.new w6 30 #[.slice A' s.ms.length cA', .slice B' s.ps.length cB']
            have hH7 := Lib.hid (hHk.out A' cA' B' cB' _ _ (gr_trans hgw hgz) hO7.sl)
            go_wp2_with fail
            refine hH7.out.mono ?_
            rintro e w8 ⟨rfl, hg8⟩
            have hgz8 := gr_trans hgz hg8
            have hb8 := hb9.grown0 hg8
            have x0 := hb8.cell 0
            have x1 := hb8.cell 1
            have xlt := hb8.lt
            simp only [List.getElem?_toArray, List.getElem?_cons_zero, List.getElem?_cons_succ] at x0 x1
            clear d0 d1 dlt cM1
            cases hok : s.ok t with
            | false =>
              have hf := Lib.hid (show p.fitS k M[j] = false by rw [← hfeh.out, hok]; rfl)
              clear hok
              go_wp2_with fail
              go_roundw
              case rel => exact ⟨j + 1, by omega, by go_num, hskip.out hf.out _ hgz8, own_keep hRMh.out hgz8⟩
              case measure => simp [intOf]; omega
            | true =>
              have hL8 := Lib.hid (hLk.out hok A' cA' B' cB' _ w8 (hO7.keep hg8).sl)
              have hfl := Lib.hid (show legB s = p.fitS k M[j] by rw [← hfeh.out, hok]; rfl)
              clear hok
              go_wp2_with fail
              refine hL8.out.mono ?_
              rintro e w9 ⟨rfl, hg9⟩
              have hgz9 := gr_trans hgz8 hg9
              have hb10 := hb8.grown0 hg9
              clear x0 x1 xlt
              have x0 := hb10.cell 0
              have x1 := hb10.cell 1
              have xlt := hb10.lt
              simp only [List.getElem?_toArray, List.getElem?_cons_zero, List.getElem?_cons_succ] at x0 x1
              cases hlb : legB s with
              | false =>
                have hf := Lib.hid (show p.fitS k M[j] = false by rw [← hfl.out, hlb])
                clear hlb
                go_wp2_with fail
                go_roundw
                case rel => exact ⟨j + 1, by omega, by go_num, hskip.out hf.out _ hgz9, own_keep hRMh.out hgz9⟩
                case measure => simp [intOf]; omega
              | true =>
                have hf := Lib.hid (show p.fitS k M[j] = true by rw [← hfl.out, hlb])
                clear hlb
                have hgA9 := gr_alloc hgz9 (.cells #[.slice A' s.ms.length cA', .slice B' s.ps.length cB'] 30)
                have hD6 := hDh.out.keep hgA9
                have hO6 := ((hO7.keep (gr_trans hg8 hg9)).keep (World.grownBy_alloc w9 (.cells #[.slice A' s.ms.length cA', .slice B' s.ps.length cB'] 30) none)).weak hbs
                have hb6 := Blk.new w9 30 #[.slice A' s.ms.length cA', .slice B' s.ps.length cB']
                have hs6 := Nat.le_trans hbs hgA9.size
                clear hb8 hb9 hb10
                go_wp2_with (at_builtin; refine wpList_appP rfl _ _ 27 rfl Tryd.underlying27 info_play rfl hD6 ⟨s, A', cA', B', cB'⟩ rfl hb6 hO6 hDl6 hs6 ?_; intro A4 c4 w7 hD7 hg7)
                go_roundw
                case rel =>
                  have hE := hQ.out A' cA' B' cB' A4 c4 _ w7 hgA9 hf.out hO hD7 hg7
                  rw [List.length_append, List.length_singleton] at hE
                  exact ⟨j + 1, by omega, by go_num, hE, own_keep2 (own_keep hRMh.out hgA9) hg7 (fun g hu _ hgx => own_playT (own_keep hRMh.out hgA9) hD6 hu hgx)⟩
                case measure => simp [intOf]; omega
          · obtain rfl : j = M.length := by omega
            have hNx := Lib.hid (hN.done hMl)
            clear hN
            go_wp2_with fail
            go_roundw
            case rel => exact ⟨k + 1, by omega, by go_num, hNx.out⟩
            case measure => simp [intOf]; omega
      · obtain rfl : k = p.ms.length := by omega
        obtain ⟨D, A1, c1, rfl, hD, hDp, hDl, hap, hgr⟩ := hN0
        have hDph := Lib.hid hDp
        clear hDp
        go_wp2_with fail
        go_ret
        refine ⟨A1, c1, D, rfl, hD.weak (by omega), ?_, hap, gr_trans hg0h.out hgr⟩
        rw [hDph.out]
        simp
end Go.Proofs.YtegidbdgneecmaaDoor
