/- The play of a view: the reference's. -/
import Derived.Test.YtkjkbcfifhakkaaPlayPart
namespace Go.Proofs.Ytkjkbcfifhakkaa
open Go.RowKit

/-- The last place below k of a number in a list, -1 for none. -/
def lst (V : List Nat) (x : Int) : Nat → Int
  | 0 => -1
  | j + 1 => if (V.getD j 0 : Int) = x then (j : Int) else lst V x j
theorem lst_none {V : List Nat} {x : Int} : ∀ k, (∀ i, i < k → (V.getD i 0 : Int) ≠ x) → lst V x k = -1
  | 0, _ => rfl
  | k + 1, h => by
    show (if (V.getD k 0 : Int) = x then (k : Int) else lst V x k) = -1
    rw [if_neg (h k (by omega)), lst_none k fun i hi => h i (by omega)]
theorem lst_some {V : List Nat} {x : Int} {i : Nat} (hi : (V.getD i 0 : Int) = x) : ∀ k, i < k → (∀ j, j < k → (V.getD j 0 : Int) = x → j = i) → lst V x k = (i : Int)
  | 0, h, _ => absurd h (by omega)
  | k + 1, h, hu => by
    show (if (V.getD k 0 : Int) = x then (k : Int) else lst V x k) = (i : Int)
    by_cases h1 : (V.getD k 0 : Int) = x
    · rw [if_pos h1, hu k (by omega) h1]
    · rw [if_neg h1]
      refine lst_some hi k ?_ fun j hj => hu j (by omega)
      rcases Nat.lt_or_ge i k with h2 | h2
      · exact h2
      · obtain rfl : i = k := by omega
        exact absurd hi h1
theorem lst_idx {V : List Nat} (hs : V.Pairwise (· < ·)) {k : Nat} (hk : k < V.length) {x : Int} (hx : x < (V[k] : Int)) : lst V x k = Pl.idx V x := by
  have hg : ∀ i, i < V.length → V.getD i 0 = V[i]! := fun i hi => by simp [List.getD, hi]
  have hge : ∀ i (h : i < V.length), V.getD i 0 = V[i] := fun i hi => by simp [List.getD, hi]
  by_cases h : ∃ i, ∃ _ : i < V.length, (V[i] : Int) = x
  · obtain ⟨i, hi, he⟩ := h
    have hik : i < k := by
      rcases Nat.lt_or_ge i k with h2 | h2
      · exact h2
      · rcases Nat.eq_or_lt_of_le h2 with h3 | h3
        · subst h3; omega
        · have := List.pairwise_iff_getElem.1 hs k i hk hi h3
          omega
    rw [lst_some (i := i) (by rw [hge i hi]; exact he) k hik, ← he]
    · exact (Pl.idx_some hs hi).symm
    · intro j hj h1
      rw [hge j (by omega)] at h1
      rcases Nat.lt_trichotomy i j with h2 | h2 | h2
      · have := List.pairwise_iff_getElem.1 hs i j hi (by omega) h2
        omega
      · exact h2.symm
      · have := List.pairwise_iff_getElem.1 hs j i (by omega) hi h2
        omega
  · rw [lst_none k, Pl.idx_none]
    · intro v hv he
      obtain ⟨i, hi, rfl⟩ := List.mem_iff_getElem.1 hv
      exact h ⟨i, hi, he⟩
    · intro i hi he
      rw [hge i (by omega)] at he
      exact h ⟨i, by omega, he⟩

set_option maxRecDepth 100000 in
set_option maxHeartbeats 2000000 in
theorem l2Part_any (p : Pl) (A : Option Addr) (cA : Nat) (B : Option Addr) (cB : Nat) (G : Nat → Prop) (w : World) (h : PlS w G p A B) (hll : p.ps.length = p.ms.length) (h60 : p.ms.length ≤ 60) (V : List Nat) (C : Option Addr) (cC : Nat) (F : Nat → Prop) (hC : Sl w F C V.length (iv (V.map fun k : Nat => (k : Int)))) (hV : ∀ v ∈ V, v < p.ms.length) (hpt : ∀ v ∈ V, p.pt v < (v : Int)) (hs : V.Pairwise (· < ·)) (hVl : V.length ≤ 1000) :
    Calls Try.prog 41 #[.agg #[.slice A p.ms.length cA, .slice B p.ps.length cB], .slice C V.length cC] w fun e w' => ∃ A' c' B' d', e = .returned (.agg #[.slice A' (p.part V).ms.length c', .slice B' (p.part V).ps.length d']) ∧ PlO w' w.heap.size (p.part V) A' c' B' d' ∧ w.grownBy w' none := by
  have hi0 : PInv w (((((w.alloc (.cells #[.slice A p.ms.length cA, .slice B p.ps.length cB] 26)).alloc (.cells #[.slice none 0 0, .slice none 0 0] 26)).alloc (.cells #[] 9)).alloc (.cells #[] 3)).alloc (.cells #[.slice (some ⟨w.heap.size + 1 + 1, 0, none⟩) 0 0, .slice (some ⟨w.heap.size + 1 + 1 + 1, 0, none⟩) 0 0] 26)) (w.heap.size + 1 + 1 + 1 + 1) (.slice A p.ms.length cA) (.slice B p.ps.length cB) [] [] (some ⟨w.heap.size + 1 + 1, 0, none⟩) 0 (some ⟨w.heap.size + 1 + 1 + 1, 0, none⟩) 0 := by
    have e1 := Blk.new (w.alloc (.cells #[.slice A p.ms.length cA, .slice B p.ps.length cB] 26)) 26 #[.slice none 0 0, .slice none 0 0]
    have e2 := own_empty (w := ((w.alloc (.cells #[.slice A p.ms.length cA, .slice B p.ps.length cB] 26)).alloc (.cells #[.slice none 0 0, .slice none 0 0] 26))) (base := w.heap.size) 9 (by simp; omega)
    have e3 := own_empty (w := (((w.alloc (.cells #[.slice A p.ms.length cA, .slice B p.ps.length cB] 26)).alloc (.cells #[.slice none 0 0, .slice none 0 0] 26)).alloc (.cells #[] 9))) (base := w.heap.size) 3 (by simp; omega)
    have e4 := Blk.new ((((w.alloc (.cells #[.slice A p.ms.length cA, .slice B p.ps.length cB] 26)).alloc (.cells #[.slice none 0 0, .slice none 0 0] 26)).alloc (.cells #[] 9)).alloc (.cells #[] 3)) 26 #[.slice (some ⟨w.heap.size + 1 + 1, 0, none⟩) 0 0, .slice (some ⟨w.heap.size + 1 + 1 + 1, 0, none⟩) 0 0]
    simp only [World.size_alloc] at e1 e2 e3 e4
    exact ⟨((((Blk.new w _ _).alloc _).alloc _).alloc _).alloc _, ((e1.alloc _).alloc _).alloc _, e4, own_keep e2 (gr_alloc (World.grownBy_alloc _ _ _) _), own_keep e3 (World.grownBy_alloc _ _ _), gr_alloc (gr_alloc (gr_alloc (gr_alloc (World.grownBy_alloc _ _ _) _) _) _) _, by omega⟩
  obtain ⟨hA, hB⟩ := h
  have hVh := Lib.hid hV
  have hpth := Lib.hid hpt
  have hsh := Lib.hid hs
  have hllh := Lib.hid hll
  rw [hll] at hB hi0 ⊢
  clear hV hll hpt hs
  go_enter Try.func41, Try.ntmps41
  go_wp2_with fail
  go_loopw [6] (fun i wr => ∃ (k : Nat) (A' : Option Addr) (c' : Nat) (B' : Option Addr) (d' : Nat), k ≤ V.length ∧ i = .int .i64 (k : Int) ∧ PInv w wr (w.heap.size + 1 + 1 + 1 + 1) (.slice A p.ms.length cA) (.slice B p.ms.length cB) ((V.take k).map p.mv) ((V.take k).map fun v => Pl.idx V (p.pt v)) A' c' B' d') (fun i _ => V.length - (intOf i).toNat)
  case atStart => exact ⟨0, _, 0, _, 0, Nat.zero_le _, rfl, hi0⟩
  case round =>
    obtain ⟨k, A', c', B', d', hkl, rfl, hI⟩ := hrel
    obtain ⟨i1, i2, i3, i4, i5, i6, _⟩ := id hI
    have hIh := Lib.hid hI
    clear hI
    have x0 := i1.cell 0
    have x1 := i1.cell 1
    have y0 := i3.cell 0
    have y1 := i3.cell 1
    simp only [List.getElem?_toArray, List.getElem?_cons_zero, List.getElem?_cons_succ] at x0 x1 y0 y1
    by_cases hlt : k < V.length
    · obtain ⟨gC, oC, rfl, _, hcC⟩ := (hC.grown0 i6) (by omega)
      have cC1 := hcC k hlt
      rw [iv_lt _ (by simpa using hlt)] at cC1
      simp only [List.getElem_map] at cC1
      have hvl := hVh.out _ (List.getElem_mem hlt)
      have hsn := Lib.hid (Ty.take_snoc (List.getElem?_eq_getElem hlt))
      have hpv : V[k] < p.ps.length := by rw [hllh.out]; exact hvl
      obtain ⟨g, o1, rfl, _, hcA⟩ := (hA.grown0 i6) (by omega)
      obtain ⟨g2, o2, rfl, _, hcB⟩ := (hB.grown0 i6) (by omega)
      have c1 := hcA _ hvl
      rw [sv_lt p.ms hvl, ← mv_lt hvl] at c1
      have c2 := hcB _ hvl
      rw [iv_lt p.ps hpv, ← pt_lt hpv] at c2
      have hlst := Lib.hid (lst_idx hsh.out hlt (hpth.out _ (List.getElem_mem hlt)))
      have hcV := Lib.hid (fun (W : World) (hW : w.grownBy W none) (j : Nat) (hj : j < V.length) => show W.cell? ⟨gC, oC + j, none⟩ = some (.int .i64 (V.getD j 0 : Nat)) by
        have h := (hC.grown0 hW).at_ hj
        rw [iv_lt _ (by simpa using hj)] at h
        simp only [List.getElem_map] at h
        rw [h]
        simp [List.getD, hj])
      have hVg : V.getD k 0 = V[k] := by simp [List.getD, hlt]
      have hcB2 := Lib.hid (fun (W : World) (hW : w.grownBy W none) => show W.cell? ⟨g2, o2 + V[k], none⟩ = some (.int .i64 (p.pt V[k])) by
        have h := (hB.grown0 hW).at_ hvl
        rw [iv_lt p.ps hpv, ← pt_lt hpv] at h
        exact h)
      have hms : ((V.take k).map p.mv).length ≤ 1000 := by simp; omega
      have hps : ((V.take k).map fun v => Pl.idx V (p.pt v)).length ≤ 1000 := by simp; omega
      have hms' := Lib.hid (show (V.take (k + 1)).map p.mv = (V.take k).map p.mv ++ [p.mv V[k]] by rw [hsn.out, List.map_append]; rfl)
      have hps' := Lib.hid (show ((V.take (k + 1)).map fun v => Pl.idx V (p.pt v)) = ((V.take k).map fun v => Pl.idx V (p.pt v)) ++ [Pl.idx V (p.pt V[k])] by rw [hsn.out, List.map_append]; rfl)
      clear hcC hcA hcB hsn
      generalize (V.take k).map p.mv = ms at *
      generalize ((V.take k).map fun v => Pl.idx V (p.pt v)) = ps at *
      generalize p.mv V[k] = m at *
      generalize Pl.idx V (p.pt V[k]) = y at *
      generalize p.pt V[k] = x at *
      generalize V[k] = v at *
      have hVgh := Lib.hid hVg
      clear hVg
      have hv0 : 0 ≤ (v : Int) := by omega
      have hv1 : (v : Int) < (p.ms.length : Int) := by omega
      have hk0 : 0 ≤ (k : Int) := by omega
      have hk1 : (k : Int) < (V.length : Int) := by omega
      have hownA := own_keep i4 (gr_alloc (gr_drew (gr_refl wr none)) (.cells #[.string ⟨m.toArray⟩] 9))
      have hslA := sl_one wr.drew 9 (.string ⟨m.toArray⟩)
      have hlt3 := i3.lt
      have hbaseA : w.heap.size ≤ (wr.drew.alloc (.cells #[.string ⟨m.toArray⟩] 9)).heap.size := by rw [World.size_alloc]; exact Nat.le_succ_of_le i6.size
      go_upto_region 5 with fail
      go_cut [] (fun wx => ∃ (A'' : Option Addr) (c'' : Nat), PInv w wx (w.heap.size + 1 + 1 + 1 + 1) (.slice (some ⟨g, o1, none⟩) p.ms.length cA) (.slice (some ⟨g2, o2, none⟩) p.ms.length cB) (ms ++ [m]) ps A'' c'' B' d')
      case first =>
        go_region_law ((refine step_app (by rfl) _ _ 23 (by rfl) w.heap.size 9 (.string ⟨#[]⟩) 16 Try.underlying23 info_str rfl _ _ _ _ (by rfl) hownA _ 1 1 _ (by rfl) _ hslA (fun _ _ => rfl) (by unfold maxLen; omega) (by omega) hbaseA ?_; intro A'' c'' w3 hown3 hg3 hat3; have hG3 := gr_trans (gr_weak (gr_alloc (gr_drew (gr_refl wr none)) (.cells #[.string ⟨m.toArray⟩] 9)) _) hg3; have hy3 := i3.grown hG3 (own_far i4 i3 (by decide)); have yc := hy3.cell 0; have yf := hy3.free 0; have ylt := hy3.lt; simp only [List.getElem?_toArray, List.getElem?_cons_zero] at yc; clear hy3))
        all_goals (go_wp2_with fail; go_meet; exact ⟨A'', c'', PInv.str hIh.out hG3 hown3⟩)
      case rest =>
        clear i1 i2 i3 i4 i5 x0 x1 y0 y1 c1 c2 hownA hslA hbaseA hlt3
        obtain ⟨A3, c3, hI3⟩ := hcut
        obtain ⟨i1, i2, i3, i4, i5, i6', _⟩ := id hI3
        have hI3h := Lib.hid hI3
        clear hI3
        have x1 := i1.cell 1
        have y1 := i3.cell 1
        simp only [List.getElem?_toArray, List.getElem?_cons_zero, List.getElem?_cons_succ] at x1 y1
        have c2 := hcB2.out wc i6'
        obtain ⟨wo, rfl⟩ : ∃ wo : World, wo = wc := ⟨_, rfl⟩
        go_wp2_with fail
        go_loopw [7, 8] (fun u i wr => ∃ (j : Nat), j ≤ k ∧ i = .int .i64 (j : Int) ∧ u = .int .i64 (lst V x j) ∧ wo.grownBy wr none) (fun _ i _ => k - (intOf i).toNat)
        case atStart => exact ⟨0, Nat.zero_le _, rfl, rfl, gr_refl _ _⟩
        case round =>
          obtain ⟨j, hjk, rfl, rfl, hgj⟩ := hrel
          have gwj := gr_trans i6' hgj
          have ij1 := i1.grown0 hgj
          have x1j := ij1.cell 1
          simp only [List.getElem?_toArray, List.getElem?_cons_zero, List.getElem?_cons_succ] at x1j
          by_cases hlj : j < k
          · have c2j := hcB2.out wr gwj
            have v1 := hcV.out wr gwj j (by omega)
            have v2 := hcV.out wr gwj k hlt
            rw [hVgh.out] at v2
            have hj0 : 0 ≤ (j : Int) := by omega
            have hj1 : (j : Int) < (V.length : Int) := by omega
            by_cases he : ((V.getD j 0 : Nat) : Int) = x
            · have hst := Lib.hid (show lst V x (j + 1) = (j : Int) from if_pos he)
              have e1 : (((V.getD j 0 : Nat) : Int) == x) = true := beq_iff_eq.2 he
              clear he
              generalize V.getD j 0 = u at *
              generalize lst V x j = z at *
              go_wp2_with fail
              go_quiet (fail)
              go_wp2_with fail
              go_roundw
              case rel => exact ⟨j + 1, by omega, by go_num, by rw [hst.out], gr_drewN hgj _⟩
              case measure => simp [intOf]; omega
            · have hst := Lib.hid (show lst V x (j + 1) = lst V x j from if_neg he)
              have e1 : (((V.getD j 0 : Nat) : Int) == x) = false := beq_eq_false_iff_ne.2 he
              clear he
              generalize V.getD j 0 = u at *
              generalize lst V x j = z at *
              go_wp2_with fail
              go_quiet (fail)
              go_wp2_with fail
              go_roundw
              case rel => exact ⟨j + 1, by omega, by go_num, by rw [hst.out], gr_drewN hgj _⟩
              case measure => simp [intOf]; omega
          · obtain rfl : j = k := by omega
            rw [hlst.out]
            have hIj := hI3h.out.keep hgj
            have hIjh := Lib.hid hIj
            obtain ⟨_, _, j3, _, j5, j6, _⟩ := hIj
            have y1j := j3.cell 1
            simp only [List.getElem?_toArray, List.getElem?_cons_zero, List.getElem?_cons_succ] at y1j
            have hownB := own_keep j5 (World.grownBy_alloc wr (.cells #[.int .i64 y] 3) none)
            have hslB := sl_one wr 3 (.int .i64 y)
            have hbaseB : w.heap.size ≤ (wr.alloc (.cells #[.int .i64 y] 3)).heap.size := by rw [World.size_alloc]; exact Nat.le_succ_of_le j6.size
            clear i1 i3 i4 i5 x1 y1 c2
            go_wp2_with (at_builtin; refine wpList_app rfl _ _ 24 rfl w.heap.size 3 (.int .i64 0) 8 Try.underlying24 info_int rfl _ _ _ _ rfl hownB _ 1 1 _ rfl _ hslB (fun _ _ => rfl) (by unfold maxLen; omega) (by omega) hbaseB ?_; intro B'' d'' w3 hown3 hg3 hat3; have hG3 := gr_trans (gr_weak (World.grownBy_alloc wr (.cells #[.int .i64 y] 3) none) _) hg3; have hy3 := j3.grown hG3 (own_far j5 j3 (by decide)); have yc := hy3.cell 1; have yf := hy3.free 1; have ylt := hy3.lt; simp only [List.getElem?_toArray, List.getElem?_cons_zero, List.getElem?_cons_succ] at yc; clear hy3)
            have hI4h := Lib.hid (PInv.int hIjh.out hG3 hown3)
            go_roundw
            case rel => exact ⟨j + 1, A3, c3, B'', d'', by omega, by go_num, by rw [hms'.out, hps'.out]; exact hI4h.out⟩
            case measure => simp [intOf]; omega
    · obtain rfl : k = V.length := by omega
      rw [List.take_length] at hIh i3 i4 i5
      have e1 : (p.part V).ms.length = V.length := by simp [Pl.part]
      have e2 : (p.part V).ps.length = V.length := by simp [Pl.part]
      have e1h := Lib.hid e1
      have e2h := Lib.hid e2
      rw [List.length_map, List.length_map] at i3
      have y0 := i3.cell 0
      have y1 := i3.cell 1
      have z0 := i2.cell 0
      have z1 := i2.cell 1
      have zf0 := i2.free 0
      have zf1 := i2.free 1
      have zlt := i2.lt
      simp only [List.getElem?_toArray, List.getElem?_cons_zero, List.getElem?_cons_succ] at z0 z1 y0 y1
      obtain ⟨hO2, u0, u1, hg6⟩ := hIh.out.done (.slice A' V.length c') (.slice B' V.length d')
      have u0h := Lib.hid u0
      have u1h := Lib.hid u1
      have hO2h := Lib.hid hO2
      clear u0 u1 e1 e2 hO2 i3 i4 i5
      go_wp2_with fail
      refine bodyPost_ret (v := .agg #[.slice A' V.length c', .slice B' V.length d']) (by simp [results, Try.results41, go_sem, u0h.out, u1h.out]) rfl ⟨A', c', B', d', by rw [e1h.out, e2h.out], hO2h.out, hg6⟩
end Go.Proofs.Ytkjkbcfifhakkaa
