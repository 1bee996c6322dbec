/- The play of a view: the program's. -/
import Derived.Test.YtkjkbcfifhakkaaPlayApi
import Derived.Deep.RegionLaw
import Derived.Deep.RegionHeld3
import Derived.Deep.DeepCutAuto
namespace Go.Proofs.Ytkjkbcfifhakkaa
open Go.RowKit

/-- append of m one-cell elements, at a step of a region that draws its order. -/
theorem step_app {P : Program} {w : World} {ops : Array Oper} {o : Oper} {a : Act} {K : Act → World → Prop} {Q : Exit → Act → World → Prop} {E : Prop} (hgd : o.guard = none) (s x : Operand) (t : TypeId)
    (ho : o.op = .call { callee := .builtin .append, args := #[s, x], argTypes := #[t, t] })
    (base : Nat) (e : TypeId) (z : Value) (bytes : Nat) (ht : P.underlying t = some (.slice e)) (hi : (P.info? e).map (fun i => (i.zero, i.size, i.bytes)) = some (some z, 1, bytes)) (hzs : z.cells.size = 1)
    (A0 : Option Addr) (cap0 n : Nat) (xs : List Value) (hs : a.eval s = .slice A0 n cap0) (hown : w.ownsRow base e 1 (.slice A0 n cap0) n xs)
    (A : Option Addr) (m c : Nat) (f : Nat → Value) (hx : a.eval x = .slice A m c) (F : Nat → Prop) (hr : Sl w F A m f) (h1 : ∀ j, j < m → (f j).oneCell' = true)
    (h63 : n + m ≤ maxLen) (hbytes : (n + m) * bytes ≤ 140737488355328) (hbase : base ≤ w.heap.size)
    (h : ∀ A' cap w', w'.ownsRow base e 1 (.slice A' (n + m) cap) (n + m) (xs ++ (List.range m).map f) → w.grownBy w' (Value.slice A0 n cap0).ownBlock →
      ((Value.slice A' (n + m) cap).ownBlock = (Value.slice A0 n cap0).ownBlock ∨ (Value.slice A' (n + m) cap).ownBlock = some w.heap.size) → K (a.put o.dst (.slice A' (n + m) cap)) w') :
    if Region.wanted o (yielded ops a.tmps) = true then Oper.wp P o a w K Q else E := by
  have hw : Region.wanted o (yielded ops a.tmps) = true := by simp [Region.wanted, hgd]
  rw [if_pos hw]
  obtain ⟨i, hi, hz, h1s, hb⟩ := info_parts hi
  obtain ⟨A', cap, w', hrun, h2, h3, h4⟩ := run_app (P := P) w base t o.type e i z bytes ht hi hz h1s hb hzs A0 cap0 n xs hown A m c f F hr h1 h63 hbytes hbase
  unfold Oper.wp execOp
  simp only [ho, resolve, invoke, builtin, Sem.run_bind, Sem.run_pure, Result.andThen_ok, List.map_toArray, List.map_cons, List.map_nil, hs, hx, hrun]
  exact h A' cap w' h2 h3 h4

/-- Where a play is made: the one that came in, the result's place, the new one (block y). -/
def PInv (w wr : World) (y : Nat) (a : Value) (b : Value) (ms : List (List UInt8)) (ps : List Int) (A : Option Addr) (cA : Nat) (B : Option Addr) (cB : Nat) : Prop :=
  Blk wr w.heap.size 26 #[a, b] ∧ Blk wr (w.heap.size + 1) 26 #[.slice none 0 0, .slice none 0 0] ∧ Blk wr y 26 #[.slice A ms.length cA, .slice B ps.length cB] ∧
    wr.ownsRow w.heap.size 9 1 (.slice A ms.length cA) ms.length (ms.map strv) ∧ wr.ownsRow w.heap.size 3 1 (.slice B ps.length cB) ps.length (ps.map intv) ∧ w.grownBy wr none ∧ w.heap.size + 1 < y

section
variable {w wr : World} {y : Nat} {a b : Value} {ms : List (List UInt8)} {ps : List Int} {A : Option Addr} {cA : Nat} {B : Option Addr} {cB : Nat}
/-- A block of another type is no row of one's own. -/
theorem own_far {e e' : TypeId} {base n : Nat} {v : Value} {xs : List Value} (h : wr.ownsRow base e 1 v n xs) {g : Nat} {cs : Array Value} (hb : Blk wr g e' cs) (he : e ≠ e') : some g ≠ v.ownBlock := fun e1 => by
  obtain ⟨c2, k2⟩ := own_ty h e1.symm
  unfold Blk at hb k2
  rw [hb] at k2
  injection k2 with k2
  injection k2 with _ k3 _
  exact he k3.symm
theorem own_setty {e e' : TypeId} {base n : Nat} {v : Value} {xs : List Value} (h : wr.ownsRow base e 1 v n xs) {p : Addr} {cs : Array Value} (hb : Blk wr p.block e' cs) (he : e ≠ e') (u : Value) : (wr.setCell p u).ownsRow base e 1 v n xs :=
  own_keep2 h (gr_set (gr_refl wr (some p.block)) (.inl rfl) u) (fun g hg _ e1 => own_far h hb he (by rw [hg, ← e1]))

theorem PInv.keep {w2 : World} (h : PInv w wr y a b ms ps A cA B cB) (hg : wr.grownBy w2 none) : PInv w w2 y a b ms ps A cA B cB := by
  obtain ⟨h1, h2, h3, h4, h5, h6, h7⟩ := h
  exact ⟨h1.grown0 hg, h2.grown0 hg, h3.grown0 hg, own_keep h4 hg, own_keep h5 hg, gr_trans h6 hg, h7⟩

/-- A move more. -/
theorem PInv.str {m : List UInt8} {w3 : World} {A' : Option Addr} {c' : Nat} (h : PInv w wr y a b ms ps A cA B cB) (hg : wr.grownBy w3 (Value.slice A ms.length cA).ownBlock)
    (ho : w3.ownsRow w.heap.size 9 1 (.slice A' (ms.length + 1) c') (ms.length + 1) (ms.map strv ++ [strv m])) :
    PInv w (w3.setCell ⟨y, 0, none⟩ (.slice A' (ms.length + 1) c')) y a b (ms ++ [m]) ps A' c' B cB := by
  obtain ⟨h1, h2, h3, h4, h5, h6, h7⟩ := h
  have hl : (ms ++ [m]).length = ms.length + 1 := by simp
  have k5 := own_keep2 h5 hg (fun g hgg _ => own_ne h5 h4 (by decide) hgg)
  have b3 := h3.grown hg (own_far h4 h3 (by decide))
  refine ⟨(h1.grown hg (own_far h4 h1 (by decide))).other (p := ⟨y, 0, none⟩) (by show w.heap.size ≠ y; omega) _, (h2.grown hg (own_far h4 h2 (by decide))).other (p := ⟨y, 0, none⟩) (by show w.heap.size + 1 ≠ y; omega) _, ?_, ?_, own_setty k5 (p := ⟨y, 0, none⟩) b3 (by decide) _, ?_, h7⟩
  · rw [hl]
    exact b3.set 0 _
  · rw [hl, List.map_append]
    exact own_setty ho (p := ⟨y, 0, none⟩) b3 (by decide) _
  · exact gr_set (gr_own h6 h4 hg) (.inr (by show w.heap.size ≤ y; omega)) _
/-- A pointer more. -/
theorem PInv.int {x : Int} {w3 : World} {B' : Option Addr} {d' : Nat} (h : PInv w wr y a b ms ps A cA B cB) (hg : wr.grownBy w3 (Value.slice B ps.length cB).ownBlock)
    (ho : w3.ownsRow w.heap.size 3 1 (.slice B' (ps.length + 1) d') (ps.length + 1) (ps.map intv ++ [intv x])) :
    PInv w (w3.setCell ⟨y, 1, none⟩ (.slice B' (ps.length + 1) d')) y a b ms (ps ++ [x]) A cA B' d' := by
  obtain ⟨h1, h2, h3, h4, h5, h6, h7⟩ := h
  have hl : (ps ++ [x]).length = ps.length + 1 := by simp
  have k4 := own_keep2 h4 hg (fun g hgg _ => own_ne h4 h5 (by decide) hgg)
  have b3 := h3.grown hg (own_far h5 h3 (by decide))
  refine ⟨(h1.grown hg (own_far h5 h1 (by decide))).other (p := ⟨y, 1, none⟩) (by show w.heap.size ≠ y; omega) _, (h2.grown hg (own_far h5 h2 (by decide))).other (p := ⟨y, 1, none⟩) (by show w.heap.size + 1 ≠ y; omega) _, ?_, own_setty k4 (p := ⟨y, 1, none⟩) b3 (by decide) _, ?_, ?_, h7⟩
  · rw [hl]
    exact b3.set 1 _
  · rw [hl, List.map_append]
    exact own_setty ho (p := ⟨y, 1, none⟩) b3 (by decide) _
  · exact gr_set (gr_own h6 h5 hg) (.inr (by show w.heap.size ≤ y; omega)) _
/-- The new play, copied into the result's place. -/
theorem PInv.done (h : PInv w wr y a b ms ps A cA B cB) (u v : Value) : PlO ((wr.setCell ⟨w.heap.size + 1, 0, none⟩ u).setCell ⟨w.heap.size + 1, 1, none⟩ v) w.heap.size ⟨ms, ps⟩ A cA B cB ∧
    ((wr.setCell ⟨w.heap.size + 1, 0, none⟩ u).setCell ⟨w.heap.size + 1, 1, none⟩ v).cell? ⟨w.heap.size + 1, 0, none⟩ = some u ∧ ((wr.setCell ⟨w.heap.size + 1, 0, none⟩ u).setCell ⟨w.heap.size + 1, 1, none⟩ v).cell? ⟨w.heap.size + 1, 1, none⟩ = some v ∧
    w.grownBy ((wr.setCell ⟨w.heap.size + 1, 0, none⟩ u).setCell ⟨w.heap.size + 1, 1, none⟩ v) none := by
  obtain ⟨h1, h2, h3, h4, h5, h6, h7⟩ := h
  have g1 := h2.set 0 u
  have g2 := g1.set 1 v
  simp only [List.setIfInBounds_toArray, List.set_cons_zero, List.set_cons_succ] at g1 g2
  exact ⟨⟨own_setty (own_setty h4 (p := ⟨w.heap.size + 1, 0, none⟩) h2 (by decide) u) (p := ⟨w.heap.size + 1, 1, none⟩) g1 (by decide) v, own_setty (own_setty h5 (p := ⟨w.heap.size + 1, 0, none⟩) h2 (by decide) u) (p := ⟨w.heap.size + 1, 1, none⟩) g1 (by decide) v⟩,
    g2.cell 0, g2.cell 1, gr_set (gr_set h6 (.inr (Nat.le_succ _)) u) (.inr (Nat.le_succ _)) v⟩
end

set_option maxRecDepth 100000 in
set_option maxHeartbeats 2000000 in
theorem part_any (p : Pl) (A : Option Addr) (cA : Nat) (B : Option Addr) (cB : Nat) (G : Nat → Prop) (w : World) (h : PlS w G p A B) (hll : p.ps.length = p.ms.length) (h60 : p.ms.length ≤ 60) (V : List Nat) (C : Option Addr) (cC : Nat) (F : Nat → Prop) (hC : Sl w F C V.length (iv (V.map fun k : Nat => (k : Int)))) (hV : ∀ v ∈ V, v < p.ms.length) (hVl : V.length ≤ 1000) :
    Calls Try.prog 39 #[.agg #[.slice A p.ms.length cA, .slice B p.ps.length cB], .slice C V.length cC] w fun e w' => ∃ A' c' B' d', e = .returned (.agg #[.slice A' (p.part V).ms.length c', .slice B' (p.part V).ps.length d']) ∧ PlO w' w.heap.size (p.part V) A' c' B' d' ∧ w.grownBy w' none := by
  have hi0 : PInv w (((w.alloc (.cells #[.slice A p.ms.length cA, .slice B p.ps.length cB] 26)).alloc (.cells #[.slice none 0 0, .slice none 0 0] 26)).alloc (.cells #[.slice none 0 0, .slice none 0 0] 26)) (w.heap.size + 1 + 1) (.slice A p.ms.length cA) (.slice B p.ps.length cB) [] [] none 0 none 0 := by
    have e2 := Blk.new ((w.alloc (.cells #[.slice A p.ms.length cA, .slice B p.ps.length cB] 26)).alloc (.cells #[.slice none 0 0, .slice none 0 0] 26)) 26 #[.slice none 0 0, .slice none 0 0]
    have e1 := Blk.new (w.alloc (.cells #[.slice A p.ms.length cA, .slice B p.ps.length cB] 26)) 26 #[.slice none 0 0, .slice none 0 0]
    rw [World.size_alloc, World.size_alloc] at e2
    rw [World.size_alloc] at e1
    exact ⟨((Blk.new w _ _).alloc _).alloc _, e1.alloc _, e2, own_nil _ _ _, own_nil _ _ _, gr_alloc (gr_alloc (World.grownBy_alloc _ _ _) _) _, by omega⟩
  have hidx := Lib.hid (fun (W : World) (hW : w.grownBy W none) (x : Int) => by
    have h := index_any (V.map fun k : Nat => (k : Int)) x C cC F W (by rw [List.length_map]; exact hC.grown0 hW) (by rw [List.length_map]; omega)
    rw [List.length_map, idxI_map] at h
    exact h)
  obtain ⟨hA, hB⟩ := h
  have hVh := Lib.hid hV
  have hllh := Lib.hid hll
  rw [hll] at hB hi0 ⊢
  clear hV hll
  go_enter Try.func39, Try.ntmps39
  go_wp2_with fail
  go_loopw [10] (fun i wr => ∃ (k : Nat) (A' : Option Addr) (c' : Nat) (B' : Option Addr) (d' : Nat), k ≤ V.length ∧ i = .int .i64 (k : Int) ∧ PInv w wr (w.heap.size + 1 + 1) (.slice A p.ms.length cA) (.slice B p.ms.length cB) ((V.take k).map p.mv) ((V.take k).map fun v => Pl.idx V (p.pt v)) A' c' B' d') (fun i _ => V.length - (intOf i).toNat)
  case atStart => exact ⟨0, none, 0, none, 0, Nat.zero_le _, rfl, hi0⟩
  case round =>
    obtain ⟨k, A', c', B', d', hkl, rfl, hI⟩ := hrel
    obtain ⟨i1, i2, i3, i4, i5, i6, _⟩ := id hI
    have hIh := Lib.hid hI
    clear hI
    have x0 := i1.cell 0
    have x1 := i1.cell 1
    have y0 := i3.cell 0
    have y1 := i3.cell 1
    simp only [List.getElem?_toArray, List.getElem?_cons_zero, List.getElem?_cons_succ] at x0 x1 y0 y1
    by_cases hlt : k < V.length
    · obtain ⟨gC, oC, rfl, _, hcC⟩ := (hC.grown0 i6) (by omega)
      have cC1 := hcC k hlt
      rw [iv_lt _ (by simpa using hlt)] at cC1
      simp only [List.getElem_map] at cC1
      have hvl := hVh.out _ (List.getElem_mem hlt)
      have hsn := Lib.hid (Ty.take_snoc (List.getElem?_eq_getElem hlt))
      have hpv : V[k] < p.ps.length := by rw [hllh.out]; exact hvl
      obtain ⟨g, o1, rfl, _, hcA⟩ := (hA.grown0 i6) (by omega)
      obtain ⟨g2, o2, rfl, _, hcB⟩ := (hB.grown0 i6) (by omega)
      have c1 := hcA _ hvl
      rw [sv_lt p.ms hvl, ← mv_lt hvl] at c1
      have c2 := hcB _ hvl
      rw [iv_lt p.ps hpv, ← pt_lt hpv] at c2
      have hix := Lib.hid (fun W hW => hidx.out W hW (p.pt V[k]))
      have hcB2 := Lib.hid (fun (W : World) (hW : w.grownBy W none) => show W.cell? ⟨g2, o2 + V[k], none⟩ = some (.int .i64 (p.pt V[k])) by
        have h := (hB.grown0 hW).at_ hvl
        rw [iv_lt p.ps hpv, ← pt_lt hpv] at h
        exact h)
      have hms : ((V.take k).map p.mv).length ≤ 1000 := by simp; omega
      have hps : ((V.take k).map fun v => Pl.idx V (p.pt v)).length ≤ 1000 := by simp; omega
      have hms' := Lib.hid (show (V.take (k + 1)).map p.mv = (V.take k).map p.mv ++ [p.mv V[k]] by rw [hsn.out, List.map_append]; rfl)
      have hps' := Lib.hid (show ((V.take (k + 1)).map fun v => Pl.idx V (p.pt v)) = ((V.take k).map fun v => Pl.idx V (p.pt v)) ++ [Pl.idx V (p.pt V[k])] by rw [hsn.out, List.map_append]; rfl)
      clear hcC hcA hcB hsn
      generalize (V.take k).map p.mv = ms at *
      generalize ((V.take k).map fun v => Pl.idx V (p.pt v)) = ps at *
      generalize p.mv V[k] = m at *
      generalize hyy : Pl.idx V (p.pt V[k]) = y at *
      clear hyy
      generalize p.pt V[k] = x at *
      generalize V[k] = v at *
      have hv0 : 0 ≤ (v : Int) := by omega
      have hv1 : (v : Int) < (p.ms.length : Int) := by omega
      have hownA := own_keep i4 (gr_alloc (gr_drew (gr_refl wr none)) (.cells #[.string ⟨m.toArray⟩] 9))
      have hslA := sl_one wr.drew 9 (.string ⟨m.toArray⟩)
      have hlt3 := i3.lt
      have hbaseA : w.heap.size ≤ (wr.drew.alloc (.cells #[.string ⟨m.toArray⟩] 9)).heap.size := by rw [World.size_alloc]; exact Nat.le_succ_of_le i6.size
      go_upto_region 5 with fail
      go_cut [] (fun wx => ∃ (A'' : Option Addr) (c'' : Nat), PInv w wx (w.heap.size + 1 + 1) (.slice (some ⟨g, o1, none⟩) p.ms.length cA) (.slice (some ⟨g2, o2, none⟩) p.ms.length cB) (ms ++ [m]) ps A'' c'' B' d')
      case first =>
        go_region_law ((refine step_app (by rfl) _ _ 23 (by rfl) w.heap.size 9 (.string ⟨#[]⟩) 16 Try.underlying23 info_str rfl _ _ _ _ (by rfl) hownA _ 1 1 _ (by rfl) _ hslA (fun _ _ => rfl) (by unfold maxLen; omega) (by omega) hbaseA ?_; intro A'' c'' w3 hown3 hg3 hat3; have hG3 := gr_trans (gr_weak (gr_alloc (gr_drew (gr_refl wr none)) (.cells #[.string ⟨m.toArray⟩] 9)) _) hg3; have hy3 := i3.grown hG3 (own_far i4 i3 (by decide)); have yc := hy3.cell 0; have yf := hy3.free 0; have ylt := hy3.lt; simp only [List.getElem?_toArray, List.getElem?_cons_zero] at yc; clear hy3))
        all_goals (go_wp2_with fail; go_meet; exact ⟨A'', c'', PInv.str hIh.out hG3 hown3⟩)
      case rest =>
        clear i1 i2 i3 i4 i5 x0 x1 y0 y1 c1 c2 hownA hslA hbaseA hlt3
        obtain ⟨A3, c3, hI3⟩ := hcut
        obtain ⟨i1, i2, i3, i4, i5, i6', _⟩ := id hI3
        have hI3h := Lib.hid hI3
        clear hI3
        have x1 := i1.cell 1
        have y1 := i3.cell 1
        simp only [List.getElem?_toArray, List.getElem?_cons_zero, List.getElem?_cons_succ] at x1 y1
        have c2 := hcB2.out wc i6'
        have hownB := own_keep i5 (gr_alloc (gr_drew (gr_refl wc none)) (.cells #[.int .i64 y] 3))
        have hslB := sl_one wc.drew 3 (.int .i64 y)
        have hlt3 := i3.lt
        have hbaseB : w.heap.size ≤ (wc.drew.alloc (.cells #[.int .i64 y] 3)).heap.size := by rw [World.size_alloc]; exact Nat.le_succ_of_le i6'.size
        go_upto_region 6 with fail
        go_region_law (first
          | (refine step_app (by rfl) _ _ 24 (by rfl) w.heap.size 3 (.int .i64 0) 8 Try.underlying24 info_int rfl _ _ _ _ (by rfl) hownB _ 1 1 _ (by rfl) _ hslB (fun _ _ => rfl) (by unfold maxLen; omega) (by omega) hbaseB ?_; intro B'' d'' w3 hown3 hg3 hat3; have hG3 := gr_trans (gr_weak (gr_alloc (gr_drew (gr_refl wc none)) (.cells #[.int .i64 y] 3)) _) hg3; have hy3 := i3.grown hG3 (own_far i5 i3 (by decide)); have yc := hy3.cell 1; have yf := hy3.free 1; have ylt := hy3.lt; simp only [List.getElem?_toArray, List.getElem?_cons_zero, List.getElem?_cons_succ] at yc; clear hy3)
          | (rw [if_pos (by rfl)]; go_simp; go_at_call 58; refine (hix.out _ (by first | exact i6' | exact gr_drew i6' | exact gr_alloc (gr_drew i6') _)).mono ?_; rintro e w' ⟨rfl, rfl⟩))
        all_goals
          have hI4h := Lib.hid (PInv.int hI3h.out hG3 hown3)
          clear i1 i2 i3 i4 i5 x1 y1 c2 hownB hslB hbaseB hlt3 hown3 hG3 hg3 hat3 yc yf ylt
          go_wp2_with fail
          go_roundw
          case rel => exact ⟨k + 1, A3, c3, B'', d'', by omega, by go_num, by rw [hms'.out, hps'.out]; exact hI4h.out⟩
          case measure => simp [intOf]; omega
    · obtain rfl : k = V.length := by omega
      rw [List.take_length] at hIh i3 i4 i5
      have e1 : (p.part V).ms.length = V.length := by simp [Pl.part]
      have e2 : (p.part V).ps.length = V.length := by simp [Pl.part]
      have e1h := Lib.hid e1
      have e2h := Lib.hid e2
      rw [List.length_map, List.length_map] at i3
      have y0 := i3.cell 0
      have y1 := i3.cell 1
      have z0 := i2.cell 0
      have z1 := i2.cell 1
      have zf0 := i2.free 0
      have zf1 := i2.free 1
      have zlt := i2.lt
      simp only [List.getElem?_toArray, List.getElem?_cons_zero, List.getElem?_cons_succ] at z0 z1 y0 y1
      obtain ⟨hO2, u0, u1, hg6⟩ := hIh.out.done (.slice A' V.length c') (.slice B' V.length d')
      have u0h := Lib.hid u0
      have u1h := Lib.hid u1
      have hO2h := Lib.hid hO2
      clear u0 u1 e1 e2 hO2 i3 i4 i5
      go_wp2_with fail
      refine bodyPost_ret (v := .agg #[.slice A' V.length c', .slice B' V.length d']) (by simp [results, Try.results39, go_sem, u0h.out, u1h.out]) rfl ⟨A', c', B', d', by rw [e1h.out, e2h.out], hO2h.out, hg6⟩
end Go.Proofs.Ytkjkbcfifhakkaa
