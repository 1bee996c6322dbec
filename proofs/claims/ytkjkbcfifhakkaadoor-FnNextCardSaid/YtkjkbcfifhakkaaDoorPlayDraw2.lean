/- What is drawn: a type and a play. -/
import Derived.Test.YtkjkbcfifhakkaaDoorPlayDraw
import Derived.Test.YtkjkbcfifhakkaaDoorPlayLoose
import Derived.Deep.RegionWith
namespace Go.Proofs.YtkjkbcfifhakkaaDoor
open Go.RowKit

/-- What is known of a drawn type and play. -/
def Drawn (w w' : World) (r : List UInt8) (p : Pl) (A : Option Addr) (cA : Nat) (B : Option Addr) (cB : Nat) : Prop :=
  r.length ≤ 100 ∧ p.ms.length ≤ 9 ∧ p.ps.length ≤ 9 ∧ (∀ m ∈ p.ms, m.length ≤ 8) ∧ PlS w' (Fr w.heap.size) p A B ∧ p.ms.length ≤ cA ∧ p.ps.length ≤ cB
theorem own_cap {w : World} {base : Nat} {e : TypeId} {A : Option Addr} {n c : Nat} {xs : List Value} (h : w.ownsRow base e 1 (.slice A n c) n xs) : n ≤ c := by
  obtain ⟨hl, ⟨e1, e2⟩ | ⟨g, cap, cur, e1, hb, hr, h1, h2, h3, h4⟩⟩ := h
  · injection e1 with _ e3 e4
    omega
  · injection e1 with _ e3 e4
    omega
theorem drawn_of {w w' : World} {r : List UInt8} {p : Pl} {A B : Option Addr} {cA cB : Nat} (h0 : r.length ≤ 100) (h1 : p.ms.length ≤ 9) (h2 : p.ps.length ≤ 9) (h3 : ∀ m ∈ p.ms, m.length ≤ 8) (h : PlO w' w.heap.size p A cA B cB) : Drawn w w' r p A cA B cB :=
  ⟨h0, h1, h2, h3, h.sl, own_cap h.1, own_cap h.2⟩
theorem legal_small {t : Ty} (ht : t.atoms ≤ 15) {p : Pl} (hp : p.legal t = true) : p.ps.length = p.ms.length ∧ ∀ m ∈ p.ms, m.length ≤ 8 := by
  unfold Pl.legal at hp
  simp only [Bool.and_eq_true] at hp
  have h1 := Pl.ok_iff.1 hp.1
  refine ⟨h1.2.1, fun m hm => ?_⟩
  obtain ⟨i, hi, rfl⟩ := List.mem_iff_getElem.1 hm
  have h2 := isMove_len ht (Pl.ok_mv hp.1 hi).1
  rw [mv_lt hi] at h2
  exact h2
theorem Drawn.small {w w' : World} {r : List UInt8} {p : Pl} {A B : Option Addr} {cA cB : Nat} (h : Drawn w w' r p A cA B cB) : SmallP p := by
  obtain ⟨_, h1, h2, h3, _⟩ := h
  exact ⟨⟨by omega, fun m hm => by have := h3 m hm; omega⟩, by omega⟩

theorem PlO.setPt {w : World} {base g i : Nat} {p : Pl} {A : Option Addr} {cA cB : Nat} (h : PlO w base p A cA (some ⟨g, 0, none⟩) cB) (x : Int) : PlO (w.setCell ⟨g, i, none⟩ (.int .i64 x)) base ⟨p.ms, p.ps.set i x⟩ A cA (some ⟨g, 0, none⟩) cB := by
  obtain ⟨cs, hb⟩ := own_ty h.2 (g := g) rfl
  refine ⟨own_setty h.1 (p := ⟨g, i, none⟩) hb (by decide) _, ?_⟩
  have := own_set h.2 i (.int .i64 x)
  simp only [List.length_set, List.map_set]
  exact this
theorem PlO.setMv {w : World} {base g i : Nat} {p : Pl} {B : Option Addr} {cA cB : Nat} (h : PlO w base p (some ⟨g, 0, none⟩) cA B cB) (m : List UInt8) : PlO (w.setCell ⟨g, i, none⟩ (.string ⟨m.toArray⟩)) base ⟨p.ms.set i m, p.ps⟩ (some ⟨g, 0, none⟩) cA B cB := by
  obtain ⟨cs, hb⟩ := own_ty h.1 (g := g) rfl
  refine ⟨?_, own_setty h.2 (p := ⟨g, i, none⟩) hb (by decide) _⟩
  have := own_set h.1 i (.string ⟨m.toArray⟩)
  simp only [List.length_set, List.map_set]
  exact this
/-- Behind the store into the result's place. -/
theorem drawn_stored {w wr : World} {q : Nat} {r : List UInt8} {p : Pl} {A B : Option Addr} {cA cB : Nat} (h0 : r.length ≤ 100) (h1 : p.ms.length ≤ 9) (h2 : p.ps.length ≤ 9) (h3 : ∀ m ∈ p.ms, m.length ≤ 8) (h : PlS wr (Fr (w.heap.size + 1)) p A B) (hA : p.ms.length ≤ cA) (hB : p.ps.length ≤ cB) (hg : w.grownBy wr (some q)) (hb : Blk wr w.heap.size 26 #[.slice none 0 0, .slice none 0 0]) :
    ∀ wz : World, wz = (wr.setCell ⟨w.heap.size, 0, none⟩ (.slice A p.ms.length cA)).setCell ⟨w.heap.size, 1, none⟩ (.slice B p.ps.length cB) → Drawn w wz r p A cA B cB ∧ w.grownBy wz (some q) ∧ wz.cell? ⟨w.heap.size, 0, none⟩ = some (.slice A p.ms.length cA) ∧ wz.cell? ⟨w.heap.size, 1, none⟩ = some (.slice B p.ps.length cB) := by
  rintro wz rfl
  have hG := gr_set (gr_set (gr_refl wr (some w.heap.size)) (p := ⟨w.heap.size, 0, none⟩) (.inl rfl) (.slice A p.ms.length cA)) (p := ⟨w.heap.size, 1, none⟩) (.inl rfl) (.slice B p.ps.length cB)
  have hbz := (hb.set 0 (.slice A p.ms.length cA)).set 1 (.slice B p.ps.length cB)
  have z0 := hbz.cell 0
  have z1 := hbz.cell 1
  simp at z0 z1
  have kp : ∀ {C : Option Addr} {n : Nat} {f : Nat → Value}, Sl wr (Fr (w.heap.size + 1)) C n f → Sl ((wr.setCell ⟨w.heap.size, 0, none⟩ (.slice A p.ms.length cA)).setCell ⟨w.heap.size, 1, none⟩ (.slice B p.ps.length cB)) (Fr w.heap.size) C n f := fun {C n f} k =>
    (k.keep (fun b hb hl => hG.block b hl fun e => by injection e with e; unfold Fr at hb; omega)).mono (fun b hb _ => by unfold Fr at hb ⊢; omega)
  exact ⟨⟨h0, h1, h2, h3, ⟨kp h.1, kp h.2⟩, hA, hB⟩, gr_set (gr_set hg (.inr (Nat.le_refl _)) _) (.inr (Nat.le_refl _)) _, z0, z1⟩
theorem Drawn.drew {w w' : World} {r : List UInt8} {p : Pl} {A B : Option Addr} {cA cB : Nat} (h : Drawn w w' r p A cA B cB) : Drawn w w'.drew r p A cA B cB := by
  obtain ⟨h0, h1, h2, h3, h4, h5⟩ := h
  exact ⟨h0, h1, h2, h3, h4.grown0 (gr_drew (gr_refl _ _)), h5⟩

theorem drawn_stored_drew {w wr : World} {q : Nat} {r : List UInt8} {p : Pl} {A B : Option Addr} {cA cB : Nat} (h0 : r.length ≤ 100) (h1 : p.ms.length ≤ 9) (h2 : p.ps.length ≤ 9) (h3 : ∀ m ∈ p.ms, m.length ≤ 8) (h : PlS wr (Fr (w.heap.size + 1)) p A B) (hA : p.ms.length ≤ cA) (hB : p.ps.length ≤ cB) (hg : w.grownBy wr (some q)) (hb : Blk wr w.heap.size 26 #[.slice none 0 0, .slice none 0 0]) :
    ∀ wz : World, wz = ((wr.setCell ⟨w.heap.size, 0, none⟩ (.slice A p.ms.length cA)).setCell ⟨w.heap.size, 1, none⟩ (.slice B p.ps.length cB)).drew → Drawn w wz r p A cA B cB ∧ w.grownBy wz (some q) ∧ wz.cell? ⟨w.heap.size, 0, none⟩ = some (.slice A p.ms.length cA) ∧ wz.cell? ⟨w.heap.size, 1, none⟩ = some (.slice B p.ps.length cB) := by
  rintro wz rfl
  obtain ⟨z1, z2, z3, z4⟩ := drawn_stored h0 h1 h2 h3 h hA hB hg hb _ rfl
  exact ⟨z1.drew, gr_drew z2, z3, z4⟩

theorem sl_tail {w : World} {F : Nat → Prop} {g n : Nat} {ps : List Int} (h : Sl w F (some ⟨g, 0, none⟩) n (iv ps)) (hn : ps.length = n) : Sl w F (some ⟨g, 1, none⟩) (n - 1) (iv ps.tail) := fun h0 => by
  obtain ⟨g', o, e, hF, hc⟩ := h (by omega)
  injection e with e
  injection e with e1 e2
  subst e1 e2
  refine ⟨g, 1, rfl, hF, fun i hi => ?_⟩
  have := hc (i + 1) (by omega)
  rw [Nat.zero_add, Nat.add_comm i 1] at this
  rw [this]
  unfold iv
  simp [List.getD, Nat.add_comm 1 i]
def odd5 : List (List UInt8) := [[113], [116, 48], [113, 48, 48], [102], [120]]
theorem odd5_le (x : Nat) : (odd5.getD x []).length ≤ 8 := by
  unfold odd5
  match x with
  | 0 => decide
  | 1 => decide
  | 2 => decide
  | 3 => decide
  | 4 => decide
  | x + 5 => simp [List.getD]
theorem PlO.ptCell {w : World} {base g i : Nat} {p : Pl} {A : Option Addr} {cA cB : Nat} (h : PlO w base p A cA (some ⟨g, 0, none⟩) cB) (hi : i < p.ps.length) : (∃ x : Int, w.cell? ⟨g, i, none⟩ = some (.int .i64 x)) ∧ w.frozen? ⟨g, i, none⟩ = false ∧ g < w.heap.size := by
  obtain ⟨cs, hb⟩ := own_ty h.2 (g := g) rfl
  obtain ⟨g', o, e, _, hc⟩ := (own_sli h.2).1 (by omega)
  injection e with e
  injection e with e1 e2
  subst e1 e2
  have := hc i hi
  rw [Nat.zero_add, iv_lt _ hi] at this
  exact ⟨⟨_, this⟩, hb.free i, hb.lt⟩
theorem PlO.mvCell {w : World} {base g i : Nat} {p : Pl} {B : Option Addr} {cA cB : Nat} (h : PlO w base p (some ⟨g, 0, none⟩) cA B cB) (hi : i < p.ms.length) : (∃ x : List UInt8, w.cell? ⟨g, i, none⟩ = some (.string ⟨x.toArray⟩)) ∧ w.frozen? ⟨g, i, none⟩ = false ∧ g < w.heap.size := by
  obtain ⟨cs, hb⟩ := own_ty h.1 (g := g) rfl
  obtain ⟨g', o, e, _, hc⟩ := (own_sl h.1).1 (by omega)
  injection e with e
  injection e with e1 e2
  subst e1 e2
  have := hc i hi
  rw [Nat.zero_add, sv_lt _ hi] at this
  exact ⟨⟨_, this⟩, hb.free i, hb.lt⟩
theorem PlO.box {w : World} {base b j : Nat} {p : Pl} {A B : Option Addr} {cA cB : Nat} {cs : Array Value} (h : PlO w base p A cA B cB) (hb : Blk w b 26 cs) (u : Value) : PlO (w.setCell ⟨b, j, none⟩ u) base p A cA B cB :=
  h.growP (gr_set (gr_refl w (some b)) (p := ⟨b, j, none⟩) (.inl rfl) u) (fun g hg => by cases hg; exact ⟨_, hb⟩)

set_option maxRecDepth 100000 in
set_option maxHeartbeats 4000000 in
theorem l91Play_any (q : Nat) (w : World) (h : Rd w q 0) (hq : q < w.heap.size) :
    Calls Tryd.prog 21 #[.pointer (some ⟨q, 0, none⟩)] w fun e w' => ∃ r p A cA B cB, e = .returned (.tuple #[.string ⟨r.toArray⟩, .agg #[.slice A p.ms.length cA, .slice B p.ps.length cB]]) ∧ Drawn w w' r p A cA B cB ∧ w.grownBy w' (some q) := by
  have hg0 := World.grownBy_alloc w (.cells #[.slice none 0 0, .slice none 0 0] 26) none
  have hr0 := h.grown0 hg0
  have hb0 := Blk.new w 26 #[.slice none 0 0, .slice none 0 0]
  go_enter Tryd.func21, Tryd.ntmps21
  go_wp2_with fail
  refine (l91Legal_any q 0 _ hr0 (by omega) (by rw [World.size_alloc]; omega)).mono ?_
  rintro e w1 ⟨t, ⟨pp, A, cA, B, cB⟩, ht8, rfl, hlg, h9, hO, ⟨pos, hpos, hr1⟩, hg1⟩
  simp only [PD.a, PD.b] at hlg h9 hO ⊢
  have hle := tys8_le' t ht8
  have hat := tys8_atoms' t ht8
  obtain ⟨hll, hm8⟩ := legal_small hat hlg
  simp only [World.size_alloc] at hO
  have hgq := gr_trans (gr_weak hg0 (some q)) hg1
  have hcA := own_cap hO.1
  have hcB := own_cap hO.2
  have hb1 := hb0.grown hg1 (by simp; omega)
  have hs1 := hgq.size
  have hs0 := hg1.size
  simp only [World.size_alloc] at hs0
  have hgb := World.grownBy_alloc w1 (.cells #[.slice A pp.ms.length cA, .slice B pp.ms.length cB] 26) none
  have hb5 := Blk.new w1 26 #[.slice A pp.ms.length cA, .slice B pp.ms.length cB]
  have hllh := Lib.hid hll
  have hlgh := Lib.hid hlg
  have hm8h := Lib.hid hm8
  rw [hll] at hcB
  simp only [hll]
  have hO2 := hO.keep hgb
  have hb2 := hb1.grown0 hgb
  have hr2 := hr1.grown0 hgb
  have hg2 := gr_trans hgq (gr_weak hgb (some q))
  clear hll hlg hm8 hO hb1 hr1 hgq hg1 hr0 hg0 hb0 h hgb
  have hfin := Lib.hid (fun (wr : World) (p : Pl) (A : Option Addr) (cA : Nat) (B : Option Addr) (cB : Nat) (h1 : p.ms.length ≤ 9) (h2 : p.ps.length ≤ 9) (h3 : ∀ m ∈ p.ms, m.length ≤ 8) (h : PlS wr (Fr (w.heap.size + 1)) p A B) (hA : p.ms.length ≤ cA) (hB : p.ps.length ≤ cB) (hg : w.grownBy wr (some q)) (hb : Blk wr w.heap.size 26 #[.slice none 0 0, .slice none 0 0]) => drawn_stored_drew (r := t.text) (by omega) h1 h2 h3 h hA hB hg hb)
  have hs2 : w1.heap.size < (w1.alloc (.cells #[.slice A pp.ms.length cA, .slice B pp.ms.length cB] 26)).heap.size := by rw [World.size_alloc]; omega
  by_cases hn0 : pp.ms.length = 0
  · have hF := hfin.out _ pp A cA B cB h9 (by rw [hllh.out]; exact h9) hm8h.out hO2.sl hcA (by rw [hllh.out]; exact hcB) hg2 hb2
    simp only [hllh.out] at hF
    have x0 := hb5.cell 0
    have x1 := hb5.cell 1
    have y0 := hb2.cell 0
    have y1 := hb2.cell 1
    have f0 := hb2.free 0
    have f1 := hb2.free 1
    simp only [List.getElem?_toArray, List.getElem?_cons_zero, List.getElem?_cons_succ] at x0 x1 y0 y1
    have hFh := Lib.hid hF
    have x2 := hb5.lt
    have hn1 : ((pp.ms.length : Int) == 0) = true := by rw [beq_iff_eq]; omega
    have hn0h := Lib.hid hn0
    clear hF hO2 hn0
    go_upto_region 4 with fail
    generalize w1.alloc (.cells #[.slice A pp.ms.length cA, .slice B pp.ms.length cB] 26) = w2 at *
    go_region
    go_wp2_with fail
    obtain ⟨z1, z2, z3, z4⟩ := hFh.out _ rfl
    generalize ((w2.setCell ⟨w.heap.size, 0, none⟩ (.slice A pp.ms.length cA)).setCell ⟨w.heap.size, 1, none⟩ (.slice B pp.ms.length cB)).drew = wz at z1 z2 z3 z4 ⊢
    exact bodyPost_ret (v := .tuple #[.string ⟨t.text.toArray⟩, .agg #[.slice A pp.ms.length cA, .slice B pp.ms.length cB]]) (by simp [results, Tryd.results21, go_sem, z3, z4]) rfl ⟨t.text, pp, A, cA, B, cB, by simp only [hllh.out], z1, z2⟩
  · have hn1 : ((pp.ms.length : Int) == 0) = false := by rw [beq_eq_false_iff_ne]; omega
    have x0 := hb5.cell 0
    have x1 := hb5.cell 1
    have x2 := hb5.lt
    simp only [List.getElem?_toArray, List.getElem?_cons_zero, List.getElem?_cons_succ] at x0 x1
    go_upto_region 5 with fail
    generalize w1.alloc (.cells #[.slice A pp.ms.length cA, .slice B pp.ms.length cB] 26) = w2 at *
    clear x0 x1 x2
    go_wp2_with fail
    refine (pick_any q pos 12 w2 hr2 (by omega) (by decide) (by decide)).mono ?_
    rintro e w3 ⟨i, hi, rfl, hr3, hg3⟩
    have hO3 := hO2.keepq hg3 (by omega)
    have hb3 := hb2.grown hg3 (by simp; omega)
    have hc3 := hb5.grown hg3 (by simp; omega)
    have hgw := gr_trans hg2 hg3
    clear hO2 hb2 hb5 hg2 hg3 hr2
    have hnn : 0 < pp.ms.length := by omega
    have c0 := hc3.cell 0
    have c1 := hc3.cell 1
    have cf0 := hc3.free 0
    have cf1 := hc3.free 1
    have clt := hc3.lt
    simp only [List.getElem?_toArray, List.getElem?_cons_zero, List.getElem?_cons_succ] at c0 c1
    have y0 := hb3.cell 0
    have y1 := hb3.cell 1
    have f0 := hb3.free 0
    have f1 := hb3.free 1
    simp only [List.getElem?_toArray, List.getElem?_cons_zero, List.getElem?_cons_succ] at y0 y1
    by_cases h0 : i = 0
    · subst h0
      obtain ⟨g, cap, hB, hgb⟩ : ∃ g cap, B = some ⟨g, 0, none⟩ ∧ w.heap.size + 1 ≤ g := by
        obtain ⟨hl, ⟨e1, e2⟩ | ⟨g, cap, cur, e1, hbg, _⟩⟩ := hO3.2
        · rw [hllh.out] at e2; omega
        · injection e1 with e1; exact ⟨g, cap, e1, hbg⟩
      subst hB
      have hB1 : (0 : Int) ≤ (pp.ms.length : Int) - 1 := by omega
      have hB2 : (pp.ms.length : Int) - 1 < (pp.ms.length : Int) := by omega
      have hB3 : (1 : Int) ≤ (pp.ms.length : Int) := by omega
      have hB4 : ((pp.ms.length : Int) - 1).toNat = pp.ms.length - 1 := by omega
      have hB5 : IntKind.i64.wrap ((pp.ms.length : Int) - 1) = (pp.ms.length : Int) - 1 := IntWalk.i64_in _ (by omega)
      have hbc := Lib.hid (fun (W : World) (hW : w3.drew.grownBy W (some q)) => show W.cell? ⟨w1.heap.size, 0, none⟩ = some (.slice A pp.ms.length cA) ∧ W.cell? ⟨w1.heap.size, 1, none⟩ = some (.slice (some ⟨g, 0, none⟩) pp.ms.length cB) ∧ w1.heap.size < W.heap.size from
        ⟨((hc3.grown0 (gr_drew (gr_refl _ none))).grown hW (by simp; omega)).cell 0, ((hc3.grown0 (gr_drew (gr_refl _ none))).grown hW (by simp; omega)).cell 1, ((hc3.grown0 (gr_drew (gr_refl _ none))).grown hW (by simp; omega)).lt⟩)
      have hpc := Lib.hid (fun (W : World) (hW : w3.drew.grownBy W (some q)) => ((hO3.keep (gr_drew (gr_refl _ none))).keepq hW (by omega)).ptCell (i := pp.ms.length - 1) (by rw [hllh.out]; omega))
      have hPk := Lib.hid (pick_any q (pos + 1) pp.ms.length w3.drew (hr3.grown0 (gr_drew (gr_refl _ _))) (by omega) (by omega) (by omega))
      go_wp2_with fail
      go_region_with (go_at_call 40; refine hPk.out.mono ?_; rintro e w4 ⟨x, hx, rfl, hr4, hg4⟩; obtain ⟨⟨vx, gc⟩, gf, glt⟩ := hpc.out w4 hg4; obtain ⟨k0, k1, k2⟩ := hbc.out w4 hg4)
      all_goals
        have hD3 := hO3.keep (gr_drew (gr_refl w3 none))
        have hgz := gr_trans (gr_drew hgw) hg4
        have hx3 := (hO3.keep (gr_drew (gr_refl w3 none))).keepq hg4 (by omega : q < w.heap.size + 1)
        have hOz := hx3.setPt (i := pp.ms.length - 1) x
        have hcz := ((hc3.grown0 (gr_drew (gr_refl _ none))).grown hg4 (by simp; omega)).other (p := ⟨g, pp.ms.length - 1, none⟩) (by intro e; obtain ⟨cs, hgb⟩ := own_ty hx3.2 (g := g) rfl; have hcc := (hc3.grown0 (gr_drew (gr_refl _ none))).grown hg4 (by simp; omega); rw [e] at hcc; unfold Blk at hcc hgb; rw [hgb] at hcc; injection hcc with h3; injection h3 with _ h4 _; exact absurd h4 (by decide)) (.int .i64 (x : Int))
        have hbz := ((hb3.grown0 (gr_drew (gr_refl _ none))).grown hg4 (by simp; omega)).other (p := ⟨g, pp.ms.length - 1, none⟩) (by show w.heap.size ≠ g; omega) (.int .i64 (x : Int))
        have hF := hfin.out _ (Pl.mk pp.ms (pp.ps.set (pp.ms.length - 1) (x : Int))) A cA (some ⟨g, 0, none⟩) cB h9 (by simp only [List.length_set, hllh.out]; exact h9) hm8h.out hOz.sl hcA (by simp only [List.length_set, hllh.out]; exact hcB) (gr_set hgz (p := ⟨g, pp.ms.length - 1, none⟩) (.inr (by show w.heap.size ≤ g; omega)) _) hbz
        clear hx3 hD3 hOz hPk hpc hbc gc gf glt k0 k1 k2
        go_wp2_with fail
        simp only [List.length_set, hllh.out] at hF
        have hFh := Lib.hid hF
        clear hF c0 c1 cf0 cf1 clt y0 y1 f0 f1
        have c0 := hcz.cell 0
        have c1 := hcz.cell 1
        have clt := hcz.lt
        have y0 := hbz.cell 0
        have y1 := hbz.cell 1
        have f0 := hbz.free 0
        have f1 := hbz.free 1
        simp only [List.getElem?_toArray, List.getElem?_cons_zero, List.getElem?_cons_succ] at c0 c1 y0 y1
        clear hcz hbz
        generalize w4.setCell ⟨g, pp.ms.length - 1, none⟩ (.int .i64 (x : Int)) = wr at *
        go_region
        go_wp2_with fail
        obtain ⟨z1, z2, z3, z4⟩ := hFh.out _ rfl
        generalize ((wr.setCell ⟨w.heap.size, 0, none⟩ (.slice A pp.ms.length cA)).setCell ⟨w.heap.size, 1, none⟩ (.slice (some ⟨g, 0, none⟩) pp.ms.length cB)).drew = wz at z1 z2 z3 z4 ⊢
        exact bodyPost_ret (v := .tuple #[.string ⟨t.text.toArray⟩, .agg #[.slice A pp.ms.length cA, .slice (some ⟨g, 0, none⟩) pp.ms.length cB]]) (by simp [results, Tryd.results21, go_sem, z3, z4]) rfl ⟨t.text, (Pl.mk pp.ms (pp.ps.set (pp.ms.length - 1) (x : Int))), A, cA, (some ⟨g, 0, none⟩), cB, by simp only [List.length_set, hllh.out], z1, z2⟩

    · have hi0 : ((i : Int) == 0) = false := by rw [beq_eq_false_iff_ne]; omega
      by_cases h1 : i = 1
      · subst h1
        obtain ⟨g, cap, hA, hgb⟩ : ∃ g cap, A = some ⟨g, 0, none⟩ ∧ w.heap.size + 1 ≤ g := by
          obtain ⟨hl, ⟨e1, e2⟩ | ⟨g, cap, cur, e1, hbg, _⟩⟩ := hO3.1
          · omega
          · injection e1 with e1; exact ⟨g, cap, e1, hbg⟩
        subst hA
        have hB1 : (0 : Int) ≤ (pp.ms.length : Int) - 1 := by omega
        have hB2 : (pp.ms.length : Int) - 1 < (pp.ms.length : Int) := by omega
        have hB3 : (1 : Int) ≤ (pp.ms.length : Int) := by omega
        have hB4 : ((pp.ms.length : Int) - 1).toNat = pp.ms.length - 1 := by omega
        have hB5 : IntKind.i64.wrap ((pp.ms.length : Int) - 1) = (pp.ms.length : Int) - 1 := IntWalk.i64_in _ (by omega)
        have hlt3 : q < w3.drew.heap.size := hr3.lt
        have hga := gr_alloc (gr_drew (gr_refl w3 none)) (.cells (odd5.map fun t => Value.string ⟨t.toArray⟩).toArray 9)
        have hbc := Lib.hid (fun (W : World) (hW : (w3.drew.alloc (.cells (odd5.map fun t => Value.string ⟨t.toArray⟩).toArray 9)).grownBy W (some q)) => show W.cell? ⟨w1.heap.size, 0, none⟩ = some (.slice (some ⟨g, 0, none⟩) pp.ms.length cA) ∧ W.cell? ⟨w1.heap.size, 1, none⟩ = some (.slice B pp.ms.length cB) ∧ w1.heap.size < W.heap.size from
          ⟨((hc3.grown0 hga).grown hW (by simp; omega)).cell 0, ((hc3.grown0 hga).grown hW (by simp; omega)).cell 1, ((hc3.grown0 hga).grown hW (by simp; omega)).lt⟩)
        have hpc := Lib.hid (fun (W : World) (hW : (w3.drew.alloc (.cells (odd5.map fun t => Value.string ⟨t.toArray⟩).toArray 9)).grownBy W (some q)) => ((hO3.keep hga).keepq hW (by omega)).mvCell (i := pp.ms.length - 1) (by omega))
        obtain ⟨kb0, kb1, kb2⟩ := hbc.out _ (gr_refl _ _)
        have hPk := Lib.hid (of_any q (pos + 1) _ _ 5 _ _ (hr3.grown0 hga) (by omega) (by decide) (by decide) (lits_sl w3.drew q hlt3 odd5))
        go_wp2_with fail
        go_region_with (go_at_call 41; refine hPk.out.mono ?_; rintro e w4 ⟨x, hx, rfl, hr4, hg4⟩; have hx8 := odd5_le x; generalize odd5.getD x [] = mx at *; clear hx; obtain ⟨⟨vx, gc⟩, gf, glt⟩ := hpc.out w4 hg4; obtain ⟨k0, k1, k2⟩ := hbc.out w4 hg4)
        all_goals
          have hgz := gr_trans (gr_trans hgw (gr_weak hga (some q))) hg4
          have hx3 := (hO3.keep hga).keepq hg4 (by omega : q < w.heap.size + 1)
          have hOz := hx3.setMv (i := pp.ms.length - 1) mx
          have hcz := ((hc3.grown0 hga).grown hg4 (by simp; omega)).other (p := ⟨g, pp.ms.length - 1, none⟩) (by intro e; obtain ⟨cs, hgb⟩ := own_ty hx3.1 (g := g) rfl; have hcc := (hc3.grown0 hga).grown hg4 (by simp; omega); rw [e] at hcc; unfold Blk at hcc hgb; rw [hgb] at hcc; injection hcc with h3; injection h3 with _ h4 _; exact absurd h4 (by decide)) (.string ⟨mx.toArray⟩)
          have hbz := ((hb3.grown0 hga).grown hg4 (by simp; omega)).other (p := ⟨g, pp.ms.length - 1, none⟩) (by show w.heap.size ≠ g; omega) (.string ⟨mx.toArray⟩)
          have hF := hfin.out _ (Pl.mk (pp.ms.set (pp.ms.length - 1) mx) pp.ps) (some ⟨g, 0, none⟩) cA B cB (by simp only [List.length_set]; exact h9) (by simp only [hllh.out]; exact h9) (fun m hm => by rcases List.mem_or_eq_of_mem_set hm with h | h; exact hm8h.out m h; rw [h]; exact hx8) hOz.sl (by simp only [List.length_set]; exact hcA) (by simp only [hllh.out]; exact hcB) (gr_set hgz (p := ⟨g, pp.ms.length - 1, none⟩) (.inr (by show w.heap.size ≤ g; omega)) _) hbz
          clear hx3 hOz hPk hpc hbc gc gf glt k0 k1 k2 kb0 kb1 kb2 hx8
          go_wp2_with fail
          simp only [List.length_set, hllh.out] at hF
          have hFh := Lib.hid hF
          clear hF c0 c1 cf0 cf1 clt y0 y1 f0 f1
          have c0 := hcz.cell 0
          have c1 := hcz.cell 1
          have clt := hcz.lt
          have y0 := hbz.cell 0
          have y1 := hbz.cell 1
          have f0 := hbz.free 0
          have f1 := hbz.free 1
          simp only [List.getElem?_toArray, List.getElem?_cons_zero, List.getElem?_cons_succ] at c0 c1 y0 y1
          clear hcz hbz
          generalize w4.setCell ⟨g, pp.ms.length - 1, none⟩ (.string ⟨mx.toArray⟩) = wr at *
          go_region
          go_wp2_with fail
          obtain ⟨z1, z2, z3, z4⟩ := hFh.out _ rfl
          generalize ((wr.setCell ⟨w.heap.size, 0, none⟩ (.slice (some ⟨g, 0, none⟩) pp.ms.length cA)).setCell ⟨w.heap.size, 1, none⟩ (.slice B pp.ms.length cB)).drew = wz at z1 z2 z3 z4 ⊢
          exact bodyPost_ret (v := .tuple #[.string ⟨t.text.toArray⟩, .agg #[.slice (some ⟨g, 0, none⟩) pp.ms.length cA, .slice B pp.ms.length cB]]) (by simp [results, Tryd.results21, go_sem, z3, z4]) rfl ⟨t.text, (Pl.mk (pp.ms.set (pp.ms.length - 1) mx) pp.ps), (some ⟨g, 0, none⟩), cA, B, cB, by simp only [List.length_set, hllh.out], z1, z2⟩
      · have hi1 : ((i : Int) == 1) = false := by rw [beq_eq_false_iff_ne]; omega
        by_cases h2 : i = 2
        · subst h2
          obtain ⟨g, cap, hB, hgb⟩ : ∃ g cap, B = some ⟨g, 0, none⟩ ∧ w.heap.size + 1 ≤ g := by
            obtain ⟨hl, ⟨e1, e2⟩ | ⟨g, cap, cur, e1, hbg, _⟩⟩ := hO3.2
            · rw [hllh.out] at e2; omega
            · injection e1 with e1; exact ⟨g, cap, e1, hbg⟩
          subst hB
          by_cases hc1 : cB = 1
          · subst hc1
            go_wp2_with fail
            have hcz := hc3.set 1 (.slice (some ⟨g, 0, none⟩) 0 0)
            have hbz := hb3.other (p := ⟨w1.heap.size, 1, none⟩) (by show w.heap.size ≠ w1.heap.size; omega) (.slice (some ⟨g, 0, none⟩) 0 0)
            have hOz := hO3.box (j := 1) hc3 (.slice (some ⟨g, 0, none⟩) 0 0)
            have hF := hfin.out (w3.setCell ⟨w1.heap.size, 1, none⟩ (.slice (some ⟨g, 0, none⟩) 0 0)) (Pl.mk pp.ms []) A cA (some ⟨g, 0, none⟩) (0) h9 (by simp) hm8h.out ⟨hOz.sl.1, Sl.nil_⟩ hcA (by simp) (gr_set hgw (p := ⟨w1.heap.size, 1, none⟩) (.inr (by show w.heap.size ≤ w1.heap.size; omega)) _) hbz
            simp only [List.length_nil] at hF
            have hFh := Lib.hid hF
            clear hF c0 c1 cf0 cf1 clt y0 y1 f0 f1
            have c0 := hcz.cell 0
            have c1 := hcz.cell 1
            have clt := hcz.lt
            have y0 := hbz.cell 0
            have y1 := hbz.cell 1
            have f0 := hbz.free 0
            have f1 := hbz.free 1
            simp only [List.getElem?_toArray, List.getElem?_cons_zero, List.getElem?_cons_succ] at c0 c1 y0 y1
            clear hcz hbz
            generalize w3.setCell ⟨w1.heap.size, 1, none⟩ (.slice (some ⟨g, 0, none⟩) 0 0) = wr at *
            go_region
            go_wp2_with fail
            obtain ⟨z1, z2, z3, z4⟩ := hFh.out _ rfl
            generalize ((wr.setCell ⟨w.heap.size, 0, none⟩ (.slice A pp.ms.length cA)).setCell ⟨w.heap.size, 1, none⟩ (.slice (some ⟨g, 0, none⟩) 0 0)).drew = wz at z1 z2 z3 z4 ⊢
            exact bodyPost_ret (v := .tuple #[.string ⟨t.text.toArray⟩, .agg #[.slice A pp.ms.length cA, .slice (some ⟨g, 0, none⟩) 0 0]]) (by simp [results, Tryd.results21, go_sem, z3, z4]) rfl ⟨t.text, (Pl.mk pp.ms []), A, cA, (some ⟨g, 0, none⟩), 0, by simp only [List.length_nil], z1, z2⟩
          · have htl : pp.ps.tail.length = pp.ms.length - 1 := by rw [List.length_tail, hllh.out]
            have htlh := Lib.hid htl
            clear htl
            go_wp2_with fail
            have hcz := hc3.set 1 (.slice (some ⟨g, 1, none⟩) (pp.ms.length - 1) (cB - 1))
            have hbz := hb3.other (p := ⟨w1.heap.size, 1, none⟩) (by show w.heap.size ≠ w1.heap.size; omega) (.slice (some ⟨g, 1, none⟩) (pp.ms.length - 1) (cB - 1))
            have hOz := hO3.box (j := 1) hc3 (.slice (some ⟨g, 1, none⟩) (pp.ms.length - 1) (cB - 1))
            have hF := hfin.out (w3.setCell ⟨w1.heap.size, 1, none⟩ (.slice (some ⟨g, 1, none⟩) (pp.ms.length - 1) (cB - 1))) (Pl.mk pp.ms pp.ps.tail) A cA (some ⟨g, 1, none⟩) ((cB - 1)) h9 (by rw [htlh.out]; omega) hm8h.out ⟨hOz.sl.1, by rw [htlh.out]; have h3 := hOz.sl.2; rw [hllh.out] at h3; exact sl_tail h3 hllh.out⟩ hcA (by rw [htlh.out]; omega) (gr_set hgw (p := ⟨w1.heap.size, 1, none⟩) (.inr (by show w.heap.size ≤ w1.heap.size; omega)) _) hbz
            simp only [htlh.out] at hF
            have hFh := Lib.hid hF
            clear hF c0 c1 cf0 cf1 clt y0 y1 f0 f1
            have c0 := hcz.cell 0
            have c1 := hcz.cell 1
            have clt := hcz.lt
            have y0 := hbz.cell 0
            have y1 := hbz.cell 1
            have f0 := hbz.free 0
            have f1 := hbz.free 1
            simp only [List.getElem?_toArray, List.getElem?_cons_zero, List.getElem?_cons_succ] at c0 c1 y0 y1
            clear hcz hbz
            generalize w3.setCell ⟨w1.heap.size, 1, none⟩ (.slice (some ⟨g, 1, none⟩) (pp.ms.length - 1) (cB - 1)) = wr at *
            go_region
            go_wp2_with fail
            obtain ⟨z1, z2, z3, z4⟩ := hFh.out _ rfl
            generalize ((wr.setCell ⟨w.heap.size, 0, none⟩ (.slice A pp.ms.length cA)).setCell ⟨w.heap.size, 1, none⟩ (.slice (some ⟨g, 1, none⟩) (pp.ms.length - 1) (cB - 1))).drew = wz at z1 z2 z3 z4 ⊢
            exact bodyPost_ret (v := .tuple #[.string ⟨t.text.toArray⟩, .agg #[.slice A pp.ms.length cA, .slice (some ⟨g, 1, none⟩) (pp.ms.length - 1) (cB - 1)]]) (by simp [results, Tryd.results21, go_sem, z3, z4]) rfl ⟨t.text, (Pl.mk pp.ms pp.ps.tail), A, cA, (some ⟨g, 1, none⟩), (cB - 1), by simp only [htlh.out], z1, z2⟩
        · have hi2 : ((i : Int) == 2) = false := by rw [beq_eq_false_iff_ne]; omega
          by_cases h34 : i = 3 ∨ i = 4
          · rcases h34 with rfl | rfl
            all_goals
              go_wp2_with fail
              refine (l91Loose_any q (pos + 1) w3 hr3 (by omega) (by omega) t hle hat).mono ?_
              rintro e w4 ⟨⟨pl, PA, pA, PB, pB⟩, rfl, hlo, hO4, hg4⟩
              simp only [PD.a, PD.b] at hlo hO4 ⊢
              have hb4 := hb3.grown hg4 (by simp; omega)
              have hF := drawn_stored (w := w) (r := t.text) (by omega) hlo.2.1 (by rw [hlo.1]; exact hlo.2.1) hlo.2.2 (hO4.weak (by omega : w.heap.size + 1 ≤ w3.heap.size)).sl (own_cap hO4.1) (own_cap hO4.2) (gr_trans hgw hg4) hb4
              have hFh := Lib.hid hF
              have y0 := hb4.cell 0
              have y1 := hb4.cell 1
              have f0 := hb4.free 0
              have f1 := hb4.free 1
              simp only [List.getElem?_toArray, List.getElem?_cons_zero, List.getElem?_cons_succ] at y0 y1
              clear hF c0 c1
              go_wp2_with fail
              obtain ⟨z1, z2, z3, z4⟩ := hFh.out _ rfl
              generalize ((w4.setCell ⟨w.heap.size, 0, none⟩ (.slice PA pl.ms.length pA)).setCell ⟨w.heap.size, 1, none⟩ (.slice PB pl.ps.length pB)) = wz at z1 z2 z3 z4 ⊢
              exact bodyPost_ret (v := .tuple #[.string ⟨t.text.toArray⟩, .agg #[.slice PA pl.ms.length pA, .slice PB pl.ps.length pB]]) (by simp [results, Tryd.results21, go_sem, z3, z4]) rfl ⟨t.text, pl, PA, pA, PB, pB, rfl, z1, z2⟩
          · have hi3 : ((i : Int) == 3) = false := by rw [beq_eq_false_iff_ne]; omega
            have hi4 : ((i : Int) == 4) = false := by rw [beq_eq_false_iff_ne]; omega
            go_wp2_with fail
            have hF := hfin.out w3 pp A cA B cB h9 (by rw [hllh.out]; exact h9) hm8h.out hO3.sl hcA (by rw [hllh.out]; exact hcB) hgw hb3
            have hcz := hc3
            have hbz := hb3
            simp only [hllh.out] at hF
            have hFh := Lib.hid hF
            clear hF c0 c1 cf0 cf1 clt y0 y1 f0 f1
            have c0 := hcz.cell 0
            have c1 := hcz.cell 1
            have clt := hcz.lt
            have y0 := hbz.cell 0
            have y1 := hbz.cell 1
            have f0 := hbz.free 0
            have f1 := hbz.free 1
            simp only [List.getElem?_toArray, List.getElem?_cons_zero, List.getElem?_cons_succ] at c0 c1 y0 y1
            clear hcz hbz
            go_region
            go_wp2_with fail
            obtain ⟨z1, z2, z3, z4⟩ := hFh.out _ rfl
            generalize ((w3.setCell ⟨w.heap.size, 0, none⟩ (.slice A pp.ms.length cA)).setCell ⟨w.heap.size, 1, none⟩ (.slice B pp.ms.length cB)).drew = wz at z1 z2 z3 z4 ⊢
            exact bodyPost_ret (v := .tuple #[.string ⟨t.text.toArray⟩, .agg #[.slice A pp.ms.length cA, .slice B pp.ms.length cB]]) (by simp [results, Tryd.results21, go_sem, z3, z4]) rfl ⟨t.text, pp, A, cA, B, cB, by simp only [hllh.out], z1, z2⟩
end Go.Proofs.YtkjkbcfifhakkaaDoor
