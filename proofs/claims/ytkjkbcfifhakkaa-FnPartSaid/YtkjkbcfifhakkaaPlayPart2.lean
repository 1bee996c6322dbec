/- PlayPart on both sides. -/
import Derived.Test.YtkjkbcfifhakkaaPlayPartS
namespace Go.Proofs.Ytkjkbcfifhakkaa
open Go.RowKit

/-- A play's own lists, between two places of the heap. -/
def PlIn (w : World) (lo hi : Nat) (p : Pl) (A : Option Addr) (cA : Nat) (B : Option Addr) (cB : Nat) : Prop :=
  PlO w lo p A cA B cB ∧ (∀ g, (Value.slice A p.ms.length cA).ownBlock = some g → lo ≤ g ∧ g < hi) ∧ ∀ g, (Value.slice B p.ps.length cB).ownBlock = some g → lo ≤ g ∧ g < hi
theorem PlO.plIn {w : World} {lo : Nat} {p : Pl} {A : Option Addr} {cA : Nat} {B : Option Addr} {cB : Nat} (h : PlO w lo p A cA B cB) : PlIn w lo w.heap.size p A cA B cB :=
  ⟨h, fun g hg => ⟨own_base h.1 hg, by obtain ⟨_, k⟩ := own_ty h.1 hg; exact k.lt⟩, fun g hg => ⟨own_base h.2 hg, by obtain ⟨_, k⟩ := own_ty h.2 hg; exact k.lt⟩⟩
theorem PlIn.keep {w w' : World} {lo hi : Nat} {p : Pl} {A : Option Addr} {cA : Nat} {B : Option Addr} {cB : Nat} {x : Option Nat} (h : PlIn w lo hi p A cA B cB) (hg : w.grownBy w' x) (hx : ∀ g, x = some g → g < lo ∨ hi ≤ g) : PlIn w' lo hi p A cA B cB :=
  ⟨⟨own_keep2 h.1.1 hg fun g hg' _ e => by
      have h1 := h.2.1 g hg'
      have h2 := hx g e.symm
      omega, own_keep2 h.1.2 hg fun g hg' _ e => by
      have h1 := h.2.2 g hg'
      have h2 := hx g e.symm
      omega⟩, h.2.1, h.2.2⟩
theorem PlIn.keep0 {w w' : World} {lo hi : Nat} {p : Pl} {A : Option Addr} {cA : Nat} {B : Option Addr} {cB : Nat} (h : PlIn w lo hi p A cA B cB) (hg : w.grownBy w' none) : PlIn w' lo hi p A cA B cB := h.keep hg (fun g e => by cases e)
theorem blk_keep {w w' : World} {b : Nat} {t : TypeId} {cs : Array Value} {x : Option Nat} (h : Blk w b t cs) (hg : w.grownBy w' x) {lo hi : Nat} (hx : ∀ g, x = some g → lo ≤ g ∧ g < hi) (hb : b < lo ∨ hi ≤ b) : Blk w' b t cs :=
  h.grown hg (fun e => by have := hx b e.symm; omega)

theorem visOf_some {r : List UInt8} {p : Pl} (h : visOf r p = true) : ∃ t, Ty.read r = some t ∧ p.ok t = true ∧ t.atoms ≤ 15 ∧ p.vis = true := by
  unfold visOf at h
  rw [Bool.and_eq_true] at h
  obtain ⟨t, h1, h2, h3⟩ := playOf_some h.1
  exact ⟨t, h1, h2, h3, h.2⟩
/-- The play of the view of the player. -/
def pvw (p : Pl) : List Nat := p.view false p.ms.length
def partOf (r : List UInt8) (p : Pl) : Pl := if visOf r p then p.part (pvw p) else ⟨[], []⟩
theorem vI_pvw (p : Pl) : vI p false p.ms.length = (pvw p).map fun k : Nat => (k : Int) := rfl
theorem pvw_length (p : Pl) : (pvw p).length ≤ p.ms.length := Pl.view_length
theorem partOf_length (r : List UInt8) (p : Pl) : (partOf r p).ms.length ≤ 60 ∧ (partOf r p).ps.length ≤ 60 := by
  unfold partOf
  split
  · rename_i h
    obtain ⟨t, _, h1, _⟩ := visOf_some h
    have := (Pl.ok_iff.1 h1).1
    have := pvw_length p
    constructor
    · simp [Pl.part]; omega
    · simp [Pl.part]; omega
  · simp
/-- What both PlayPart give: lists of their own. -/
def PartPost (w w' : World) (r : List UInt8) (p : Pl) (e : Ending) : Prop :=
  ∃ A c B d, e = .returned (.tuple #[.agg #[.slice A (partOf r p).ms.length c, .slice B (partOf r p).ps.length d], .bool (visOf r p)]) ∧ PlO w' w.heap.size (partOf r p) A c B d

set_option maxHeartbeats 1000000 in
theorem playPart_any (r : List UInt8) (p : Pl) (A : Option Addr) (cA : Nat) (B : Option Addr) (cB : Nat) (G : Nat → Prop) (w : World) (hr : r.length ≤ 1099511627776) (h : PlS w G p A B) (hsm : SmallP p) :
    Calls Try.prog 23 #[.string ⟨r.toArray⟩, .agg #[.slice A p.ms.length cA, .slice B p.ps.length cB]] w fun e w' => PartPost w w' r p e ∧ w.grownBy w' none := by
  have hg0 := gr_alloc (World.grownBy_alloc w (.cells #[.slice A p.ms.length cA, .slice B p.ps.length cB] 26) none) (.cells #[.slice none 0 0, .slice none 0 0] 26)
  have hbx := (Blk.new w 26 #[.slice A p.ms.length cA, .slice B p.ps.length cB]).alloc (.cells #[.slice none 0 0, .slice none 0 0] 26)
  have hbz := Blk.new (w.alloc (.cells #[.slice A p.ms.length cA, .slice B p.ps.length cB] 26)) 26 #[.slice none 0 0, .slice none 0 0]
  rw [World.size_alloc] at hbz
  have h0 := h.grown0 hg0
  have hsmh := Lib.hid hsm
  clear hsm
  go_enter Try.func23, Try.ntmps23
  go_wp2_with fail
  refine (playVisible_any r p A cA B cB G _ hr h0 hsmh.out).mono ?_
  rintro e w1 ⟨rfl, hg1⟩
  have hbw := hbx.grown0 hg1
  have d0 := hbw.cell 0
  have d1 := hbw.cell 1
  have hbz1 := hbz.grown0 hg1
  have z0 := hbz1.cell 0
  have z1 := hbz1.cell 1
  have zf0 := hbz1.free 0
  have zf1 := hbz1.free 1
  simp only [List.getElem?_toArray, List.getElem?_cons_zero, List.getElem?_cons_succ] at d0 d1 z0 z1
  have dlt := hbw.lt
  have zlt := hbz1.lt
  cases hv : visOf r p with
  | false =>
    have hvh := Lib.hid hv
    have hk := (hbz1.set 0 (.slice none 0 0)).set 1 (.slice none 0 0)
    simp only [List.setIfInBounds_toArray, List.set_cons_zero, List.set_cons_succ] at hk
    have u0 := Lib.hid (hk.cell 0)
    have u1 := Lib.hid (hk.cell 1)
    clear hv hk
    go_wp2_with fail
    refine bodyPost_ret (v := .tuple #[.agg #[.slice none 0 0, .slice none 0 0], .bool false]) (by simp [results, Try.results23, go_sem, u0.out, u1.out]) rfl ⟨?_, gr_set (gr_set (gr_trans hg0 hg1) (.inr (Nat.le_succ _)) _) (.inr (Nat.le_succ _)) _⟩
    unfold PartPost partOf
    rw [hvh.out]
    exact ⟨none, 0, none, 0, rfl, own_nil _ _ _, own_nil _ _ _⟩
  | true =>
    obtain ⟨t, _, hp, ht, hvv⟩ := visOf_some hv
    have hph := Lib.hid hp
    have hvh := Lib.hid hv
    have hl := pvw_length p
    have h60 := (Pl.ok_iff.1 hp).1
    have hll := Lib.hid (Pl.ok_iff.1 hp).2.1
    have hV := Lib.hid (fun v (hv : v ∈ pvw p) => show v < p.ms.length from Pl.view_lt v hv)
    have hpt := Lib.hid (fun v (hv : v ∈ pvw p) => show p.pt v < (v : Int) by
      have hvl : v < p.ms.length := Pl.view_lt v hv
      rcases Nat.eq_zero_or_pos v with h0 | h0
      · subst h0
        rw [(Pl.ok_zero hp hvl).2]; omega
      · obtain ⟨k, hk, hkj, _⟩ := Pl.ok_prev hp h0 hvl
        omega)
    have hso := Lib.hid (show (pvw p).Pairwise (· < ·) from Pl.view_sorted)
    clear hv hp hvv
    have hgd : w1.grownBy w1.drew none := gr_drew (gr_refl _ _)
    have hVw := Lib.hid (view_any t p hph.out A cA B cB G false _ w1.drew ((h0.grown0 hg1).grown0 hgd) hsmh.out (Nat.le_refl _))
    go_wp2_with fail
    go_region_held3 (fun w' => w'.cell? ⟨w.heap.size, 0, none⟩ = some (.slice A p.ms.length cA) ∧ w'.cell? ⟨w.heap.size, 1, none⟩ = some (.slice B p.ps.length cB))
      (go_keep)
      (first
        | (go_at_call 40; refine hVw.out.mono ?_; rintro e w2 ⟨V, c, rfl, hown, hg2⟩; rw [vI_pvw] at hown ⊢; have hSV := (own_sli hown).1; rw [List.length_map] at hSV ⊢; have hg12 := gr_trans hgd hg2; have hbw2 := hbw.grown0 hg12; have e0 := hbw2.cell 0; have e1 := hbw2.cell 1; simp only [List.getElem?_toArray, List.getElem?_cons_zero, List.getElem?_cons_succ] at e0 e1)
        | (go_at_call 39; refine (part_any p A cA B cB G _ (h0.grown0 (gr_trans hg1 hg12)) hll.out h60 (pvw p) V c _ hSV hV.out (by omega)).mono ?_; rintro e w3 ⟨A', c', B', d', rfl, hO, hg3⟩; have hbw3 := hbw2.grown0 hg3; have f0 := hbw3.cell 0; have f1 := hbw3.cell 1; have hbz3 := hbz1.grown0 (gr_trans hg12 hg3); have y0 := hbz3.cell 0; have y1 := hbz3.cell 1; have yf0 := hbz3.free 0; have yf1 := hbz3.free 1; have ylt := hbz3.lt; simp only [List.getElem?_toArray, List.getElem?_cons_zero, List.getElem?_cons_succ] at f0 f1 y0 y1))
    have hO1 := Lib.hid (((hO.setlt (a := ⟨w.heap.size + 1, 0, none⟩) (Nat.lt_of_lt_of_le zlt hg12.size) (.slice A' (p.part (pvw p)).ms.length c')).setlt (a := ⟨w.heap.size + 1, 1, none⟩) (Nat.lt_of_lt_of_le zlt hg12.size) (.slice B' (p.part (pvw p)).ps.length d')).weak (b := w.heap.size) (Nat.le_trans (gr_trans hg0 hg1).size hg12.size))
    have hk := (hbz3.set 0 (.slice A' (p.part (pvw p)).ms.length c')).set 1 (.slice B' (p.part (pvw p)).ps.length d')
    simp only [List.setIfInBounds_toArray, List.set_cons_zero, List.set_cons_succ] at hk
    have u0 := hk.cell 0
    have u1 := hk.cell 1
    simp only [List.getElem?_toArray, List.getElem?_cons_zero, List.getElem?_cons_succ] at u0 u1
    have u0h := Lib.hid u0
    have u1h := Lib.hid u1
    have hgf := gr_set (gr_set (gr_trans (gr_trans hg0 hg1) (gr_trans hg12 hg3)) (p := ⟨w.heap.size + 1, 0, none⟩) (.inr (Nat.le_succ _)) (.slice A' (p.part (pvw p)).ms.length c')) (p := ⟨w.heap.size + 1, 1, none⟩) (.inr (Nat.le_succ _)) (.slice B' (p.part (pvw p)).ps.length d')
    have hPo := Lib.hid (show partOf r p = p.part (pvw p) by unfold partOf; rw [hvh.out]; rfl)
    clear u0 u1 hk hO
    generalize p.part (pvw p) = pp at *
    go_wp2_with fail
    refine bodyPost_ret (v := .tuple #[.agg #[.slice A' pp.ms.length c', .slice B' pp.ps.length d'], .bool true]) (by simp [results, Try.results23, go_sem, u0h.out, u1h.out]) rfl ⟨?_, hgf⟩
    unfold PartPost
    rw [hvh.out, hPo.out]
    exact ⟨A', c', B', d', rfl, hO1.out⟩
set_option maxHeartbeats 1000000 in
theorem sPlayPart_any (r : List UInt8) (p : Pl) (A : Option Addr) (cA : Nat) (B : Option Addr) (cB : Nat) (G : Nat → Prop) (w : World) (hr : r.length ≤ 1099511627776) (h : PlS w G p A B) (hsm : SmallP p) :
    Calls Try.prog 25 #[.string ⟨r.toArray⟩, .agg #[.slice A p.ms.length cA, .slice B p.ps.length cB]] w fun e w' => PartPost w w' r p e ∧ w.grownBy w' none := by
  have hg0 := gr_alloc (World.grownBy_alloc w (.cells #[.slice A p.ms.length cA, .slice B p.ps.length cB] 26) none) (.cells #[.slice none 0 0, .slice none 0 0] 26)
  have hbx := (Blk.new w 26 #[.slice A p.ms.length cA, .slice B p.ps.length cB]).alloc (.cells #[.slice none 0 0, .slice none 0 0] 26)
  have hbz := Blk.new (w.alloc (.cells #[.slice A p.ms.length cA, .slice B p.ps.length cB] 26)) 26 #[.slice none 0 0, .slice none 0 0]
  rw [World.size_alloc] at hbz
  have h0 := h.grown0 hg0
  have hsmh := Lib.hid hsm
  clear hsm
  go_enter Try.func25, Try.ntmps25
  go_wp2_with fail
  refine (sPlayVisible_any r p A cA B cB G _ hr h0 hsmh.out).mono ?_
  rintro e w1 ⟨rfl, hg1⟩
  have hbw := hbx.grown0 hg1
  have d0 := hbw.cell 0
  have d1 := hbw.cell 1
  have hbz1 := hbz.grown0 hg1
  have z0 := hbz1.cell 0
  have z1 := hbz1.cell 1
  have zf0 := hbz1.free 0
  have zf1 := hbz1.free 1
  simp only [List.getElem?_toArray, List.getElem?_cons_zero, List.getElem?_cons_succ] at d0 d1 z0 z1
  have dlt := hbw.lt
  have zlt := hbz1.lt
  cases hv : visOf r p with
  | false =>
    have hvh := Lib.hid hv
    have hk := (hbz1.set 0 (.slice none 0 0)).set 1 (.slice none 0 0)
    simp only [List.setIfInBounds_toArray, List.set_cons_zero, List.set_cons_succ] at hk
    have u0 := Lib.hid (hk.cell 0)
    have u1 := Lib.hid (hk.cell 1)
    clear hv hk
    go_wp2_with fail
    refine bodyPost_ret (v := .tuple #[.agg #[.slice none 0 0, .slice none 0 0], .bool false]) (by simp [results, Try.results25, go_sem, u0.out, u1.out]) rfl ⟨?_, gr_set (gr_set (gr_trans hg0 hg1) (.inr (Nat.le_succ _)) _) (.inr (Nat.le_succ _)) _⟩
    unfold PartPost partOf
    rw [hvh.out]
    exact ⟨none, 0, none, 0, rfl, own_nil _ _ _, own_nil _ _ _⟩
  | true =>
    obtain ⟨t, _, hp, ht, hvv⟩ := visOf_some hv
    have hph := Lib.hid hp
    have hvh := Lib.hid hv
    have hl := pvw_length p
    have h60 := (Pl.ok_iff.1 hp).1
    have hll := Lib.hid (Pl.ok_iff.1 hp).2.1
    have hV := Lib.hid (fun v (hv : v ∈ pvw p) => show v < p.ms.length from Pl.view_lt v hv)
    have hpt := Lib.hid (fun v (hv : v ∈ pvw p) => show p.pt v < (v : Int) by
      have hvl : v < p.ms.length := Pl.view_lt v hv
      rcases Nat.eq_zero_or_pos v with h0 | h0
      · subst h0
        rw [(Pl.ok_zero hp hvl).2]; omega
      · obtain ⟨k, hk, hkj, _⟩ := Pl.ok_prev hp h0 hvl
        omega)
    have hso := Lib.hid (show (pvw p).Pairwise (· < ·) from Pl.view_sorted)
    clear hv hp hvv
    have hgd : w1.grownBy w1.drew none := gr_drew (gr_refl _ _)
    have hVw := Lib.hid (l2View_any t p hph.out A cA B cB G false 1 rfl _ w1.drew ((h0.grown0 hg1).grown0 hgd) hsmh.out (Nat.le_refl _))
    go_wp2_with fail
    go_region_held3 (fun w' => w'.cell? ⟨w.heap.size, 0, none⟩ = some (.slice A p.ms.length cA) ∧ w'.cell? ⟨w.heap.size, 1, none⟩ = some (.slice B p.ps.length cB))
      (go_keep)
      (first
        | (go_at_call 34; refine hVw.out.mono ?_; rintro e w2 ⟨V, c, rfl, hown, hg2⟩; rw [vI_pvw] at hown ⊢; have hSV := (own_sli hown).1; rw [List.length_map] at hSV ⊢; have hg12 := gr_trans hgd hg2; have hbw2 := hbw.grown0 hg12; have e0 := hbw2.cell 0; have e1 := hbw2.cell 1; simp only [List.getElem?_toArray, List.getElem?_cons_zero, List.getElem?_cons_succ] at e0 e1)
        | (go_at_call 41; refine (l2Part_any p A cA B cB G _ (h0.grown0 (gr_trans hg1 hg12)) hll.out h60 (pvw p) V c _ hSV hV.out hpt.out hso.out (by omega)).mono ?_; rintro e w3 ⟨A', c', B', d', rfl, hO, hg3⟩; have hbw3 := hbw2.grown0 hg3; have f0 := hbw3.cell 0; have f1 := hbw3.cell 1; have hbz3 := hbz1.grown0 (gr_trans hg12 hg3); have y0 := hbz3.cell 0; have y1 := hbz3.cell 1; have yf0 := hbz3.free 0; have yf1 := hbz3.free 1; have ylt := hbz3.lt; simp only [List.getElem?_toArray, List.getElem?_cons_zero, List.getElem?_cons_succ] at f0 f1 y0 y1))
    have hO1 := Lib.hid (((hO.setlt (a := ⟨w.heap.size + 1, 0, none⟩) (Nat.lt_of_lt_of_le zlt hg12.size) (.slice A' (p.part (pvw p)).ms.length c')).setlt (a := ⟨w.heap.size + 1, 1, none⟩) (Nat.lt_of_lt_of_le zlt hg12.size) (.slice B' (p.part (pvw p)).ps.length d')).weak (b := w.heap.size) (Nat.le_trans (gr_trans hg0 hg1).size hg12.size))
    have hk := (hbz3.set 0 (.slice A' (p.part (pvw p)).ms.length c')).set 1 (.slice B' (p.part (pvw p)).ps.length d')
    simp only [List.setIfInBounds_toArray, List.set_cons_zero, List.set_cons_succ] at hk
    have u0 := hk.cell 0
    have u1 := hk.cell 1
    simp only [List.getElem?_toArray, List.getElem?_cons_zero, List.getElem?_cons_succ] at u0 u1
    have u0h := Lib.hid u0
    have u1h := Lib.hid u1
    have hgf := gr_set (gr_set (gr_trans (gr_trans hg0 hg1) (gr_trans hg12 hg3)) (p := ⟨w.heap.size + 1, 0, none⟩) (.inr (Nat.le_succ _)) (.slice A' (p.part (pvw p)).ms.length c')) (p := ⟨w.heap.size + 1, 1, none⟩) (.inr (Nat.le_succ _)) (.slice B' (p.part (pvw p)).ps.length d')
    have hPo := Lib.hid (show partOf r p = p.part (pvw p) by unfold partOf; rw [hvh.out]; rfl)
    clear u0 u1 hk hO
    generalize p.part (pvw p) = pp at *
    go_wp2_with fail
    refine bodyPost_ret (v := .tuple #[.agg #[.slice A' pp.ms.length c', .slice B' pp.ps.length d'], .bool true]) (by simp [results, Try.results25, go_sem, u0h.out, u1h.out]) rfl ⟨?_, hgf⟩
    unfold PartPost
    rw [hvh.out, hPo.out]
    exact ⟨A', c', B', d', rfl, hO1.out⟩
end Go.Proofs.Ytkjkbcfifhakkaa
