/- What is drawn: plays. -/
import Derived.Test.YtkjkbcfifhakkaaDoorPlayNextS
import Derived.Test.YtkjkbcfifhakkaaDoorDraw2
namespace Go.Proofs.YtkjkbcfifhakkaaDoor
open Go.RowKit

theorem tys8_le' : ∀ t ∈ tys8, t.text.length ≤ 100 := by decide
theorem tys8_atoms' : ∀ t ∈ tys8, t.atoms ≤ 15 := by decide

/-- Blocks from one to ahead of another. -/
def In (lo hi : Nat) : Nat → Prop := fun b => lo ≤ b ∧ b < hi
/-- What the drawing of a legal play keeps. -/
def LInv (w : World) (q b5 b7 : Nat) (t : Ty) (T : Option Addr) (c0 p0 k : Nat) (wr : World) : Prop :=
  ∃ (d : PD) (pos : Nat), d.p.legal t = true ∧ d.p.ms.length ≤ k ∧ Blk wr b7 26 #[d.a, d.b] ∧ PlO wr w.heap.size d.p d.A d.cA d.B d.cB ∧ pos ≤ p0 + 2 + k ∧ Rd wr q pos ∧ w.grownBy wr (some q) ∧
    Blk wr w.heap.size 26 #[.slice none 0 0, .slice none 0 0] ∧ Blk wr b5 52 #[.slice T t.args.length c0] ∧ TreeV wr (In w.heap.size b5) (.slice T t.args.length c0) t
theorem PlO.keepq {w w' : World} {base q : Nat} {p : Pl} {A B : Option Addr} {cA cB : Nat} (h : PlO w base p A cA B cB) (hg : w.grownBy w' (some q)) (hq : q < base) : PlO w' base p A cA B cB :=
  ⟨own_keep2 h.1 hg fun g hg' _ e => by have := own_base h.1 hg'; injection e; omega, own_keep2 h.2 hg fun g hg' _ e => by have := own_base h.2 hg'; injection e; omega⟩
theorem TreeV.keepq {w w' : World} {base hi q : Nat} {v : Value} {t : Ty} (h : TreeV w (In base hi) v t) (hg : w.grownBy w' (some q)) (hq : q < base) : TreeV w' (In base hi) v t :=
  h.keep fun b hb hl => hg.block b hl fun e => by injection e with e; unfold In at hb; omega
theorem smallP_legal {t : Ty} (ht : t.atoms ≤ 15) {p : Pl} (hp : p.legal t = true) : SmallP p := by
  unfold Pl.legal at hp
  simp only [Bool.and_eq_true] at hp
  have h1 := Pl.ok_iff.1 hp.1
  refine ⟨⟨by omega, fun m hm => ?_⟩, by omega⟩
  obtain ⟨i, hi, rfl⟩ := List.mem_iff_getElem.1 hm
  have h2 := isMove_len ht (Pl.ok_mv hp.1 hi).1
  rw [mv_lt hi] at h2
  omega

section
variable {w wr wz : World} {q b5 b7 : Nat} {t : Ty} {T : Option Addr} {c0 p0 k : Nat}
/-- After a draw. -/
theorem LInv.picked {d : PD} {pos : Nat} (hq : q < w.heap.size) (hb5 : q < b5) (hb7 : q < b7) (h1 : d.p.legal t = true) (h2 : d.p.ms.length ≤ k) (h3 : Blk wr b7 26 #[d.a, d.b]) (h4 : PlO wr w.heap.size d.p d.A d.cA d.B d.cB)
    (h7 : w.grownBy wr (some q)) (h8 : Blk wr w.heap.size 26 #[.slice none 0 0, .slice none 0 0]) (h9 : Blk wr b5 52 #[.slice T t.args.length c0]) (h10 : TreeV wr (In w.heap.size b5) (.slice T t.args.length c0) t)
    (hg : wr.grownBy wz (some q)) (hp : pos ≤ p0 + 2 + k) (hr : Rd wz q pos) : LInv w q b5 b7 t T c0 p0 k wz :=
  ⟨d, pos, h1, h2, h3.grown hg (by simp; omega), h4.keepq hg hq, hp, hr, gr_trans h7 hg, h8.grown hg (by simp; omega), h9.grown hg (by simp; omega), h10.keepq hg hq⟩
/-- Behind the store of the next play. -/
theorem LInv.stored {d : PD} {pos : Nat} {cs : Array Value} (hq : q < w.heap.size) (hb5 : w.heap.size < b5) (hb7 : b5 < b7) (h1 : d.p.legal t = true) (h2 : d.p.ms.length ≤ k + 1) (h3 : Blk wr b7 26 cs) (hcs : cs.size = 2) (h4 : PlO wr w.heap.size d.p d.A d.cA d.B d.cB)
    (h5 : pos ≤ p0 + 2 + (k + 1)) (h6 : Rd wr q pos) (h7 : w.grownBy wr (some q)) (h8 : Blk wr w.heap.size 26 #[.slice none 0 0, .slice none 0 0]) (h9 : Blk wr b5 52 #[.slice T t.args.length c0]) (h10 : TreeV wr (In w.heap.size b5) (.slice T t.args.length c0) t) :
    LInv w q b5 b7 t T c0 p0 (k + 1) ((wr.setCell ⟨b7, 0, none⟩ d.a).setCell ⟨b7, 1, none⟩ d.b) := by
  have hG := gr_set (gr_set (gr_refl wr (some b7)) (p := ⟨b7, 0, none⟩) (.inl rfl) d.a) (p := ⟨b7, 1, none⟩) (.inl rfl) d.b
  refine ⟨d, pos, h1, h2, ?_, h4.growP hG (fun g hg => by cases hg; exact ⟨_, h3⟩), h5, h6.grown hG (fun g hg => by cases hg; omega), gr_set (gr_set h7 (p := ⟨b7, 0, none⟩) (.inr (by show w.heap.size ≤ b7; omega)) _) (p := ⟨b7, 1, none⟩) (.inr (by show w.heap.size ≤ b7; omega)) _,
    h8.grown hG (by simp; omega), h9.grown hG (by simp; omega), h10.keep fun b hb hl => hG.block b hl fun e => by injection e with e; unfold In at hb; omega⟩
  have := (h3.set 0 d.a).set 1 d.b
  have e : (cs.setIfInBounds 0 d.a).setIfInBounds 1 d.b = #[d.a, d.b] := by
    obtain ⟨l⟩ := cs
    match l, hcs with
    | [x, y], _ => rfl
  rw [e] at this
  exact this
theorem next_get {p : Pl} {D : List PD} (ht : t.atoms ≤ 15) (hp : p.legal t = true) (h60 : p.ms.length < 60) (h : D.map PD.p = Pl.nextL t p) {x : Nat} (hx : x < D.length) : D[x].p.legal t = true ∧ D[x].p.ms.length ≤ p.ms.length + 1 := by
  obtain ⟨h1, m, y, h2⟩ := Pl.mem_next ht hp h60 (q := D[x].p) (by rw [← h]; exact List.mem_map.2 ⟨_, List.getElem_mem hx, rfl⟩)
  exact ⟨h1, by rw [h2]; simp [Pl.snoc]⟩
end

/-- Behind the store into the result's place. -/
theorem stored_play {w wr : World} {q pos : Nat} {pp : Pl} {A B : Option Addr} {cA cB : Nat} (hq : q < w.heap.size) (i4 : PlO wr w.heap.size pp A cA B cB) (i6 : Rd wr q pos) (i7 : w.grownBy wr (some q)) (i8 : Blk wr w.heap.size 26 #[.slice none 0 0, .slice none 0 0]) :
    ∀ wz : World, wz = ((wr.setCell ⟨w.heap.size, 0, none⟩ (.slice A pp.ms.length cA)).setCell ⟨w.heap.size, 1, none⟩ (.slice B pp.ps.length cB)).drew → PlO wz w.heap.size pp A cA B cB ∧ Rd wz q pos ∧ w.grownBy wz (some q) ∧ wz.cell? ⟨w.heap.size, 0, none⟩ = some (.slice A pp.ms.length cA) ∧ wz.cell? ⟨w.heap.size, 1, none⟩ = some (.slice B pp.ps.length cB) := by
  rintro wz rfl
  have hG := gr_drew (gr_set (gr_set (gr_refl wr (some w.heap.size)) (p := ⟨w.heap.size, 0, none⟩) (.inl rfl) (.slice A pp.ms.length cA)) (p := ⟨w.heap.size, 1, none⟩) (.inl rfl) (.slice B pp.ps.length cB))
  have hbz := ((i8.set 0 (.slice A pp.ms.length cA)).set 1 (.slice B pp.ps.length cB)).grown0 (gr_drew (gr_refl _ none))
  have z0 := hbz.cell 0
  have z1 := hbz.cell 1
  simp at z0 z1
  exact ⟨i4.growP hG (fun g hg => by cases hg; exact ⟨_, i8⟩), i6.grown hG (fun g hg => by cases hg; exact hq), gr_drew (gr_set (gr_set i7 (.inr (Nat.le_refl _)) _) (.inr (Nat.le_refl _)) _), z0, z1⟩

set_option maxRecDepth 100000 in
set_option maxHeartbeats 4000000 in
/-- A type of the eight and a legal play of it, its lists one's own. -/
theorem l91Legal_any (q p0 : Nat) (w : World) (h : Rd w q p0) (hp : p0 ≤ 1000000) (hq : q < w.heap.size) :
    Calls Tryd.prog 39 #[.pointer (some ⟨q, 0, none⟩)] w fun e w' => ∃ (t : Ty) (d : PD), t ∈ tys8 ∧ e = .returned (.tuple #[.string ⟨t.text.toArray⟩, .agg #[d.a, d.b]]) ∧ d.p.legal t = true ∧ d.p.ms.length ≤ 9 ∧ PlO w' w.heap.size d.p d.A d.cA d.B d.cB ∧ (∃ k, k ≤ p0 + 20 ∧ Rd w' q k) ∧ w.grownBy w' (some q) := by
  have hg0 := World.grownBy_alloc w (.cells #[.slice none 0 0, .slice none 0 0] 26) none
  have hr0 := h.grown0 hg0
  go_enter Tryd.func39, Tryd.ntmps39
  go_wp2_with fail
  refine (l91Type_any q p0 _ hr0 (by omega)).mono ?_
  rintro e w1 ⟨t, ht8, rfl, hr1, hg1⟩
  have hle := tys8_le' t ht8
  have hat := tys8_atoms' t ht8
  go_wp2_with fail
  refine (l1Type_any t.text w1 (by omega)).mono ?_
  intro e w2 hT
  unfold TypePost at hT
  rw [Ty.read_text hat] at hT
  obtain ⟨hg2, T, c0, rfl, hk⟩ := hT
  go_wp2_with fail
  have hs1 := hg1.size
  have hs2 := hg2.size
  rw [World.size_alloc] at hs1
  have hgp := gr_trans (gr_trans (gr_weak hg0 (some q)) hg1) (gr_weak (gr_alloc (gr_alloc (gr_alloc (gr_alloc hg2 (.cells #[.slice T t.args.length c0] 52)) (.cells #[] 9)) (.cells #[] 3)) (.cells #[.slice (some ⟨w2.heap.size + 1, 0, none⟩) 0 0, .slice (some ⟨w2.heap.size + 1 + 1, 0, none⟩) 0 0] 26)) (some q))
  have hrp := hr1.grown0 (gr_alloc (gr_alloc (gr_alloc (gr_alloc hg2 (.cells #[.slice T t.args.length c0] 52)) (.cells #[] 9)) (.cells #[] 3)) (.cells #[.slice (some ⟨w2.heap.size + 1, 0, none⟩) 0 0, .slice (some ⟨w2.heap.size + 1 + 1, 0, none⟩) 0 0] 26))
  have hbr := ((Blk.new w 26 #[.slice none 0 0, .slice none 0 0]).grown hg1 (by simp; omega)).grown0 hg2
  have hbt := Blk.new w2 52 #[.slice T t.args.length c0]
  have hb7 := Blk.new (((w2.alloc (.cells #[.slice T t.args.length c0] 52)).alloc (.cells #[] 9)).alloc (.cells #[] 3)) 26 #[.slice (some ⟨w2.heap.size + 1, 0, none⟩) 0 0, .slice (some ⟨w2.heap.size + 1 + 1, 0, none⟩) 0 0]
  have e1 := own_empty (w := w2.alloc (.cells #[.slice T t.args.length c0] 52)) (base := w.heap.size) 9 (by rw [World.size_alloc]; omega)
  have e2 := own_empty (w := (w2.alloc (.cells #[.slice T t.args.length c0] 52)).alloc (.cells #[] 9)) (base := w.heap.size) 3 (by rw [World.size_alloc, World.size_alloc]; omega)
  simp only [World.size_alloc] at hb7 e1 e2
  have hI0 : LInv w q w2.heap.size (w2.heap.size + 1 + 1 + 1) t T c0 p0 0 ((((w2.alloc (.cells #[.slice T t.args.length c0] 52)).alloc (.cells #[] 9)).alloc (.cells #[] 3)).alloc (.cells #[.slice (some ⟨w2.heap.size + 1, 0, none⟩) 0 0, .slice (some ⟨w2.heap.size + 1 + 1, 0, none⟩) 0 0] 26)) :=
    ⟨⟨⟨[], []⟩, some ⟨w2.heap.size + 1, 0, none⟩, 0, some ⟨w2.heap.size + 1 + 1, 0, none⟩, 0⟩, p0 + 1, Pl.legal_empty rfl rfl, Nat.le_refl _, hb7, ⟨own_keep (own_keep e1 (World.grownBy_alloc _ _ _)) (World.grownBy_alloc _ _ _), own_keep e2 (World.grownBy_alloc _ _ _)⟩, by omega, hrp, hgp,
      (((hbr.alloc _).alloc _).alloc _).alloc _, ((hbt.alloc _).alloc _).alloc _, (hk.mono (G := In w.heap.size w2.heap.size) (fun b h1 h2 => by unfold Fr at h1; unfold In; omega)).grown0 (gr_alloc (gr_alloc (gr_alloc (World.grownBy_alloc _ _ _) _) _) _)⟩
  have hq5 : q < w2.heap.size := by omega
  clear hbr hbt hb7 e1 e2 hgp hrp hr1 hr0 h hg0
  obtain ⟨d0, pos0, i1, i2, i3, i4, i5, i6, i7, i8, i9, i10⟩ := hI0
  refine (pick_any q pos0 9 _ i6 (by omega) (by decide) (by decide)).mono ?_
  rintro e w5 ⟨n, hn, rfl, hr5, hg5⟩
  have hI5 : LInv w q w2.heap.size (w2.heap.size + 1 + 1 + 1) t T c0 (p0 + 1) 0 w5 := LInv.picked hq (by omega) (by omega) i1 i2 i3 i4 i7 i8 i9 i10 hg5 (by omega) hr5
  have hIh := Lib.hid hI5
  clear i1 i2 i3 i4 i5 i6 i7 i8 i9 i10 hI5 hr5 hg5 hk hg2 hg1
  go_wp2_with fail
  go_loopw [9] (fun i wr => ∃ (k : Nat), k ≤ n ∧ i = .int .i64 (k : Int) ∧ LInv w q w2.heap.size (w2.heap.size + 1 + 1 + 1) t T c0 (p0 + 1) k wr) (fun i _ => n - (intOf i).toNat)
  case atStart => exact ⟨0, Nat.zero_le _, rfl, hIh.out⟩
  case round =>
    clear hIh
    obtain ⟨k, hkn, rfl, ⟨pp, A, cA, B, cB⟩, pos, i1, i2, i3, i4, i5, i6, i7, i8, i9, i10⟩ := hrel
    simp only [PD.a, PD.b] at i1 i2 i3 i4
    have x0 := i3.cell 0
    have x1 := i3.cell 1
    have t0 := i9.cell 0
    have y0 := i8.cell 0
    have y1 := i8.cell 1
    have f0 := i8.free 0
    have f1 := i8.free 1
    simp only [List.getElem?_toArray, List.getElem?_cons_zero, List.getElem?_cons_succ] at x0 x1 t0 y0 y1
    have hlh := Lib.hid i1
    have hNx := Lib.hid (l2Next_any t hat T c0 pp i1 (by omega) A cA B cB _ _ wr i10 i4.sl (smallP_legal hat i1))
    by_cases hlt : k < n
    · go_wp2_with fail
      refine hNx.out.mono ?_
      rintro e w3 ⟨A', c', D, rfl, hD, hDp, hg3⟩
      have i3' := i3.grown0 hg3
      have i4' := i4.keep hg3
      have i6' := i6.grown0 hg3
      have i7' := gr_trans i7 (gr_weak hg3 (some q))
      have i8' := i8.grown0 hg3
      have i9' := i9.grown0 hg3
      have i10' := i10.grown0 hg3
      have hDph := Lib.hid hDp
      have hwr := i7.size
      clear hDp i3 i4 i6 i7 i8 i9 i10 hNx x0 x1 t0 y0 y1 f0 f1
      have x0 := i3'.cell 0
      have x1 := i3'.cell 1
      have u0 := i3'.free 0
      have u1 := i3'.free 1
      have y0 := i8'.cell 0
      have y1 := i8'.cell 1
      have f0 := i8'.free 0
      have f1 := i8'.free 1
      simp only [List.getElem?_toArray, List.getElem?_cons_zero, List.getElem?_cons_succ] at x0 x1 y0 y1
      by_cases hD0 : D.length = 0
      · have hfin := Lib.hid (stored_play hq i4' i6' i7' i8')
        rw [hD0] at hD ⊢
        go_wp2_with fail
        go_region
        go_wp2_with fail
        obtain ⟨z1, z2, z3, z4, z5⟩ := hfin.out _ rfl
        generalize ((w3.setCell ⟨w.heap.size, 0, none⟩ (.slice A pp.ms.length cA)).setCell ⟨w.heap.size, 1, none⟩ (.slice B pp.ps.length cB)).drew = wz at z1 z2 z3 z4 z5 ⊢
        refine bodyPost_ret (v := .tuple #[.string ⟨t.text.toArray⟩, .agg #[.slice A pp.ms.length cA, .slice B pp.ps.length cB]]) (by simp [results, Tryd.results39, go_sem, z4, z5]) rfl ⟨t, ⟨pp, A, cA, B, cB⟩, ht8, rfl, hlh.out, by simp only at i2 ⊢; omega, z1, ⟨pos, by omega, z2⟩, z3⟩
      · have hDn : ((D.length : Int) == 0) = false := by rw [beq_eq_false_iff_ne]; omega
        have hqb : q < w2.heap.size + 1 + 1 + 1 := by omega
        have get : ∀ (x : Nat) (w6 : World) (hx : x < D.length), Rd w6 q (pos + 1) → w3.grownBy w6 (some q) → ∃ g cap n1 Ax cAx n2 Bx cBx, Value.slice A' D.length c' = .slice (some ⟨g, 0, none⟩) D.length cap ∧ w6.cell? ⟨g, x * 2, none⟩ = some (.slice Ax n1 cAx) ∧ w6.cell? ⟨g, x * 2 + 1, none⟩ = some (.slice Bx n2 cBx) ∧
            LInv w q w2.heap.size (w2.heap.size + 1 + 1 + 1) t T c0 (p0 + 1) (k + 1) ((w6.setCell ⟨w2.heap.size + 1 + 1 + 1, 0, none⟩ (.slice Ax n1 cAx)).setCell ⟨w2.heap.size + 1 + 1 + 1, 1, none⟩ (.slice Bx n2 cBx)) := fun x w6 hx hr6 hg6 => by
          obtain ⟨k1, k2⟩ := next_get hat hlh.out (by omega) hDph.out hx
          have hF := LInv.stored (p0 := p0 + 1) hq (by omega) (by omega) k1 (by omega : _ ≤ k + 1) (i3'.grown hg6 (by simp; omega)) rfl (((hD.2 _ (List.getElem_mem hx)).weak (by omega)).keepq hg6 hq) (by omega) hr6 (gr_trans i7' hg6) (i8'.grown hg6 (by simp; omega)) (i9'.grown hg6 (by simp; omega)) (i10'.keepq hg6 hq)
          obtain ⟨g, cap, e1, hgb, c0, c1⟩ := hD.get hx
          have hlt := World.block_lt_of_cell? w3 ⟨g, 2 * x, none⟩ c0
          rw [Nat.mul_comm x 2]
          exact ⟨g, cap, _, _, _, _, _, _, e1, (World.cell?_of_block (w := w3) (a := ⟨g, 2 * x, none⟩) (hg6.block g hlt (by simp; omega))).trans c0, (World.cell?_of_block (w := w3) (a := ⟨g, 2 * x + 1, none⟩) (hg6.block g hlt (by simp; omega))).trans c1, hF⟩
        have geth := Lib.hid get
        clear get
        have hend : ∀ (m : Nat) (hm : m ≤ D.length) (h1 : 1 ≤ m) (h200 : m ≤ 200), Calls Tryd.prog 40 #[.pointer (some ⟨q, 0, none⟩), .int .i64 (m : Int)] w3 fun e w' => ∃ i : Nat, i < m ∧ e = .returned (.int .i64 (i : Int)) ∧ Rd w' q (pos + 1) ∧ w3.grownBy w' (some q) := fun m hm h1 h200 => pick_any q pos m w3 i6' (by omega) h1 (by omega)
        have hendh := Lib.hid hend
        clear hend
        rcases Nat.lt_or_ge D.length 200 with h2 | h2
        · have h3 : ¬ (200 : Int) ≤ (D.length : Int) := by omega
          have h4 : (D.length : Int) < 200 := by omega
          go_wp2_with fail
          refine (hendh.out D.length (Nat.le_refl _) (by omega) (by omega)).mono ?_
          rintro e w6 ⟨x, hx, rfl, hr6, hg6⟩
          have hx0 : 0 ≤ (x : Int) := by omega
          have hx1 : (x : Int) < (D.length : Int) := by omega
          have hxn : x < D.length := by omega
          obtain ⟨g, cap, n1, Ax, cAx, n2, Bx, cBx, e1, d0, d1, hF⟩ := geth.out x w6 hxn hr6 hg6
          have hFh := Lib.hid hF
          clear hF
          injection e1 with e1 _ e2
          subst e1 e2
          have u0 := (i3'.grown hg6 (by simp; omega)).cell 0
          have u1 := (i3'.grown hg6 (by simp; omega)).cell 1
          have v0 := (i3'.grown hg6 (by simp; omega)).free 0
          have v1 := (i3'.grown hg6 (by simp; omega)).free 1
          simp only [List.getElem?_toArray, List.getElem?_cons_zero, List.getElem?_cons_succ] at u0 u1
          go_wp2_with fail
          go_roundw
          case rel => exact ⟨k + 1, by omega, by go_num, hFh.out⟩
          case measure => simp [intOf]; omega
        · have h3 : (200 : Int) ≤ (D.length : Int) := by omega
          have h4 : ¬ (D.length : Int) < 200 := by omega
          go_wp2_with fail
          refine (hendh.out 200 (by omega) (by decide) (by decide)).mono ?_
          rintro e w6 ⟨x, hx, rfl, hr6, hg6⟩
          have hx0 : 0 ≤ (x : Int) := by omega
          have hx1 : (x : Int) < (D.length : Int) := by omega
          have hxn : x < D.length := by omega
          obtain ⟨g, cap, n1, Ax, cAx, n2, Bx, cBx, e1, d0, d1, hF⟩ := geth.out x w6 hxn hr6 hg6
          have hFh := Lib.hid hF
          clear hF
          injection e1 with e1 _ e2
          subst e1 e2
          have u0 := (i3'.grown hg6 (by simp; omega)).cell 0
          have u1 := (i3'.grown hg6 (by simp; omega)).cell 1
          have v0 := (i3'.grown hg6 (by simp; omega)).free 0
          have v1 := (i3'.grown hg6 (by simp; omega)).free 1
          simp only [List.getElem?_toArray, List.getElem?_cons_zero, List.getElem?_cons_succ] at u0 u1
          go_wp2_with fail
          go_roundw
          case rel => exact ⟨k + 1, by omega, by go_num, hFh.out⟩
          case measure => simp [intOf]; omega
    · obtain rfl : k = n := by omega
      go_wp2_with fail
      have hfin := Lib.hid (stored_play hq i4 i6 i7 i8)
      go_region
      go_wp2_with fail
      obtain ⟨z1, z2, z3, z4, z5⟩ := hfin.out _ rfl
      generalize ((wr.setCell ⟨w.heap.size, 0, none⟩ (.slice A pp.ms.length cA)).setCell ⟨w.heap.size, 1, none⟩ (.slice B pp.ps.length cB)).drew = wz at z1 z2 z3 z4 z5 ⊢
      refine bodyPost_ret (v := .tuple #[.string ⟨t.text.toArray⟩, .agg #[.slice A pp.ms.length cA, .slice B pp.ps.length cB]]) (by simp [results, Tryd.results39, go_sem, z4, z5]) rfl ⟨t, ⟨pp, A, cA, B, cB⟩, ht8, rfl, hlh.out, by simp only at i2 ⊢; omega, z1, ⟨pos, by omega, z2⟩, z3⟩
end Go.Proofs.YtkjkbcfifhakkaaDoor
