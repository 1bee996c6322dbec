/- Plays in memory; the statements' own helpers on them. -/
import Derived.Test.YtegidbdgneecmaaDoorInts
import Derived.Test.YtegidbdgneecmaaDoorOpen
namespace Go.Proofs.YtegidbdgneecmaaDoor
open Go.RowKit

/-- A play by value: where its moves and its pointers lie. -/
def PlS (w : World) (F : Nat → Prop) (p : Pl) (A B : Option Addr) : Prop := Sl w F A p.ms.length (sv p.ms) ∧ Sl w F B p.ps.length (iv p.ps)
theorem PlS.grown0 {w w' : World} {F : Nat → Prop} {p : Pl} {A B : Option Addr} (h : PlS w F p A B) (hg : w.grownBy w' none) : PlS w' F p A B := ⟨h.1.grown0 hg, h.2.grown0 hg⟩
theorem PlS.all {w : World} {F : Nat → Prop} {p : Pl} {A B : Option Addr} (h : PlS w F p A B) : PlS w Al p A B := ⟨h.1.mono fun _ _ _ => trivial, h.2.mono fun _ _ _ => trivial⟩
/-- A play whose lists are the call's own. -/
def PlO (w : World) (base : Nat) (p : Pl) (A : Option Addr) (cA : Nat) (B : Option Addr) (cB : Nat) : Prop :=
  w.ownsRow base 9 1 (.slice A p.ms.length cA) p.ms.length (p.ms.map strv) ∧ w.ownsRow base 3 1 (.slice B p.ps.length cB) p.ps.length (p.ps.map intv)
section
variable {w w' : World} {base : Nat} {p : Pl} {A B : Option Addr} {cA cB : Nat}
theorem PlO.sl (h : PlO w base p A cA B cB) : PlS w (Fr base) p A B := ⟨(own_sl h.1).1, (own_sli h.2).1⟩
theorem PlO.keep (h : PlO w base p A cA B cB) (hg : w.grownBy w' none) : PlO w' base p A cA B cB := ⟨own_keep h.1 hg, own_keep h.2 hg⟩
theorem PlO.weak (h : PlO w base p A cA B cB) {b : Nat} (hb : b ≤ base) : PlO w b p A cA B cB := ⟨own_weak h.1 hb, own_weak h.2 hb⟩
/-- A block ahead of a row of one's own is written. -/
theorem own_setlt {e : TypeId} {v : Value} {n : Nat} {xs : List Value} (h : w.ownsRow base e 1 v n xs) {a : Addr} (hg : a.block < base) (u : Value) : (w.setCell a u).ownsRow base e 1 v n xs :=
  own_keep2 h (gr_set (gr_refl w (some a.block)) (.inl rfl) u) (fun g hg' _ he => by
    have h1 := own_base h hg'
    cases he
    omega)
theorem PlO.setlt (h : PlO w base p A cA B cB) {a : Addr} (hg : a.block < base) (u : Value) : PlO (w.setCell a u) base p A cA B cB := ⟨own_setlt h.1 hg u, own_setlt h.2 hg u⟩
theorem own_ty {e : TypeId} {v : Value} {n : Nat} {xs : List Value} (h : w.ownsRow base e 1 v n xs) {g : Nat} (hg : v.ownBlock = some g) : ∃ cur, Blk w g e cur := by
  obtain ⟨_, ⟨rfl, _⟩ | ⟨g', cap', cur, rfl, _, hb, _⟩⟩ := h
  · cases hg
  · cases hg
    exact ⟨cur, hb⟩
/-- Rows of two types are two blocks. -/
theorem own_ne {e e' : TypeId} {b b' : Nat} {v v' : Value} {n n' : Nat} {xs xs' : List Value} (h : w.ownsRow b e 1 v n xs) (h' : w.ownsRow b' e' 1 v' n' xs') (he : e ≠ e') {g : Nat} (hg : v.ownBlock = some g) : some g ≠ v'.ownBlock := by
  intro e1
  obtain ⟨c1, k1⟩ := own_ty h hg
  obtain ⟨c2, k2⟩ := own_ty h' e1.symm
  unfold Blk at k1 k2
  rw [k1] at k2
  injection k2 with k2
  injection k2 with _ k3 _
  exact he k3
end

/-- What is known of a play that came in. -/
def IsPlay (w : World) (p : Pl) (A B : Option Addr) : Prop := IsStrs w A p.ms ∧ IsInts w B p.ps
theorem isPlay_grown {w w' : World} {p : Pl} {A B : Option Addr} (h : IsPlay w p A B) (hg : w.grownBy w' none) : IsPlay w' p A B := ⟨⟨h.1.1.grown0 hg, h.1.2⟩, h.2.1.grown0 hg, h.2.2⟩
theorem IsPlay.pls {w : World} {p : Pl} {A B : Option Addr} (h : IsPlay w p A B) : PlS w Al p A B := ⟨h.1.1, h.2.1⟩
/-- A play of few signs. -/
def SmallP (p : Pl) : Prop := Small p.ms ∧ p.ps.length ≤ 1048576

set_option maxHeartbeats 400000 in
theorem szPlay_any (p : Pl) (A : Option Addr) (cA : Nat) (B : Option Addr) (cB : Nat) (w : World) (h : IsPlay w p A B) :
    Calls Tryd.prog 4 #[.agg #[.slice A p.ms.length cA, .slice B p.ps.length cB], .int .i64 1048576] w fun e w' => ∃ r : Int, e = .returned (.int .i64 r) ∧ (0 ≤ r → SmallP p) ∧ w.grownBy w' none := by
  obtain ⟨⟨hA1, hA2, hA3⟩, hB1, hB2⟩ := h
  unfold maxLen at hA2 hA3 hB2
  have hbx := Blk.new w 25 #[.slice A p.ms.length cA, .slice B p.ps.length cB]
  have hg0 := World.grownBy_alloc w (.cells #[.slice A p.ms.length cA, .slice B p.ps.length cB] 25) none
  have hS := Lib.hid (szStringS_le p.ms A cA _ _ (hA1.grown0 hg0) hA2 hA3)
  clear hA3
  go_enter Tryd.func4, Tryd.ntmps4
  go_wp2_with fail
  refine hS.out.mono ?_
  rintro e w1 ⟨r, rfl, hsm, hr, hg1⟩
  have hb1 := hbx.grown0 hg1
  have c0 := hb1.cell 0
  have c1 := hb1.cell 1
  simp only [List.getElem?_toArray, List.getElem?_cons_zero, List.getElem?_cons_succ] at c0 c1
  have hlt := hb1.lt
  have hg2 := gr_trans hg0 hg1
  have hsmh := Lib.hid hsm
  clear hsm
  by_cases h0 : r < 0
  · go_wp2_with fail
    go_ret
    exact ⟨_, rfl, fun h => absurd h (by omega), hg2⟩
  · go_wp2_with fail
    refine (szIntS_any p.ps B cB r w1 hB2 (by omega) hr).mono ?_
    rintro e w2 ⟨r2, rfl, hl2, rfl⟩
    have hl2h := Lib.hid hl2
    clear hl2
    by_cases h1 : r2 < 0
    · go_wp2_with fail
      go_ret
      exact ⟨_, rfl, fun h => absurd h (by omega), hg2⟩
    · go_wp2_with fail
      go_ret
      exact ⟨_, rfl, fun h => ⟨hsmh.out (by omega), hl2h.out h⟩, hg2⟩

set_option maxHeartbeats 1000000 in
theorem toPlay_any (p : Pl) (A : Option Addr) (cA : Nat) (B : Option Addr) (cB : Nat) (F : Nat → Prop) (w : World) (h : PlS w F p A B) (h1 : p.ms.length ≤ 1048576) (h2 : p.ps.length ≤ 1048576) :
    Calls Tryd.prog 6 #[.agg #[.slice A p.ms.length cA, .slice B p.ps.length cB]] w fun e w' => ∃ A' c' B' d', e = .returned (.agg #[.slice A' p.ms.length c', .slice B' p.ps.length d']) ∧ PlO w' w.heap.size p A' c' B' d' ∧ w.grownBy w' none := by
  obtain ⟨hA, hB⟩ := h
  have hbx := Blk.new w 25 #[.slice A p.ms.length cA, .slice B p.ps.length cB]
  have hg0 := World.grownBy_alloc w (.cells #[.slice A p.ms.length cA, .slice B p.ps.length cB] 25) none
  have hbx1 := (hbx.alloc (.cells #[.slice none 0 0, .slice none 0 0] 30)).alloc (.cells #[.slice none 0 0, .slice none 0 0] 30)
  have hby := Blk.new ((w.alloc (.cells #[.slice A p.ms.length cA, .slice B p.ps.length cB] 25)).alloc (.cells #[.slice none 0 0, .slice none 0 0] 30)) 30 #[.slice none 0 0, .slice none 0 0]
  rw [World.size_alloc, World.size_alloc] at hby
  have hbz := (Blk.new (w.alloc (.cells #[.slice A p.ms.length cA, .slice B p.ps.length cB] 25)) 30 #[.slice none 0 0, .slice none 0 0]).alloc (.cells #[.slice none 0 0, .slice none 0 0] 30)
  rw [World.size_alloc] at hbz
  have hg1 := gr_alloc (gr_alloc hg0 (.cells #[.slice none 0 0, .slice none 0 0] 30)) (.cells #[.slice none 0 0, .slice none 0 0] 30)
  go_enter Tryd.func6, Tryd.ntmps6
  go_wp2_with fail
  refine (toStringS_any p.ms A cA F _ (hA.grown0 hg1) (by omega)).mono ?_
  rintro e w1 ⟨A', c', rfl, hown1, hg2⟩
  have hx1 := hbx1.grown0 hg2
  have hy1 := hby.grown0 hg2
  have a0 := hx1.cell 0
  have a1 := hx1.cell 1
  have b0 := hy1.cell 0
  have b1 := hy1.cell 1
  have f0 := hy1.free 0
  simp only [List.getElem?_toArray, List.getElem?_cons_zero, List.getElem?_cons_succ] at a0 a1 b0 b1
  have lt1 := hy1.lt
  have hy2 := hy1.set 0 (.slice A' p.ms.length c')
  have hx2 := hx1.other (p := ⟨w.heap.size + 1 + 1, 0, none⟩) (by simp; omega) (.slice A' p.ms.length c')
  have hg3 := gr_set (gr_trans hg1 hg2) (p := ⟨w.heap.size + 1 + 1, 0, none⟩) (.inr (by simp; omega)) (.slice A' p.ms.length c')
  have hown2 := own_setlt hown1 (a := ⟨w.heap.size + 1 + 1, 0, none⟩) (by simp) (.slice A' p.ms.length c')
  have hB2 := hB.grown0 hg3
  have hz2 := Lib.hid ((hbz.grown0 hg2).other (p := ⟨w.heap.size + 1 + 1, 0, none⟩) (by simp) (.slice A' p.ms.length c'))
  have hxh := Lib.hid hx2
  have hyh := Lib.hid hy2
  clear hx1 hy1 hx2 hy2 hbx hby hbx1 hbz
  go_wp2_with fail
  refine (toIntS_any p.ps B cB F _ hB2 (by omega)).mono ?_
  rintro e w2 ⟨B', d', rfl, hownB, hg4⟩
  have hy3 := hyh.out.grown0 hg4
  simp only [List.setIfInBounds_toArray, List.set_cons_zero] at hy3
  have hz3 := hz2.out.grown0 hg4
  have z0 := hz3.cell 0
  have z1 := hz3.cell 1
  have zf0 := hz3.free 0
  have zf1 := hz3.free 1
  have b2 := hy3.cell 0
  have b3 := hy3.cell 1
  have f1 := hy3.free 1
  simp only [List.getElem?_toArray, List.getElem?_cons_zero, List.getElem?_cons_succ] at b2 b3 z0 z1
  have lt2 := hy3.lt
  have hsz := hg2.size
  simp only [World.size_alloc] at hsz hown2
  have hO3 : PlO w2 (w.heap.size + 1 + 1 + 1) p A' c' B' d' := ⟨own_keep hown2 hg4, own_weak hownB (by simpa using hsz)⟩
  have hO := ((hO3.setlt (a := ⟨w.heap.size + 1 + 1, 1, none⟩) (by simp) (.slice B' p.ps.length d')).setlt (a := ⟨w.heap.size + 1, 0, none⟩) (by simp) (.slice A' p.ms.length c')).setlt (a := ⟨w.heap.size + 1, 1, none⟩) (by simp) (.slice B' p.ps.length d')
  have hg5 := gr_set (gr_set (gr_set (gr_trans hg3 hg4) (p := ⟨w.heap.size + 1 + 1, 1, none⟩) (.inr (by simp; omega)) (.slice B' p.ps.length d')) (p := ⟨w.heap.size + 1, 0, none⟩) (.inr (by simp)) (.slice A' p.ms.length c')) (p := ⟨w.heap.size + 1, 1, none⟩) (.inr (by simp)) (.slice B' p.ps.length d')
  have hz4 := ((hz3.other (p := ⟨w.heap.size + 1 + 1, 1, none⟩) (by simp) (.slice B' p.ps.length d')).set 0 (.slice A' p.ms.length c')).set 1 (.slice B' p.ps.length d')
  have y0 := hz4.cell 0
  have y1 := hz4.cell 1
  simp only [List.setIfInBounds_toArray, List.set_cons_zero, List.set_cons_succ, List.getElem?_toArray, List.getElem?_cons_zero, List.getElem?_cons_succ] at y0 y1
  have y0h := Lib.hid y0
  have y1h := Lib.hid y1
  have hOh := Lib.hid hO
  clear y0 y1 hz4 hO
  go_wp2_with fail
  refine bodyPost_ret (v := .agg #[.slice A' p.ms.length c', .slice B' p.ps.length d']) (by simp [results, Tryd.results6, go_sem, y0h.out, y1h.out]) rfl ⟨A', c', B', d', rfl, hOh.out.weak (by omega), hg5⟩
/-- Are two plays alike? -/
def plEq (p q : Pl) : Bool := p.ms == q.ms && p.ps == q.ps
theorem plEq_self (p : Pl) : plEq p p = true := by simp [plEq]
theorem plEq_iff {p q : Pl} : plEq p q = true ↔ p = q := by
  obtain ⟨a, b⟩ := p
  obtain ⟨c, d⟩ := q
  simp [plEq]

set_option maxHeartbeats 400000 in
theorem eqPlay_any (p q : Pl) (A : Option Addr) (cA : Nat) (B : Option Addr) (cB : Nat) (A' : Option Addr) (c' : Nat) (B' : Option Addr) (d' : Nat) (F G : Nat → Prop) (w : World) (h : PlS w F p A B) (k : PlS w G q A' B')
    (h1 : p.ms.length ≤ 1048576) (h2 : p.ps.length ≤ 1048576) (k1 : q.ms.length ≤ 1048576) (k2 : q.ps.length ≤ 1048576) :
    Calls Tryd.prog 9 #[.agg #[.slice A p.ms.length cA, .slice B p.ps.length cB], .agg #[.slice A' q.ms.length c', .slice B' q.ps.length d']] w fun e w' => e = .returned (.bool (plEq p q)) ∧ w.grownBy w' none := by
  have hbx := Blk.new w 30 #[.slice A p.ms.length cA, .slice B p.ps.length cB]
  have hg0 := World.grownBy_alloc w (.cells #[.slice A p.ms.length cA, .slice B p.ps.length cB] 30) none
  have hby := Blk.new (w.alloc (.cells #[.slice A p.ms.length cA, .slice B p.ps.length cB] 30)) 30 #[.slice A' q.ms.length c', .slice B' q.ps.length d']
  have hbx1 := hbx.alloc (.cells #[.slice A' q.ms.length c', .slice B' q.ps.length d'] 30)
  have hg1 := gr_alloc hg0 (.cells #[.slice A' q.ms.length c', .slice B' q.ps.length d'] 30)
  rw [World.size_alloc] at hby
  have h := h.grown0 hg1
  have k := k.grown0 hg1
  go_enter Tryd.func9, Tryd.ntmps9
  go_wp2_with fail
  refine (eqStringS_any p.ms q.ms A A' cA c' F G _ h.1 k.1 (by omega) (by omega)).mono ?_
  rintro e w1 ⟨rfl, hg2⟩
  have hx1 := hbx1.grown0 hg2
  have hy1 := hby.grown0 hg2
  have a0 := hx1.cell 1
  have b0 := hy1.cell 1
  simp only [List.getElem?_toArray, List.getElem?_cons_zero, List.getElem?_cons_succ] at a0 b0
  have lt1 := hy1.lt
  cases he : (p.ms == q.ms) with
  | false =>
    have hE := Lib.hid (show plEq p q = false by unfold plEq; rw [he]; rfl)
    clear he
    go_wp2_with fail
    go_ret
    exact ⟨by rw [hE.out]; rfl, gr_trans hg1 hg2⟩
  | true =>
    have hE := Lib.hid (show plEq p q = (p.ps == q.ps) by unfold plEq; rw [he]; rfl)
    clear he
    go_wp2_with fail
    refine (eqIntS_any p.ps q.ps B B' cB d' F G _ (h.2.grown0 hg2) (k.2.grown0 hg2) (by omega) (by omega)).mono ?_
    rintro e w2 ⟨rfl, hg3⟩
    have hg := gr_trans hg1 (gr_trans hg2 hg3)
    cases he : (p.ps == q.ps) with
    | false =>
      have hE2 := Lib.hid (show plEq p q = false by rw [hE.out, he])
      clear he
      go_wp2_with fail
      go_ret
      exact ⟨by rw [hE2.out]; rfl, hg⟩
    | true =>
      have hE2 := Lib.hid (show plEq p q = true by rw [hE.out, he])
      clear he
      go_wp2_with fail
      go_ret
      exact ⟨by rw [hE2.out]; rfl, hg⟩

/-- The play of marks. -/
def markP (k n m : Nat) : Pl := ⟨marks k n, imarks (k + n) m⟩
/-- Two worlds between which two blocks alone are written. -/
def Gr2 (w w' : World) (v u : Value) : Prop := ∃ w1, w.grownBy w1 v.ownBlock ∧ w1.grownBy w' u.ownBlock

set_option maxHeartbeats 1000000 in
theorem markPlay_any (base n m cA cB k : Nat) (A B : Option Addr) (vs us : List Value) (w : World) (hA : w.ownsRow base 9 1 (.slice A n cA) n vs) (hB : w.ownsRow base 3 1 (.slice B m cB) m us)
    (hn : n ≤ 100000000) (hm : m ≤ 100000000) (hk1 : 1 ≤ k) (hk2 : k ≤ 100000000) :
    Calls Tryd.prog 10 #[.agg #[.slice A n cA, .slice B m cB], .int .i64 (k : Int)] w fun e w' => e = .returned (.int .i64 ((k + n + m : Nat) : Int)) ∧
      w'.ownsRow base 9 1 (.slice A n cA) n ((marks k n).map strv) ∧ w'.ownsRow base 3 1 (.slice B m cB) m ((imarks (k + n) m).map intv) ∧ ∃ w1 w2, w.grownBy w1 none ∧ w1.grownBy w2 (Value.slice A n cA).ownBlock ∧ w2.grownBy w' (Value.slice B m cB).ownBlock := by
  have hbx := Blk.new w 30 #[.slice A n cA, .slice B m cB]
  have hg0 := World.grownBy_alloc w (.cells #[.slice A n cA, .slice B m cB] 30) none
  have hA1 := own_keep hA hg0
  have hB1 := own_keep hB hg0
  have hlA : ∀ g, (Value.slice A n cA).ownBlock = some g → g < w.heap.size := fun g hg => by obtain ⟨_, h⟩ := own_ty hA hg; exact h.lt
  go_enter Tryd.func10, Tryd.ntmps10
  go_wp2_with fail
  refine (markStringS_any base n cA k A vs _ hA1 (by omega) hk1 (by omega)).mono ?_
  rintro e w1 ⟨rfl, hA2, hg1⟩
  have hx1 := hbx.grown hg1 (fun e => by have := hlA _ e.symm; omega)
  have a1 := hx1.cell 1
  simp only [List.getElem?_toArray, List.getElem?_cons_zero, List.getElem?_cons_succ] at a1
  have lt1 := hx1.lt
  have hB2 := own_keep2 hB1 hg1 (fun g hg _ => own_ne hB1 hA1 (by decide) hg)
  have hM := Lib.hid (markIntS_any base m cB (k + n) B us w1 hB2 (by omega) (by omega) (by omega))
  rw [Int.natCast_add]
  go_wp2_with fail
  have hM2 := hM.out
  rw [Int.natCast_add] at hM2
  refine hM2.mono ?_
  rintro e w2 ⟨rfl, hB3, hg2⟩
  have hA3 := own_keep2 hA2 hg2 (fun g hg _ => own_ne hA2 hB2 (by decide) hg)
  go_wp2_with fail
  go_ret
  exact ⟨ret_int (by go_num), hA3, hB3, _, _, hg0, hg1, hg2⟩
end Go.Proofs.YtegidbdgneecmaaDoor
