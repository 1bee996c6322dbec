/- What is drawn: a play that need not be visible or bracketed. -/
import Derived.Test.YtkjkbcfifhakkaaDoorPlayNextS
import Derived.Test.YtkjkbcfifhakkaaDoorPlayDraw
import Derived.Deep.RegionHeld3
namespace Go.Proofs.YtkjkbcfifhakkaaDoor
open Go.RowKit

/-- A list of short moves with as many pointers. -/
def LooseP (k : Nat) (p : Pl) : Prop := p.ps.length = p.ms.length ∧ p.ms.length ≤ k ∧ ∀ m ∈ p.ms, m.length ≤ 8
theorem LooseP.snoc {k : Nat} {p : Pl} {m : List UInt8} {x : Int} (h : LooseP k p) (hm : m.length ≤ 8) : LooseP (k + 1) (p.snoc m x) := by
  obtain ⟨h1, h2, h3⟩ := h
  refine ⟨by simp [Pl.snoc, h1], by simp [Pl.snoc]; omega, fun z hz => ?_⟩
  simp only [Pl.snoc, List.mem_append, List.mem_singleton] at hz
  rcases hz with hz | rfl
  · exact h3 z hz
  · exact hm
theorem LooseP.le {k l : Nat} {p : Pl} (h : LooseP k p) (hl : k ≤ l) : LooseP l p := ⟨h.1, by have := h.2.1; omega, h.2.2⟩
theorem LooseP.small {k : Nat} {p : Pl} (h : LooseP k p) (hk : k ≤ 100) : SmallP p := by
  obtain ⟨h1, h2, h3⟩ := h
  exact ⟨⟨by omega, fun m hm => by have := h3 m hm; omega⟩, by omega⟩

/-- The plays that a round has made. -/
def LoIn (wr : World) (kk x : Nat) (out : Value) (wz : World) : Prop :=
  ∃ (D : List PD) (A' : Option Addr) (c' : Nat), out = .slice A' D.length c' ∧ PDs wz wr.heap.size (.slice A' D.length c') D ∧ (∀ d ∈ D, LooseP kk d.p) ∧ D.length ≤ x ∧ wr.grownBy wz none
section
variable {wr wz wy : World} {kk x y : Nat} {out : Value}
theorem LoIn.keep (h : LoIn wr kk x out wz) (hg : wz.grownBy wy none) : LoIn wr kk x out wy := by
  obtain ⟨D, A', c', h1, h2, h3, h4, h5⟩ := h
  exact ⟨D, A', c', h1, h2.keep hg, h3, h4, gr_trans h5 hg⟩
theorem LoIn.le (h : LoIn wr kk x out wz) (hl : x ≤ y) : LoIn wr kk y out wz := by
  obtain ⟨D, A', c', h1, h2, h3, h4, h5⟩ := h
  exact ⟨D, A', c', h1, h2, h3, by omega, h5⟩
theorem LoIn.push {D : List PD} {A1 A2 : Option Addr} {c1 c2 : Nat} {d : PD} (h2 : PDs wz wr.heap.size (.slice A1 D.length c1) D) (h3 : ∀ d ∈ D, LooseP kk d.p) (h4 : D.length ≤ x) (h5 : wr.grownBy wz none) (hd : LooseP kk d.p)
    (hD : PDs wy wr.heap.size (.slice A2 (D ++ [d]).length c2) (D ++ [d])) (hg : wz.grownBy wy (Value.slice A1 D.length c1).ownBlock) : LoIn wr kk (x + 1) (.slice A2 (D ++ [d]).length c2) wy := by
  refine ⟨D ++ [d], A2, c2, rfl, hD, fun z hz => ?_, by simp; omega, gr_x h5 hg (fun g hg => (own2_ty h2.1 hg).1)⟩
  rcases List.mem_append.1 hz with h | h
  · exact h3 z h
  · obtain rfl := List.mem_singleton.1 h
    exact hd
end

/-- What the drawing of a loose play keeps. -/
def LoInv (w : World) (q b8 : Nat) (M : List (List UInt8)) (AM : Option Addr) (cM p0 k : Nat) (wr : World) : Prop :=
  ∃ (d : PD) (pos : Nat), LooseP (k + 1) d.p ∧ Blk wr b8 26 #[d.a, d.b] ∧ PlO wr w.heap.size d.p d.A d.cA d.B d.cB ∧ pos ≤ p0 + 2 + k ∧ Rd wr q pos ∧ w.grownBy wr (some q) ∧
    Blk wr w.heap.size 26 #[.slice none 0 0, .slice none 0 0] ∧ wr.ownsRow w.heap.size 9 1 (.slice AM M.length cM) M.length (M.map strv)

theorem LoInv.stored {w wr : World} {q b8 : Nat} {M : List (List UInt8)} {AM : Option Addr} {cM p0 k pos : Nat} {d : PD} {cs : Array Value} (hq : q < w.heap.size) (hb8 : w.heap.size < b8) (h1 : LooseP (k + 2) d.p) (h3 : Blk wr b8 26 cs) (hcs : cs.size = 2) (h4 : PlO wr w.heap.size d.p d.A d.cA d.B d.cB)
    (h5 : pos ≤ p0 + 2 + (k + 1)) (h6 : Rd wr q pos) (h7 : w.grownBy wr (some q)) (h8 : Blk wr w.heap.size 26 #[.slice none 0 0, .slice none 0 0]) (h9 : wr.ownsRow w.heap.size 9 1 (.slice AM M.length cM) M.length (M.map strv)) :
    LoInv w q b8 M AM cM p0 (k + 1) ((wr.setCell ⟨b8, 0, none⟩ d.a).setCell ⟨b8, 1, none⟩ d.b) := by
  have hG := gr_set (gr_set (gr_refl wr (some b8)) (p := ⟨b8, 0, none⟩) (.inl rfl) d.a) (p := ⟨b8, 1, none⟩) (.inl rfl) d.b
  refine ⟨d, pos, h1, ?_, h4.growP hG (fun g hg => by cases hg; exact ⟨_, h3⟩), h5, h6.grown hG (fun g hg => by cases hg; omega), gr_set (gr_set h7 (p := ⟨b8, 0, none⟩) (.inr (by show w.heap.size ≤ b8; omega)) _) (p := ⟨b8, 1, none⟩) (.inr (by show w.heap.size ≤ b8; omega)) _,
    h8.grown hG (by simp; omega), own_setty (own_setty h9 (p := ⟨b8, 0, none⟩) h3 (by decide) _) (p := ⟨b8, 1, none⟩) (h3.set 0 d.a) (by decide) _⟩
  have := (h3.set 0 d.a).set 1 d.b
  have e : (cs.setIfInBounds 0 d.a).setIfInBounds 1 d.b = #[d.a, d.b] := by
    obtain ⟨l⟩ := cs
    match l, hcs with
    | [x, y], _ => rfl
  rw [e] at this
  exact this
/-- Behind the store into the result's place. -/
theorem stored_play0 {w wr : World} {q : Nat} {pp : Pl} {A B : Option Addr} {cA cB : Nat} (i4 : PlO wr w.heap.size pp A cA B cB) (i7 : w.grownBy wr (some q)) (i8 : Blk wr w.heap.size 26 #[.slice none 0 0, .slice none 0 0]) :
    ∀ wz : World, wz = ((wr.setCell ⟨w.heap.size, 0, none⟩ (.slice A pp.ms.length cA)).setCell ⟨w.heap.size, 1, none⟩ (.slice B pp.ps.length cB)) → PlO wz w.heap.size pp A cA B cB ∧ w.grownBy wz (some q) ∧ wz.cell? ⟨w.heap.size, 0, none⟩ = some (.slice A pp.ms.length cA) ∧ wz.cell? ⟨w.heap.size, 1, none⟩ = some (.slice B pp.ps.length cB) := by
  rintro wz rfl
  have hG := gr_set (gr_set (gr_refl wr (some w.heap.size)) (p := ⟨w.heap.size, 0, none⟩) (.inl rfl) (.slice A pp.ms.length cA)) (p := ⟨w.heap.size, 1, none⟩) (.inl rfl) (.slice B pp.ps.length cB)
  have hbz := ((i8.set 0 (.slice A pp.ms.length cA)).set 1 (.slice B pp.ps.length cB))
  have z0 := hbz.cell 0
  have z1 := hbz.cell 1
  simp at z0 z1
  exact ⟨i4.growP hG (fun g hg => by cases hg; exact ⟨_, i8⟩), gr_set (gr_set i7 (.inr (Nat.le_refl _)) _) (.inr (Nat.le_refl _)) _, z0, z1⟩

/-- append of one play, at a step of a region that draws its order. -/
theorem step_appP {P : Program} {w : World} {ops : Array Oper} {o : Oper} {a : Act} {K : Act → World → Prop} {Q : Exit → Act → World → Prop} {E : Prop} {base : Nat} {D : List PD} (hgd : o.guard = none) (s x : Operand) (t : TypeId)
    (ho : o.op = .call { callee := .builtin .append, args := #[s, x], argTypes := #[t, t] })
    (ht : P.underlying t = some (.slice 26)) (hi : (P.info? 26).map (fun i => (i.zero, i.size, i.bytes)) = some (some (.agg #[.slice none 0 0, .slice none 0 0]), 2, 48))
    {A0 : Option Addr} {cap0 : Nat} (hs : a.eval s = .slice A0 D.length cap0) (hD : PDs w base (.slice A0 D.length cap0) D) (d : PD) {g : Nat} (hx : a.eval x = .slice (some ⟨g, 0, none⟩) 1 1) (hb : Blk w g 26 #[d.a, d.b]) (hd : PlO w base d.p d.A d.cA d.B d.cB) (hl : D.length ≤ 1000000) (hbase : base ≤ w.heap.size)
    (h : ∀ A' cap w', PDs w' base (.slice A' (D ++ [d]).length cap) (D ++ [d]) → w.grownBy w' (Value.slice A0 D.length cap0).ownBlock → K (a.put o.dst (.slice A' (D ++ [d]).length cap)) w') :
    if Region.wanted o (yielded ops a.tmps) = true then Oper.wp P o a w K Q else E := by
  have hw : Region.wanted o (yielded ops a.tmps) = true := by simp [Region.wanted, hgd]
  rw [if_pos hw]
  obtain ⟨A', cap, w', hrun, h2, h3⟩ := run_appP (P := P) t o.type ht hi hD d hb hd hl hbase
  unfold Oper.wp execOp
  simp only [ho, resolve, invoke, builtin, Sem.run_bind, Sem.run_pure, Result.andThen_ok, List.map_toArray, List.map_cons, List.map_nil, hs, hx, hrun]
  exact h _ _ _ h2 h3

theorem own_one {w : World} {base : Nat} (e : TypeId) (v : Value) (h : base ≤ w.heap.size) : (w.alloc (.cells #[v] e)).ownsRow base e 1 (.slice (some ⟨w.heap.size, 0, none⟩) 1 1) 1 [v] :=
  ⟨rfl, .inr ⟨w.heap.size, 1, #[v], rfl, h, heap_alloc_new w _, Nat.le_refl _, by unfold maxLen; omega, rfl, rfl⟩⟩

set_option maxRecDepth 100000 in
set_option maxHeartbeats 4000000 in
/-- A list of short moves. -/
theorem l91Loose_any (q p0 : Nat) (w : World) (h : Rd w q p0) (hp : p0 ≤ 1000000) (hq : q < w.heap.size) (t : Ty) (ht8 : t.text.length ≤ 100) (hat : t.atoms ≤ 15) :
    Calls Tryd.prog 42 #[.pointer (some ⟨q, 0, none⟩), .string ⟨t.text.toArray⟩] w fun e w' => ∃ d : PD, e = .returned (.agg #[d.a, d.b]) ∧ LooseP 9 d.p ∧ PlO w' w.heap.size d.p d.A d.cA d.B d.cB ∧ w.grownBy w' (some q) := by
  have hg0 := World.grownBy_alloc w (.cells #[.slice none 0 0, .slice none 0 0] 26) none
  have hr0 := h.grown0 hg0
  go_enter Tryd.func42, Tryd.ntmps42
  go_wp2_with fail
  refine (l1Type_any t.text _ (by omega)).mono ?_
  intro e w2 hT
  unfold TypePost at hT
  rw [Ty.read_text hat] at hT
  obtain ⟨hg2, T, c0, rfl, hk⟩ := hT
  go_wp2_with fail
  have hs2 := hg2.size
  rw [World.size_alloc] at hs2
  have hg02 := gr_trans hg0 hg2
  have hM0 := show Calls Tryd.prog 65 #[.agg #[.slice T t.args.length c0], .string ⟨#[]⟩, .slice (some ⟨w2.heap.size + 1, 0, none⟩) 0 0] ((w2.alloc (.cells #[.slice T t.args.length c0] 52)).alloc (.cells #[] 9)) (fun e w' => ∃ A' c', e = .returned (.slice A' (movesT t []).length c') ∧ w'.ownsRow w.heap.size 9 1 (.slice A' (movesT t []).length c') (movesT t []).length ((movesT t []).map strv) ∧ ((w2.alloc (.cells #[.slice T t.args.length c0] 52)).alloc (.cells #[] 9)).grownBy w' (some (w2.heap.size + 1)) ∧ ∀ g2, (Value.slice A' (movesT t []).length c').ownBlock = some g2 → some g2 = some (w2.heap.size + 1) ∨ ((w2.alloc (.cells #[.slice T t.args.length c0] 52)).alloc (.cells #[] 9)).heap.size ≤ g2) from
      l1Moves_any t.atoms t T c0 (fun b => b < w2.heap.size) [] [] (some ⟨w2.heap.size + 1, 0, none⟩) 0 w.heap.size _ (Nat.le_refl _) hat (by simp; omega) ((hk.mono (G := fun b => b < w2.heap.size) (fun b h1 h2 => h2)).grown0 (gr_alloc (World.grownBy_alloc _ _ _) _)) ⟨rfl, .inr ⟨w2.heap.size + 1, 0, #[], rfl, by omega, by have := Blk.new (w2.alloc (.cells #[.slice T t.args.length c0] 52)) 9 #[]; rw [World.size_alloc] at this; exact this, Nat.le_refl _, by unfold maxLen; omega, rfl, rfl⟩⟩ (by simp; omega) (by simp; omega) (fun b hb1 e => by
        injection e with e
        simp at e
        omega)
  refine hM0.mono ?_
  rintro e w3 ⟨AM, cM, rfl, hownM, hg3, hbM⟩
  have hs3 := hg3.size
  simp only [World.size_alloc] at hs3
  have hgA : w.grownBy w3 none := gr_x (gr_alloc (gr_alloc hg02 _) _) hg3 (fun g hg => by injection hg with hg; omega)
  have hbr := (((Blk.new w 26 #[.slice none 0 0, .slice none 0 0]).grown0 hg2).grown0 (gr_alloc (World.grownBy_alloc w2 (.cells #[.slice T t.args.length c0] 52) none) (.cells #[] 9))).grown hg3 (by simp; omega)
  have hr3 := (hr0.grown0 (gr_alloc (gr_alloc hg2 (.cells #[.slice T t.args.length c0] 52)) (.cells #[] 9))).grown hg3 (fun g hg => by injection hg with hg; omega)
  have hgp := gr_alloc (gr_alloc (gr_alloc hgA (.cells #[.string ⟨#[113]⟩] 9)) (.cells #[.int .i64 (-1)] 3)) (.cells #[.slice (some ⟨w3.heap.size, 0, none⟩) 1 1, .slice (some ⟨w3.heap.size + 1, 0, none⟩) 1 1] 26)
  have hgq := gr_alloc (gr_alloc (World.grownBy_alloc w3 (.cells #[.string ⟨#[113]⟩] 9) none) (.cells #[.int .i64 (-1)] 3)) (.cells #[.slice (some ⟨w3.heap.size, 0, none⟩) 1 1, .slice (some ⟨w3.heap.size + 1, 0, none⟩) 1 1] 26)
  have hb8 := Blk.new ((w3.alloc (.cells #[.string ⟨#[113]⟩] 9)).alloc (.cells #[.int .i64 (-1)] 3)) 26 #[.slice (some ⟨w3.heap.size, 0, none⟩) 1 1, .slice (some ⟨w3.heap.size + 1, 0, none⟩) 1 1]
  have o1 := own_one (w := w3) (base := w.heap.size) 9 (.string ⟨#[113]⟩) (by omega)
  have o2 := own_one (w := w3.alloc (.cells #[.string ⟨#[113]⟩] 9)) (base := w.heap.size) 3 (.int .i64 (-1)) (by rw [World.size_alloc]; omega)
  simp only [World.size_alloc] at hb8 o2
  have hMl : (movesT t []).length ≤ 24 := by
    have h1 := movesT_length t []
    have h2 := count_atoms t
    omega
  have hMm := Lib.hid (fun m hm => (mem_movesT (t := t) hat m).1 hm)
  have hI0 : ∀ w5 pos, pos ≤ p0 + 2 → Rd w5 q pos → (((w3.alloc (.cells #[.string ⟨#[113]⟩] 9)).alloc (.cells #[.int .i64 (-1)] 3)).alloc (.cells #[.slice (some ⟨w3.heap.size, 0, none⟩) 1 1, .slice (some ⟨w3.heap.size + 1, 0, none⟩) 1 1] 26)).grownBy w5 (some q) → LoInv w q (w3.heap.size + 1 + 1) (movesT t []) AM cM p0 0 w5 := fun w5 pos hp5 hr5 hg5 =>
    ⟨⟨⟨[[113]], [-1]⟩, some ⟨w3.heap.size, 0, none⟩, 1, some ⟨w3.heap.size + 1, 0, none⟩, 1⟩, pos, ⟨rfl, Nat.le_refl _, by simp⟩, hb8.grown hg5 (by simp; omega),
      PlO.keepq ⟨own_keep (own_keep o1 (World.grownBy_alloc _ _ _)) (World.grownBy_alloc _ _ _), own_keep o2 (World.grownBy_alloc _ _ _)⟩ hg5 hq, by omega, hr5, gr_trans (gr_weak hgp _) hg5, (hbr.grown0 hgq).grown hg5 (by simp; omega),
      own_keep2 (own_keep hownM hgq) hg5 (fun g hg _ e => by have := own_base hownM hg; injection e; omega)⟩
  have hI0h := Lib.hid hI0
  have hr3q := hr3.grown0 hgq
  clear hI0 o1 o2 hb8 hbr hgp hownM hbM hM0 hg3 hk hr3 h hr0 hg0 hg2 hg02 hgA
  generalize movesT t [] = M at *
  go_wp2_with fail
  refine (pick_any q p0 8 _ hr3q (by omega) (by decide) (by decide)).mono ?_
  rintro e w5 ⟨n, hn, rfl, hr5, hg5⟩
  have hIh := Lib.hid (hI0h.out w5 (p0 + 1) (by omega) hr5 hg5)
  clear hI0h hr3q hr5 hg5 hgq
  generalize hb8e : w3.heap.size + 1 + 1 = b8 at *
  have hb8l : w.heap.size < b8 := by omega
  clear hb8e
  go_wp2_with fail
  go_loopw [10] (fun i wr => ∃ (k : Nat), k ≤ n ∧ i = .int .i64 (k : Int) ∧ LoInv w q b8 M AM cM p0 k wr) (fun i _ => n - (intOf i).toNat)
  case atStart => exact ⟨0, Nat.zero_le _, rfl, hIh.out⟩
  case round =>
    obtain ⟨w8, hwo⟩ : ∃ wo, wo = wr := ⟨_, rfl⟩
    subst hwo
    clear hIh
    obtain ⟨k, hkn, rfl, ⟨pp, A, cA, B, cB⟩, pos, i1, i2, i3, i4, i5, i6, i7, i8⟩ := hrel
    simp only [PD.a, PD.b] at i1 i2 i3 i4
    have hll := Lib.hid i1.1
    rw [hll.out] at i2
    have x0 := i2.cell 0
    have x1 := i2.cell 1
    simp only [List.getElem?_toArray, List.getElem?_cons_zero, List.getElem?_cons_succ] at x0 x1
    have hw := i6.size
    have hpl := i1.2.1
    by_cases hlt : k < n
    · have hWb := World.grownBy_alloc w8 (.cells #[] 26) none
      have hnil : LoIn w8 (k + 2) 0 (.slice (some ⟨w8.heap.size, 0, none⟩) 0 0) (w8.alloc (.cells #[] 26)) := ⟨[], _, _, rfl, PDs.nil (Nat.le_refl _), (fun _ h => by cases h), Nat.le_refl _, hWb⟩
      have hnilh := Lib.hid hnil
      have i1h := Lib.hid i1
      have i2h := Lib.hid i2
      have i3h := Lib.hid i3
      have i5h := Lib.hid i5
      have i6h := Lib.hid i6
      have i7h := Lib.hid i7
      have i8h := Lib.hid i8
      clear hnil hWb i1 i2 i3 i5 i6 i7 i8 x0 x1
      go_wp2_with fail
      go_loopw [11, 12] (fun out i wz => ∃ (kk : Nat), kk ≤ pp.ms.length ∧ i = .int .i64 (kk : Int) ∧ LoIn w8 (k + 2) (24 * kk) out wz) (fun _ i _ => pp.ms.length - (intOf i).toNat)
      case atStart => exact ⟨0, Nat.zero_le _, rfl, hnilh.out⟩
      case round =>
        clear hnilh
        obtain ⟨wz, hwo⟩ : ∃ wo, wo = wr := ⟨_, rfl⟩
        subst hwo
        obtain ⟨kk, hkk, rfl, hN0⟩ := hrel
        have hN0h := Lib.hid hN0
        have hgz : w8.grownBy wz none := by obtain ⟨_, _, _, _, _, _, _, h⟩ := hN0; exact h
        have hbz := i2h.out.grown0 hgz
        have x0 := hbz.cell 0
        have x1 := hbz.cell 1
        simp only [List.getElem?_toArray, List.getElem?_cons_zero, List.getElem?_cons_succ] at x0 x1
        by_cases hk2 : kk < pp.ms.length
        · clear hN0 hgz hbz
          go_wp2_with fail
          go_loopw [11, 13] (fun out i wy => ∃ (j : Nat), j ≤ M.length ∧ i = .int .i64 (j : Int) ∧ LoIn w8 (k + 2) (24 * kk + j) out wy) (fun _ i _ => M.length - (intOf i).toNat)
          case atStart => exact ⟨0, Nat.zero_le _, rfl, hN0h.out⟩
          case round =>
            clear hN0h x0 x1
            obtain ⟨wy, hwo⟩ : ∃ wo, wo = wr := ⟨_, rfl⟩
            subst hwo
            obtain ⟨j, hjl, rfl, hN⟩ := hrel
            by_cases hj : j < M.length
            · have hNh := Lib.hid hN
              obtain ⟨D, A1, c1, rfl, hD, hDp, hDl, hgr⟩ := hN
              have hj0 : 0 ≤ (j : Int) := by omega
              have hj1 : (j : Int) < (M.length : Int) := by omega
              have hk0 : 0 ≤ (kk : Int) := by omega
              have hk1 : (kk : Int) < (pp.ms.length : Int) := by omega
              have hmm := hMm.out _ (List.getElem_mem hj)
              have hm8 := isMove_len hat hmm
              obtain ⟨c, r, hcr⟩ := isMove_cons' hmm
              have hrl : r.length ≤ 1048576 := by rw [hcr] at hm8; simp at hm8; omega
              obtain ⟨g, o, rfl, _, hcM⟩ := (own_sl i8h.out).1 (by omega)
              have cM0 := hcM j hj
              rw [sv_lt M hj, hcr] at cM0
              have cM1 := (World.cell?_of_block (w := w8) (a := ⟨g, o + j, none⟩) (hgr.block g (World.block_lt_of_cell? w8 ⟨g, o + j, none⟩ cM0) (by simp))).trans cM0
              obtain ⟨g1, o1, rfl, _, hcA⟩ := (i3h.out.sl.1.grown0 hgr) (by omega)
              have cA1 := hcA kk hk2
              rw [sv_lt pp.ms hk2, ← mv_lt hk2] at cA1
              have hbw := i2h.out.grown0 hgr
              have d0 := hbw.cell 0
              have d1 := hbw.cell 1
              simp only [List.getElem?_toArray, List.getElem?_cons_zero, List.getElem?_cons_succ] at d0 d1
              have hbk0 := fun (W : World) (hW : w8.grownBy W none) => show W.cell? ⟨b8, 0, none⟩ = some (.slice (some ⟨g1, o1, none⟩) pp.ms.length cA) ∧ W.cell? ⟨b8, 1, none⟩ = some (.slice B pp.ms.length cB) ∧ W.cell? ⟨g, o + j, none⟩ = some (.string ⟨(c :: r).toArray⟩) from
                ⟨(i2h.out.grown0 hW).cell 0, (i2h.out.grown0 hW).cell 1, (World.cell?_of_block (w := w8) (a := ⟨g, o + j, none⟩) (hW.block g (World.block_lt_of_cell? w8 ⟨g, o + j, none⟩ cM0) (by simp))).trans cM0⟩
              have hW00 := fun (W : World) (hW : wy.grownBy W none) (x : Nat) => l2With_any pp (some ⟨g1, o1, none⟩) cA B cB (Fr w.heap.size) W ((i3h.out.sl.grown0 hgr).grown0 hW) hll.out (by omega) (c :: r) (x : Int)
              simp only [hll.out] at hW00
              have hQ0 := fun (A' : Option Addr) (cA' : Nat) (B' : Option Addr) (cB' : Nat) (A4 : Option Addr) (c4 : Nat) (w6 w7 : World) (hz : wy.grownBy w6 none) (hD7 : PDs w7 w8.heap.size (.slice A4 (D ++ [(PD.mk (pp.snoc (c :: r) kk) A' cA' B' cB')]).length c4) (D ++ [(PD.mk (pp.snoc (c :: r) kk) A' cA' B' cB')])) (hg7 : w6.grownBy w7 (Value.slice A1 D.length c1).ownBlock) =>
                LoIn.push (kk := k + 2) (x := 24 * kk + j) (d := (PD.mk (pp.snoc (c :: r) kk) A' cA' B' cB')) (hD.keep hz) hDp hDl (gr_trans hgr hz) (i1h.out.snoc (by rw [← hcr]; exact hm8)) hD7 hg7
              have hG0 := fun (w6 w7 : World) (hz : wy.grownBy w6 none) (hg7 : w6.grownBy w7 (Value.slice A1 D.length c1).ownBlock) => show w8.grownBy w7 none from gr_x (gr_trans hgr hz) hg7 (fun g hg => (own2_ty hD.1 hg).1)
              have hbk := Lib.hid hbk0
              have hW0 := Lib.hid hW00
              have hQ := Lib.hid hQ0
              have hG := Lib.hid hG0
              clear hbk0 hW00 hQ0 hG0 cM0
              have hDl6 : D.length ≤ 1000000 := by omega
              have hPl := Lib.hid (fun W => l1Player_any c r W (by omega))
              have hEn := Lib.hid (fun W => l1Enabler_any c r W (by omega))
              have hcrl : (c :: r).length ≤ 8 := by rw [← hcr]; exact hm8
              have hcr8 := Lib.hid hcrl
              have hskip := Lib.hid (fun (wz : World) (hz : wy.grownBy wz none) => (hNh.out.keep hz).le (by omega : 24 * kk + j ≤ 24 * kk + (j + 1)))
              have hDh := Lib.hid hD
              have hDph := Lib.hid hDp
              have hDlh := Lib.hid hDl
              clear hcM hcA hbw hmm hm8 hcr hD hDp hDl hcrl hNh
              have h0 : 0 < (⟨(c :: r).toArray⟩ : ByteArray).size := by simp [ByteArray.size]
              generalize hme : c :: r = m at *
              clear hme
              have htm := Lib.hid (show (pp.ms.length : Int).tmod 2 = (pp.ms.length : Int) % 2 from Int.tmod_eq_emod_of_nonneg (by omega))
              cases hb1 : (m != [113]) with
              | false =>
                have hb1p : m = [113] := by simpa using hb1
                go_wp2_with fail
                go_quiet (fail)
                go_wp2_with fail
                go_roundw
                case rel => exact ⟨j + 1, by omega, by go_num, hskip.out _ (gr_drewN (gr_refl _ _) _)⟩
                case measure => simp [intOf]; omega
              | true =>
                have hb1p : ¬ m = [113] := by simpa using hb1
                have hb1q : (m == [113]) = false := beq_eq_false_iff_ne.2 hb1p
                cases hb2 : (who c r == (pp.ms.length : Int) % 2) with
                | false =>
                  generalize who c r = x at *
                  have hb2p : ¬ x = (pp.ms.length : Int).tmod 2 := by rw [htm.out]; simpa using hb2
                  go_wp2_with fail
                  go_quiet ((go_at_call 66; exact quiet_eq (hPl.out _)))
                  go_wp2_with fail
                  go_roundw
                  case rel => exact ⟨j + 1, by omega, by go_num, hskip.out _ (gr_drewN (gr_refl _ _) _)⟩
                  case measure => simp [intOf]; omega
                | true =>
                  cases hb3 : (enab c r == pp.mv kk) with
                  | false =>
                    generalize who c r = x at *
                    have hb2p : x = (pp.ms.length : Int).tmod 2 := by rw [htm.out]; simpa using hb2
                    clear hb2
                    subst hb2p
                    generalize enab c r = y at *
                    generalize pp.mv kk = z at *
                    have hb3p : ¬ y = z := by simpa using hb3
                    go_wp2_with fail
                    go_quiet ((first | (go_at_call 66; exact quiet_eq (hPl.out _)) | (go_at_call 67; exact quiet_eq (hEn.out _))))
                    go_wp2_with fail
                    go_roundw
                    case rel => exact ⟨j + 1, by omega, by go_num, hskip.out _ (gr_drewN (gr_refl _ _) _)⟩
                    case measure => simp [intOf]; omega
                  | true =>
                    generalize who c r = x at *
                    have hb2p : x = (pp.ms.length : Int).tmod 2 := by rw [htm.out]; simpa using hb2
                    clear hb2
                    subst hb2p
                    generalize enab c r = y at *
                    generalize pp.mv kk = z at *
                    have hb3p : y = z := by simpa using hb3
                    subst hb3p
                    clear hb3
                    go_wp2_with fail
                    go_quiet ((first | (go_at_call 66; exact quiet_eq (hPl.out _)) | (go_at_call 67; exact quiet_eq (hEn.out _))))
                    go_wp2_with fail
                    have hgX : wy.grownBy (wy.drewN (nq + 1)) none := gr_drewN (gr_refl _ _) _
                    go_region_held3 (fun w' => w'.cell? ⟨b8, 0, none⟩ = some (.slice (some ⟨g1, o1, none⟩) pp.ms.length cA) ∧ w'.cell? ⟨b8, 1, none⟩ = some (.slice B pp.ms.length cB) ∧ w'.cell? ⟨g, o + j, none⟩ = some (.string ⟨m.toArray⟩))
                      (first | go_keep | exact hbk.out _ (gr_trans hgr hgX) | exact hbk.out _ (gr_trans hgr (gr_trans hgX hg6)) | exact hbk.out _ (gr_trans hgr hgz) | exact hbk.out _ hg7z)
                      (first
                        | (go_at_call 64; refine (hW0.out _ hgX kk).mono ?_; rintro e w6 ⟨A', cA', B', cB', rfl, hO, hg6⟩; have hgz := gr_alloc (gr_trans hgX hg6) (.cells #[.slice A' (pp.snoc m kk).ms.length cA', .slice B' (pp.snoc m kk).ps.length cB'] 26); have hD6 := hDh.out.keep hgz; have hO6 := (hO.keep (World.grownBy_alloc w6 (.cells #[.slice A' (pp.snoc m kk).ms.length cA', .slice B' (pp.snoc m kk).ps.length cB'] 26) none)).weak (Nat.le_trans hgr.size hgX.size); have hb6 := Blk.new w6 26 #[.slice A' (pp.snoc m kk).ms.length cA', .slice B' (pp.snoc m kk).ps.length cB']; have hs6 := Nat.le_trans hgr.size hgz.size)
                        | (refine step_appP (by rfl) _ _ 33 (by rfl) Tryd.underlying33 info_play (by rfl) hD6 ⟨pp.snoc m kk, A', cA', B', cB'⟩ (by rfl) hb6 hO6 hDl6 hs6 ?_; intro A4 c4 w7 hD7 hg7; have hg7z := hG.out _ w7 hgz hg7))
                    have hE := hQ.out A' cA' B' cB' A4 c4 _ w7 hgz hD7 hg7
                    rw [List.length_append, List.length_singleton] at hE
                    have hEh := Lib.hid hE
                    clear hE hD7 hg7 hg7z hgz hD6 hO6 hb6 hs6 hO hg6 hgX
                    go_wp2_with fail
                    go_roundw
                    case rel => exact ⟨j + 1, by omega, by go_num, hEh.out⟩
                    case measure => simp [intOf]; omega
            · obtain rfl : j = M.length := by omega
              have hNh := Lib.hid (hN.le (by omega : 24 * kk + M.length ≤ 24 * (kk + 1)))
              clear hN
              go_wp2_with fail
              go_roundw
              case rel => exact ⟨kk + 1, by omega, by go_num, hNh.out⟩
              case measure => simp [intOf]; omega
        · obtain rfl : kk = pp.ms.length := by omega
          obtain ⟨D, A1, c1, rfl, hD, hDp, hDl, _⟩ := hN0
          have hDh := Lib.hid hD
          have hDph := Lib.hid hDp
          have hgzh := Lib.hid hgz
          have g6 := Lib.hid (gr_trans i6h.out (gr_weak hgz (some q)))
          have y0 := (i7h.out.grown0 hgz).cell 0
          have y1 := (i7h.out.grown0 hgz).cell 1
          have f0 := (i7h.out.grown0 hgz).free 0
          have f1 := (i7h.out.grown0 hgz).free 1
          have v0 := hbz.free 0
          have v1 := hbz.free 1
          simp only [List.getElem?_toArray, List.getElem?_cons_zero, List.getElem?_cons_succ] at y0 y1
          have hfin := stored_play0 (i3h.out.keep hgz) g6.out (i7h.out.grown0 hgz)
          simp only [hll.out] at hfin
          have hfinh := Lib.hid hfin
          clear hD hDp hbz hN0h hfin hgz
          by_cases hD0 : D.length = 0
          · rw [hD0]
            go_wp2_with fail
            obtain ⟨z1, z3, z4, z5⟩ := hfinh.out _ rfl
            generalize (wz.setCell ⟨w.heap.size, 0, none⟩ (.slice A pp.ms.length cA)).setCell ⟨w.heap.size, 1, none⟩ (.slice B pp.ms.length cB) = wq at z1 z3 z4 z5 ⊢
            refine bodyPost_ret (v := .agg #[.slice A pp.ms.length cA, .slice B pp.ms.length cB]) (by simp [results, Tryd.results42, go_sem, z4, z5]) rfl ⟨⟨pp, A, cA, B, cB⟩, by simp only [PD.a, PD.b, hll.out], i1h.out.le (by omega), z1, z3⟩
          · have hDn : ((D.length : Int) == 0) = false := by rw [beq_eq_false_iff_ne]; omega
            have get : ∀ (x : Nat) (w6 : World) (hx : x < D.length), Rd w6 q (pos + 1) → wz.grownBy w6 (some q) → ∃ g cap n1 Ax cAx n2 Bx cBx, Value.slice A1 D.length c1 = .slice (some ⟨g, 0, none⟩) D.length cap ∧ w6.cell? ⟨g, x * 2, none⟩ = some (.slice Ax n1 cAx) ∧ w6.cell? ⟨g, x * 2 + 1, none⟩ = some (.slice Bx n2 cBx) ∧
                LoInv w q b8 M AM cM p0 (k + 1) ((w6.setCell ⟨b8, 0, none⟩ (.slice Ax n1 cAx)).setCell ⟨b8, 1, none⟩ (.slice Bx n2 cBx)) := fun x w6 hx hr6 hg6 => by
              have hF := LoInv.stored (p0 := p0) hq hb8l (hDph.out _ (List.getElem_mem hx)) ((i2h.out.grown0 hgzh.out).grown hg6 (by simp; omega)) rfl (((hDh.out.2 _ (List.getElem_mem hx)).weak (by omega)).keepq hg6 hq) (by omega : pos + 1 ≤ p0 + 2 + (k + 1)) hr6 (gr_trans g6.out hg6) ((i7h.out.grown0 hgzh.out).grown hg6 (by simp; omega)) (own_keep2 (own_keep i8h.out hgzh.out) hg6 (fun g hg _ e => by have := own_base i8h.out hg; injection e; omega))
              obtain ⟨g, cap, e1, hgb, c0, c1⟩ := hDh.out.get hx
              have hlt := World.block_lt_of_cell? wz ⟨g, 2 * x, none⟩ c0
              rw [Nat.mul_comm x 2]
              exact ⟨g, cap, _, _, _, _, _, _, e1, (World.cell?_of_block (w := wz) (a := ⟨g, 2 * x, none⟩) (hg6.block g hlt (by simp; omega))).trans c0, (World.cell?_of_block (w := wz) (a := ⟨g, 2 * x + 1, none⟩) (hg6.block g hlt (by simp; omega))).trans c1, hF⟩
            have geth := Lib.hid get
            have hr6 := Lib.hid (i5h.out.grown0 hgzh.out)
            have hend : ∀ (m : Nat) (hm : m ≤ D.length) (h1 : 1 ≤ m) (h200 : m ≤ 200), Calls Tryd.prog 40 #[.pointer (some ⟨q, 0, none⟩), .int .i64 (m : Int)] wz fun e w' => ∃ i : Nat, i < m ∧ e = .returned (.int .i64 (i : Int)) ∧ Rd w' q (pos + 1) ∧ wz.grownBy w' (some q) := fun m hm h1 h200 => pick_any q pos m wz hr6.out (by omega) h1 (by omega)
            have hendh := Lib.hid hend
            have i2z := Lib.hid (i2h.out.grown0 hgzh.out)
            have xlt := i2z.out.lt
            clear get hend y0 y1 f0 f1 hfinh
            go_upto_region 19 with fail
            rcases Nat.lt_or_ge D.length 200 with h2 | h2
            · have h3 : ¬ (200 : Int) ≤ (D.length : Int) := by omega
              have h4 : (D.length : Int) < 200 := by omega
              go_wp2_with fail
              refine (hendh.out D.length (Nat.le_refl _) (by omega) (by omega)).mono ?_
              rintro e w6 ⟨x, hx, rfl, hr6, hg6⟩
              have hx0 : 0 ≤ (x : Int) := by omega
              have hx1 : (x : Int) < (D.length : Int) := by omega
              have hxn : x < D.length := by omega
              obtain ⟨g, cap, n1, Ax, cAx, n2, Bx, cBx, e1, d0, d1, hF⟩ := geth.out x w6 hxn hr6 hg6
              have hFh := Lib.hid hF
              clear hF x0 x1 h2 h3 h4 hx
              injection e1 with e1 _ e2
              subst e1 e2
              have u0 := (i2z.out.grown hg6 (by simp; omega)).cell 0
              have u1 := (i2z.out.grown hg6 (by simp; omega)).cell 1
              have v0 := (i2z.out.grown hg6 (by simp; omega)).free 0
              have v1 := (i2z.out.grown hg6 (by simp; omega)).free 1
              simp only [List.getElem?_toArray, List.getElem?_cons_zero, List.getElem?_cons_succ] at u0 u1
              go_wp2_with fail
              go_roundw
              case rel => exact ⟨k + 1, by omega, by go_num, hFh.out⟩
              case measure => simp [intOf]; omega
            · have h3 : (200 : Int) ≤ (D.length : Int) := by omega
              have h4 : ¬ (D.length : Int) < 200 := by omega
              go_wp2_with fail
              refine (hendh.out 200 (by omega) (by decide) (by decide)).mono ?_
              rintro e w6 ⟨x, hx, rfl, hr6, hg6⟩
              have hx0 : 0 ≤ (x : Int) := by omega
              have hx1 : (x : Int) < (D.length : Int) := by omega
              have hxn : x < D.length := by omega
              obtain ⟨g, cap, n1, Ax, cAx, n2, Bx, cBx, e1, d0, d1, hF⟩ := geth.out x w6 hxn hr6 hg6
              have hFh := Lib.hid hF
              clear hF x0 x1 h2 h3 h4 hx
              injection e1 with e1 _ e2
              subst e1 e2
              have u0 := (i2z.out.grown hg6 (by simp; omega)).cell 0
              have u1 := (i2z.out.grown hg6 (by simp; omega)).cell 1
              have v0 := (i2z.out.grown hg6 (by simp; omega)).free 0
              have v1 := (i2z.out.grown hg6 (by simp; omega)).free 1
              simp only [List.getElem?_toArray, List.getElem?_cons_zero, List.getElem?_cons_succ] at u0 u1
              go_wp2_with fail
              go_roundw
              case rel => exact ⟨k + 1, by omega, by go_num, hFh.out⟩
              case measure => simp [intOf]; omega
    · obtain rfl : k = n := by omega
      have hfin := stored_play0 i3 i6 i7
      simp only [hll.out] at hfin
      have hfinh := Lib.hid hfin
      have i1h := Lib.hid i1
      have y0 := i7.cell 0
      have y1 := i7.cell 1
      have f0 := i7.free 0
      have f1 := i7.free 1
      simp only [List.getElem?_toArray, List.getElem?_cons_zero, List.getElem?_cons_succ] at y0 y1
      clear hfin i1 i2 i3 i5 i6 i7 i8
      go_wp2_with fail
      obtain ⟨z1, z3, z4, z5⟩ := hfinh.out _ rfl
      generalize (w8.setCell ⟨w.heap.size, 0, none⟩ (.slice A pp.ms.length cA)).setCell ⟨w.heap.size, 1, none⟩ (.slice B pp.ms.length cB) = wq at z1 z3 z4 z5 ⊢
      refine bodyPost_ret (v := .agg #[.slice A pp.ms.length cA, .slice B pp.ms.length cB]) (by simp [results, Tryd.results42, go_sem, z4, z5]) rfl ⟨⟨pp, A, cA, B, cB⟩, by simp only [PD.a, PD.b, hll.out], i1h.out.le (by omega), z1, z3⟩
end Go.Proofs.YtkjkbcfifhakkaaDoor
