/- The reference's strategies. -/
import Derived.Test.YtlehnlfgjadleaaDoorSBodyA
namespace Go.Proofs.YtlehnlfgjadleaaDoor
open Go.RowKit

/-- What the reference makes of two texts. -/
def strat (s l : List UInt8) : Option (Ty × Bo) := match Ty.read s with
  | some t => (match readR t.args l with
    | some b => some (t, b)
    | none => none)
  | none => none
theorem bsize_text (b : Bo) : ∀ (hand : List Ty), b.wf hand → b.size ≤ b.body.length := by
  induction b with
  | w c =>
    intro hand h
    simp only [Bo.size, Bo.body]
    have := (isWd_noSep h).2.1
    cases c with
    | nil => exact absurd h (by show ¬ (isWd [] = true); decide)
    | cons => simp
  | hd v =>
    intro hand h
    simp only [Bo.size, Bo.body]
    have := decDigits_ne v
    cases h2 : Lib.decDigits v with
    | nil => exact absurd h2 this
    | cons => simp
  | sn l x ihl ihx =>
    intro hand h
    obtain ⟨h1, h2, h3, h4, h5⟩ := h
    have a1 := ihl _ h2
    have a2 := ihx _ h4
    simp only [Bo.size, Bo.body, List.length_append, List.length_cons]
    have : x.body.length ≤ (x.wrap x.body).length := by cases x <;> simp [Bo.wrap] <;> omega
    omega
/-- What the reference's reader of strategies leaves. -/
def StratPost (s l : List UInt8) (w : World) (e : Ending) (w' : World) : Prop :=
  w.grownBy w' none ∧ match strat s l with
    | none => ∃ A n c a lv B m d C p q, e = .returned (.tuple #[.agg #[.slice A n c], .agg #[.string a, .int .i64 lv, .slice B m d, .slice C p q], .bool false])
    | some (t, b) => ∃ A c B d C q, e = .returned (.tuple #[.agg #[.slice A t.args.length c], nodeV b B d C q, .bool true]) ∧ TreeV w' (Fr w.heap.size) (.slice A t.args.length c) t ∧ NV w' (Fr w.heap.size) B d C q b
theorem StratPost.no {s l : List UInt8} {w w' : World} {A : Option Addr} {n c : Nat} {a : ByteArray} {lv : Int} {B C : Option Addr} {m d p q : Nat} (h : strat s l = none) (hg : w.grownBy w' none) :
    StratPost s l w (.returned (.tuple #[.agg #[.slice A n c], .agg #[.string a, .int .i64 lv, .slice B m d, .slice C p q], .bool false])) w' := ⟨hg, by rw [h]; exact ⟨_, _, _, _, _, _, _, _, _, _, _, rfl⟩⟩
theorem StratPost.yes {s l : List UInt8} {w w' : World} {t : Ty} {b : Bo} {A B C : Option Addr} {c d q : Nat} (h : strat s l = some (t, b)) (hg : w.grownBy w' none) (ht : TreeV w' (Fr w.heap.size) (.slice A t.args.length c) t) (hn : NV w' (Fr w.heap.size) B d C q b) :
    StratPost s l w (.returned (.tuple #[.agg #[.slice A t.args.length c], nodeV b B d C q, .bool true])) w' := ⟨hg, by rw [h]; exact ⟨_, _, _, _, _, _, rfl, ht, hn⟩⟩
/-- The two result boxes, written. -/
theorem res5 {W : World} {n : Nat} {a b0 b1 b2 b3 : Value} (h0 : Blk W n 29 #[a]) (h1 : Blk W (n + 1) 36 #[b0, b1, b2, b3]) (v0 v1 v2 v3 v4 : Value) :
    Blk (((((W.setCell ⟨n, 0, none⟩ v0).setCell ⟨n + 1, 0, none⟩ v1).setCell ⟨n + 1, 1, none⟩ v2).setCell ⟨n + 1, 2, none⟩ v3).setCell ⟨n + 1, 3, none⟩ v4) n 29 #[v0] ∧
    Blk (((((W.setCell ⟨n, 0, none⟩ v0).setCell ⟨n + 1, 0, none⟩ v1).setCell ⟨n + 1, 1, none⟩ v2).setCell ⟨n + 1, 2, none⟩ v3).setCell ⟨n + 1, 3, none⟩ v4) (n + 1) 36 #[v1, v2, v3, v4] := by
  constructor
  · have k := Blk.other (Blk.other (Blk.other (Blk.other (Blk.set h0 0 v0) (p := ⟨n + 1, 0, none⟩) (by show n ≠ n + 1; omega) v1) (p := ⟨n + 1, 1, none⟩) (by show n ≠ n + 1; omega) v2) (p := ⟨n + 1, 2, none⟩) (by show n ≠ n + 1; omega) v3) (p := ⟨n + 1, 3, none⟩) (by show n ≠ n + 1; omega) v4
    simpa using k
  · have k := Blk.set (Blk.set (Blk.set (Blk.set (Blk.other h1 (p := ⟨n, 0, none⟩) (by show n + 1 ≠ n; omega) v0) 0 v1) 1 v2) 2 v3) 3 v4
    simpa using k
theorem res5_gr {w W : World} (h : w.grownBy W none) (v0 v1 v2 v3 v4 : Value) :
    w.grownBy (((((W.setCell ⟨w.heap.size, 0, none⟩ v0).setCell ⟨w.heap.size + 1, 0, none⟩ v1).setCell ⟨w.heap.size + 1, 1, none⟩ v2).setCell ⟨w.heap.size + 1, 2, none⟩ v3).setCell ⟨w.heap.size + 1, 3, none⟩ v4) none :=
  have e : w.heap.size ≤ w.heap.size + 1 := Nat.le_succ _
  gr_set (gr_set (gr_set (gr_set (gr_set h (.inr (Nat.le_refl _)) _) (.inr e) _) (.inr e) _) (.inr e) _) (.inr e) _
theorem res5_keep {W : World} {n b : Nat} (h : n + 1 + 1 ≤ b) (v0 v1 v2 v3 v4 : Value) :
    (((((W.setCell ⟨n, 0, none⟩ v0).setCell ⟨n + 1, 0, none⟩ v1).setCell ⟨n + 1, 1, none⟩ v2).setCell ⟨n + 1, 2, none⟩ v3).setCell ⟨n + 1, 3, none⟩ v4).heap[b]? = W.heap[b]? := by
  rw [heap_setCell_other _ _ _ _ (by show b ≠ n + 1; omega), heap_setCell_other _ _ _ _ (by show b ≠ n + 1; omega), heap_setCell_other _ _ _ _ (by show b ≠ n + 1; omega), heap_setCell_other _ _ _ _ (by show b ≠ n + 1; omega), heap_setCell_other _ _ _ _ (by show b ≠ n; omega)]
set_option maxRecDepth 100000 in
set_option maxHeartbeats 4000000 in
theorem l3Strategy_any (s l : List UInt8) (w : World) (hs : s.length ≤ 1048576) (hl : l.length ≤ 1048576) :
    Calls Tryd.prog 22 #[.string ⟨s.toArray⟩, .string ⟨l.toArray⟩] w (StratPost s l w) := by
  have hb0 := (Blk.new w 29 #[.slice none 0 0]).alloc (.cells #[.string ⟨#[]⟩, .int .i64 0, .slice none 0 0, .slice none 0 0] 36)
  have hb1 := Blk.new (w.alloc (.cells #[.slice none 0 0] 29)) 36 #[.string ⟨#[]⟩, .int .i64 0, .slice none 0 0, .slice none 0 0]
  rw [World.size_alloc] at hb1
  have hg0 := gr_alloc (World.grownBy_alloc w (.cells #[.slice none 0 0] 29) none) (.cells #[.string ⟨#[]⟩, .int .i64 0, .slice none 0 0, .slice none 0 0] 36)
  have hT := l1Type_any s ((w.alloc (.cells #[.slice none 0 0] 29)).alloc (.cells #[.string ⟨#[]⟩, .int .i64 0, .slice none 0 0, .slice none 0 0] 36)) (by omega)
  go_enter Tryd.func22, Tryd.ntmps22
  go_wp2_with fail
  refine hT.mono ?_
  rintro e w1 ⟨hg1, hm⟩
  clear hT
  have hgr1 := gr_trans hg0 hg1
  have hb0 := Blk.grown0 hb0 hg1
  have hb1 := Blk.grown0 hb1 hg1
  have r0 := hb0.cell 0
  have rf0 := hb0.free 0
  have rlt0 := hb0.lt
  have r1 := hb1.cell 0
  have r2 := hb1.cell 1
  have r3 := hb1.cell 2
  have r4 := hb1.cell 3
  have rf1 := hb1.free 0
  have rf2 := hb1.free 1
  have rf3 := hb1.free 2
  have rf4 := hb1.free 3
  have rlt1 := hb1.lt
  simp only [List.getElem?_toArray, List.getElem?_cons_zero, List.getElem?_cons_succ] at r0 r1 r2 r3 r4
  have hsz : (⟨l.toArray⟩ : ByteArray).size = l.length := by simp [ByteArray.size]
  cases hp : Ty.read s with
  | none =>
    rw [hp] at hm
    obtain ⟨t, A, c, rfl, ht⟩ := hm
    have hS := Lib.hid (show strat s l = none by unfold strat; rw [hp])
    clear hp
    obtain ⟨f0, f1⟩ := res5 hb0 hb1 (.slice A (Ty.args t).length c) (.string ⟨#[]⟩) (.int .i64 0) (.slice none 0 0) (.slice none 0 0)
    have f0 := f0.alloc (.cells #[.slice A (Ty.args t).length c] 29)
    have f1 := f1.alloc (.cells #[.slice A (Ty.args t).length c] 29)
    have z0 := f0.cell 0
    have z1 := f1.cell 0
    have z2 := f1.cell 1
    have z3 := f1.cell 2
    have z4 := f1.cell 3
    simp only [List.getElem?_toArray, List.getElem?_cons_zero, List.getElem?_cons_succ] at z0 z1 z2 z3 z4
    clear f0 f1
    go_wp2_with fail
    exact bodyPost_ret (v := .tuple #[.agg #[.slice A (Ty.args t).length c], .agg #[.string ⟨#[]⟩, .int .i64 0, .slice none 0 0, .slice none 0 0], .bool false]) (by simp [results, Tryd.results22, go_sem, z0, z1, z2, z3, z4]) rfl (StratPost.no hS.out (gr_alloc (res5_gr hgr1 _ _ _ _ _) _))
  | some t =>
    rw [hp] at hm
    obtain ⟨A, c, rfl, ht⟩ := hm
    by_cases h2000 : l.length > 2000
    · have hS := Lib.hid (show strat s l = none by unfold strat readR; rw [hp]; simp only []; rw [if_neg (by omega)])
      have h2I : (2000 : Int) < (l.length : Int) := by omega
      clear hp
      obtain ⟨f0, f1⟩ := res5 hb0 hb1 (.slice A t.args.length c) (.string ⟨#[]⟩) (.int .i64 0) (.slice none 0 0) (.slice none 0 0)
      have f0 := f0.alloc (.cells #[.slice A t.args.length c] 29)
      have f1 := f1.alloc (.cells #[.slice A t.args.length c] 29)
      have z0 := f0.cell 0
      have z1 := f1.cell 0
      have z2 := f1.cell 1
      have z3 := f1.cell 2
      have z4 := f1.cell 3
      simp only [List.getElem?_toArray, List.getElem?_cons_zero, List.getElem?_cons_succ] at z0 z1 z2 z3 z4
      clear f0 f1
      go_wp2_with fail
      exact bodyPost_ret (v := .tuple #[.agg #[.slice A t.args.length c], .agg #[.string ⟨#[]⟩, .int .i64 0, .slice none 0 0, .slice none 0 0], .bool false]) (by simp [results, Tryd.results22, go_sem, z0, z1, z2, z3, z4]) rfl (StratPost.no hS.out (gr_alloc (res5_gr hgr1 _ _ _ _ _) _))
    · have h2I : ¬ (2000 : Int) < (l.length : Int) := by omega
      have h15 := (Ty.read_some hp).2
      have hh : HandV (w1.alloc (.cells #[.slice A t.args.length c] 29)) Al A t.args := (HandV.of_tree (ht.mono fun _ _ _ => trivial)).grown0 (World.grownBy_alloc _ _ _)
      have hla := t.length_args
      have hok : HandOk t.args 15 := ⟨by omega, fun k hk => by have := args_atoms hk; omega⟩
      have hR := l3Read_any 101 l 0 0 t.args A c 15 (w1.alloc (.cells #[.slice A t.args.length c] 29)) (by omega) (by omega) (by omega) (by omega) hh hok (by omega)
      rw [show ((0 : Nat) : Int) = 0 from rfl] at hR
      have hsr := Lib.hid (show strat s l = match sbody 101 t.args l with | some (b, []) => if b.size ≤ 200 then some (t, b) else none | _ => none by
        unfold strat readR
        rw [hp]
        simp only []
        rw [if_pos (by omega)]
        cases sbody 101 t.args l with
        | none => rfl
        | some br =>
          obtain ⟨b, r⟩ := br
          cases r with
          | nil => by_cases h : b.size ≤ 200 <;> simp [h]
          | cons => rfl)
      clear hp hh hok
      go_wp2_with fail
      refine hR.mono ?_
      rintro e w2 ⟨hg2, hm⟩
      clear hR
      rw [List.drop_zero] at hm
      have hga := gr_trans (World.grownBy_alloc w1 (.cells #[.slice A t.args.length c] 29) none) hg2
      have ht2 := (ht.grown0 hga).fr (lo := w.heap.size + 1 + 1) (by simp)
      have hgr2 := gr_trans hgr1 hga
      have hb0 := Blk.grown0 hb0 hga
      have hb1 := Blk.grown0 hb1 hga
      have hbt := Blk.grown0 (Blk.new w1 29 #[.slice A t.args.length c]) hg2
      have t0 := hbt.cell 0
      have tl := hbt.lt
      simp only [List.getElem?_toArray, List.getElem?_cons_zero] at t0
      have hw1 : w.heap.size + 1 < w1.heap.size := rlt1
      clear r0 rf0 rlt0 r1 r2 r3 r4 rf1 rf2 rf3 rf4 rlt1 hga
      cases hq : sbody 101 t.args l with
      | none =>
        rw [hq] at hm
        subst hm
        have hS := Lib.hid (show strat s l = none by rw [hsr.out, hq])
        have hne : (((-1 : Int)) == (l.length : Int)) = false := by rw [beq_eq_false_iff_ne]; omega
        have r0 := hb0.cell 0
        have rf0 := hb0.free 0
        have rlt0 := hb0.lt
        have r1 := hb1.cell 0
        have r2 := hb1.cell 1
        have r3 := hb1.cell 2
        have r4 := hb1.cell 3
        have rf1 := hb1.free 0
        have rf2 := hb1.free 1
        have rf3 := hb1.free 2
        have rf4 := hb1.free 3
        have rlt1 := hb1.lt
        simp only [List.getElem?_toArray, List.getElem?_cons_zero, List.getElem?_cons_succ] at r0 r1 r2 r3 r4
        obtain ⟨f0, f1⟩ := res5 hb0 hb1 (.slice A t.args.length c) (.string ⟨#[]⟩) (.int .i64 0) (.slice none 0 0) (.slice none 0 0)
        have f0 := f0.alloc (.cells #[.string ⟨#[]⟩, .int .i64 0, .slice none 0 0, .slice none 0 0] 36)
        have f1 := f1.alloc (.cells #[.string ⟨#[]⟩, .int .i64 0, .slice none 0 0, .slice none 0 0] 36)
        have z0 := f0.cell 0
        have z1 := f1.cell 0
        have z2 := f1.cell 1
        have z3 := f1.cell 2
        have z4 := f1.cell 3
        simp only [List.getElem?_toArray, List.getElem?_cons_zero, List.getElem?_cons_succ] at z0 z1 z2 z3 z4
        clear f0 f1
        clear hq
        unfold noneV
        go_wp2_with fail
        go_region_with (fail)
        all_goals go_wp2_with fail
        all_goals exact bodyPost_ret (v := .tuple #[.agg #[.slice A t.args.length c], .agg #[.string ⟨#[]⟩, .int .i64 0, .slice none 0 0, .slice none 0 0], .bool false]) (by simp [results, Tryd.results22, go_sem, Act.put, z0, z1, z2, z3, z4]) rfl (StratPost.no hS.out (gr_drew (gr_alloc (res5_gr hgr2 _ _ _ _ _) _)))
      | some br =>
        obtain ⟨b, rx⟩ := br
        rw [hq] at hm
        obtain ⟨B, d, C, q, j, hj, hij, rfl, rfl, hx⟩ := hm
        obtain ⟨hls, hwf, _, _⟩ := sbody_sound _ _ _ _ _ hq
        have hbs := bsize_text b _ hwf
        have hbl : b.size ≤ 1000000 := by
          have e := congrArg List.length hls
          have : b.body.length ≤ b.text.length := by cases b <;> simp [Bo.text, Bo.wrap] <;> omega
          rw [List.length_append] at e
          omega
        clear hls hwf hbs
        have hx2 := hx.fr (lo := w.heap.size + 1 + 1) (by rw [World.size_alloc]; omega)
        have r0 := hb0.cell 0
        have rf0 := hb0.free 0
        have rlt0 := hb0.lt
        have r1 := hb1.cell 0
        have r2 := hb1.cell 1
        have r3 := hb1.cell 2
        have r4 := hb1.cell 3
        have rf1 := hb1.free 0
        have rf2 := hb1.free 1
        have rf3 := hb1.free 2
        have rf4 := hb1.free 3
        have rlt1 := hb1.lt
        simp only [List.getElem?_toArray, List.getElem?_cons_zero, List.getElem?_cons_succ] at r0 r1 r2 r3 r4
        obtain ⟨f0, f1⟩ := res5 hb0 hb1 (.slice A t.args.length c) (.string ⟨b.atm.toArray⟩) (.int .i64 (b.level : Int)) (.slice B b.kn d) (.slice C b.yn q)
        have f0 := f0.alloc (.cells #[.string ⟨b.atm.toArray⟩, .int .i64 (b.level : Int), .slice B b.kn d, .slice C b.yn q] 36)
        have f1 := f1.alloc (.cells #[.string ⟨b.atm.toArray⟩, .int .i64 (b.level : Int), .slice B b.kn d, .slice C b.yn q] 36)
        have z0 := f0.cell 0
        have z1 := f1.cell 0
        have z2 := f1.cell 1
        have z3 := f1.cell 2
        have z4 := f1.cell 3
        simp only [List.getElem?_toArray, List.getElem?_cons_zero, List.getElem?_cons_succ] at z0 z1 z2 z3 z4
        clear f0 f1
        by_cases hjl : j < l.length
        · have hS := Lib.hid (show strat s l = none by
            rw [hsr.out, hq, List.drop_eq_getElem_cons hjl])
          have hne : ((j : Int) == (l.length : Int)) = false := by rw [beq_eq_false_iff_ne]; omega
          clear hq hx hx2
          unfold nodeV
          generalize b.atm.toArray = at_ at *
          generalize (b.level : Int) = lv at *
          generalize b.kn = kn at *
          generalize b.yn = yn at *
          go_wp2_with fail
          go_region_with (fail)
          all_goals go_wp2_with fail
          all_goals exact bodyPost_ret (v := .tuple #[.agg #[.slice A t.args.length c], .agg #[.string ⟨at_⟩, .int .i64 lv, .slice B kn d, .slice C yn q], .bool false]) (by simp [results, Tryd.results22, go_sem, Act.put, z0, z1, z2, z3, z4]) rfl (StratPost.no hS.out (gr_drew (gr_alloc (res5_gr hgr2 _ _ _ _ _) _)))
        · obtain rfl : j = l.length := by omega
          have hSh := Lib.hid (show strat s l = if b.size ≤ 200 then some (t, b) else none by rw [hsr.out, hq, List.drop_length])
          have hW4 : w2.grownBy (w2.alloc (.cells #[.string ⟨b.atm.toArray⟩, .int .i64 (b.level : Int), .slice B b.kn d, .slice C b.yn q] 36)).drew none := gr_drew (World.grownBy_alloc _ _ _)
          have hcl := Lib.hid (l3Size_any _ b B d C q _ _ (Nat.le_refl _) hbl (hx.grown0 hW4))
          have hbnd : Blk (w2.alloc (.cells #[.string ⟨b.atm.toArray⟩, .int .i64 (b.level : Int), .slice B b.kn d, .slice C b.yn q] 36)).drew w2.heap.size 36 #[.string ⟨b.atm.toArray⟩, .int .i64 (b.level : Int), .slice B b.kn d, .slice C b.yn q] := Blk.new w2 36 #[.string ⟨b.atm.toArray⟩, .int .i64 (b.level : Int), .slice B b.kn d, .slice C b.yn q]
          have hbtd := Blk.grown0 hbt hW4
          have hb0d := Blk.grown0 hb0 hW4
          have hb1d := Blk.grown0 hb1 hW4
          have htd := Lib.hid (ht2.grown0 hW4)
          have hnd := Lib.hid (hx2.grown0 hW4)
          have hgrd := Lib.hid (gr_trans hgr2 hW4)
          clear hq hx hx2 ht2 ht hW4 z0 z1 z2 z3 z4 hgr2 hsr
          unfold nodeV at hcl ⊢
          have hnv := Lib.hid (show nodeV b B d C q = .agg #[.string ⟨b.atm.toArray⟩, .int .i64 (b.level : Int), .slice B b.kn d, .slice C b.yn q] from rfl)
          generalize b.atm.toArray = at_ at *
          generalize (b.level : Int) = lv at *
          generalize b.kn = kn at *
          generalize b.yn = yn at *
          by_cases h200 : b.size ≤ 200
          · have h2 : (b.size : Int) ≤ 200 := by omega
            go_wp2_with fail
            go_region_with (go_at_call 24; refine hcl.out.mono ?_; rintro e w3 ⟨rfl, hgw⟩; have b0 := hb0d.grown0 hgw; have b1 := hb1d.grown0 hgw; have b2 := hbtd.grown0 hgw; have b3 := hbnd.grown0 hgw; have y0 := b0.cell 0; have y1 := b1.cell 0; have y2 := b1.cell 1; have y3 := b1.cell 2; have y4 := b1.cell 3; have y5 := b2.cell 0; have y6 := b3.cell 0; have y7 := b3.cell 1; have y8 := b3.cell 2; have y9 := b3.cell 3; have x0 := b0.free 0; have x1 := b1.free 0; have x2 := b1.free 1; have x3 := b1.free 2; have x4 := b1.free 3; have l0 := b0.lt; have l1 := b1.lt; have l2 := b2.lt; have l3 := b3.lt; simp only [List.getElem?_toArray, List.getElem?_cons_zero, List.getElem?_cons_succ] at y0 y1 y2 y3 y4 y5 y6 y7 y8 y9; have ff := res5 b0 b1 (.slice A t.args.length c) (.string ⟨at_⟩) (.int .i64 lv) (.slice B kn d) (.slice C yn q); have v0 := ff.1.cell 0; have v1 := ff.2.cell 0; have v2 := ff.2.cell 1; have v3 := ff.2.cell 2; have v4 := ff.2.cell 3; simp only [List.getElem?_toArray, List.getElem?_cons_zero, List.getElem?_cons_succ] at v0 v1 v2 v3 v4; clear b0 b1 b2 b3 ff)
            all_goals go_wp2_with fail
            all_goals refine bodyPost_ret (v := .tuple #[.agg #[.slice A t.args.length c], .agg #[.string ⟨at_⟩, .int .i64 lv, .slice B kn d, .slice C yn q], .bool true]) (by simp [results, Tryd.results22, go_sem, Act.put, v0, v1, v2, v3, v4]) rfl ?_
            all_goals exact (by rw [← hnv.out]; exact StratPost.yes (by rw [hSh.out, if_pos h200]) (res5_gr (gr_trans hgrd.out hgw) _ _ _ _ _) (((htd.out.grown0 hgw).keep fun x hx _ => res5_keep hx _ _ _ _ _).fr (by omega)) (((hnd.out.grown0 hgw).keep fun x hx _ => res5_keep hx _ _ _ _ _).fr (by omega)))
          · have h2 : ¬ (b.size : Int) ≤ 200 := by omega
            go_wp2_with fail
            go_region_with (go_at_call 24; refine hcl.out.mono ?_; rintro e w3 ⟨rfl, hgw⟩; have b0 := hb0d.grown0 hgw; have b1 := hb1d.grown0 hgw; have b2 := hbtd.grown0 hgw; have b3 := hbnd.grown0 hgw; have y0 := b0.cell 0; have y1 := b1.cell 0; have y2 := b1.cell 1; have y3 := b1.cell 2; have y4 := b1.cell 3; have y5 := b2.cell 0; have y6 := b3.cell 0; have y7 := b3.cell 1; have y8 := b3.cell 2; have y9 := b3.cell 3; have x0 := b0.free 0; have x1 := b1.free 0; have x2 := b1.free 1; have x3 := b1.free 2; have x4 := b1.free 3; have l0 := b0.lt; have l1 := b1.lt; have l2 := b2.lt; have l3 := b3.lt; simp only [List.getElem?_toArray, List.getElem?_cons_zero, List.getElem?_cons_succ] at y0 y1 y2 y3 y4 y5 y6 y7 y8 y9; have ff := res5 b0 b1 (.slice A t.args.length c) (.string ⟨at_⟩) (.int .i64 lv) (.slice B kn d) (.slice C yn q); have v0 := ff.1.cell 0; have v1 := ff.2.cell 0; have v2 := ff.2.cell 1; have v3 := ff.2.cell 2; have v4 := ff.2.cell 3; simp only [List.getElem?_toArray, List.getElem?_cons_zero, List.getElem?_cons_succ] at v0 v1 v2 v3 v4; clear b0 b1 b2 b3 ff)
            all_goals go_wp2_with fail
            all_goals refine bodyPost_ret (v := .tuple #[.agg #[.slice A t.args.length c], .agg #[.string ⟨at_⟩, .int .i64 lv, .slice B kn d, .slice C yn q], .bool false]) (by simp [results, Tryd.results22, go_sem, Act.put, v0, v1, v2, v3, v4] <;> omega) rfl ?_
            all_goals exact (StratPost.no (by rw [hSh.out, if_neg h200]) (res5_gr (gr_trans hgrd.out hgw) _ _ _ _ _))
end Go.Proofs.YtlehnlfgjadleaaDoor
