/- The program's reader of bodies: lists. -/
import Derived.Test.YtlehnlfgjadleaaDoorIStep
namespace Go.Proofs.YtlehnlfgjadleaaDoor
open Go.RowKit

/-- No list is read where no type at hand stands for the number, or where the depth is out. -/
theorem ibody_no {D m : Nat} {hand : List Ty} {l : List UInt8} (hp : pre [40] l = true) (h : D = 0 ∨ numOf ((cut [40] l).take (wlen (cut [40] l))) = none ∨ ∃ v, numOf ((cut [40] l).take (wlen (cut [40] l))) = some v ∧ hand[v]? = none) : ibody D (m + 1) hand l = none := by
  cases D with
  | zero => unfold ibody; simp only [hp]; rfl
  | succ d =>
    unfold ibody
    simp only [hp]
    rcases h with h | h | ⟨v, h1, h2⟩
    · cases h
    · rw [h]; rfl
    · rw [h1]; simp only [h2]; rfl
theorem info_pbody : (Tryd.prog.info? 42).map (fun i => (i.zero, i.size, i.bytes)) = some (some (.pointer none), 1, 8) := by kernel_rfl
theorem KindP.mem {w : World} {F : Nat → Prop} {q : Nat} {t : Ty} (h : KindP w F q t) : F q := by
  cases h with
  | mk _ _ A c qs hq hb hA hs _ => exact hq
theorem ibody_yes {d m v : Nat} {hand : List Ty} {l : List UInt8} {k : Ty} (hp : pre [40] l = true) (h : numOf ((cut [40] l).take (wlen (cut [40] l))) = some v) (hk : hand[v]? = some k) :
    ibody (d + 1) (m + 1) hand l = iloop (ibody d) hand k.args (k.args.length + 2) m (.hd v) ((cut [40] l).drop (wlen (cut [40] l))) := by
  conv => lhs; unfold ibody
  simp only [hp, if_true, h, hk]
set_option maxRecDepth 100000 in
set_option maxHeartbeats 4000000 in
theorem ibody_list (D m : Nat) (ih : ∀ d, D = d + 1 → IBIH d) (hand : List Ty) (A : Option Addr) (ca p : Nat) (l : List UInt8) (N : Nat) (w : World) (lo : Nat) (hs : ScanG w p 87 [.int .i64 ((m : Int) + 1)] l) (hl : l.length ≤ 2000000) (hm : m ≤ 1000) (hp : pre [40] l = true)
    (hh : HandP w (Ne p) A hand) (hok : HandOk hand N) (hN : N + 15 * D ≤ 9999) (hL : LaidW w lo) (hlo : lo ≤ p) :
    Calls Tryd.prog 46 #[.pointer (some ⟨p, 0, none⟩), .slice A hand.length ca, .int .i64 (D : Int)] w (IRes p w (ibody D (m + 1) hand l)) := by
  have hlt := hs.lt
  have hG := entW_gr w p A hand.length ca D m
  have hS := entW_scan A hand.length ca D m hs
  have hT := Lib.hid (takeG_any p 87 [.int .i64 (m : Int)] l [40] _ hS (by omega) (by simp))
  have hwm : IntKind.i64.wrap (m : Int) = (m : Int) := IntWalk.i64_in _ (by omega)
  have hnm : ¬ (m : Int) < 0 := by omega
  obtain ⟨k1, k2, k3, k4, k5⟩ := ent_facts A hand.length ca D m hs
  have hB := Lib.hid (fun (W : World) (hW : (entW w p A hand.length ca D m).grownBy W (some p)) => show (Blk W w.heap.size 85 #[.pointer (some ⟨p, 0, none⟩)] ∧ Blk W (w.heap.size + 1) 59 #[.slice A hand.length ca] ∧ Blk W (w.heap.size + 2) 3 #[.int .i64 (D : Int)]) from
    ⟨(entW_blk A hand.length ca D m hlt).1.grown hW (by intro e; cases e; exact Nat.lt_irrefl _ hlt), (entW_blk A hand.length ca D m hlt).2.1.grown hW (by intro e; have := Option.some.inj e; omega), (entW_blk A hand.length ca D m hlt).2.2.grown hW (by intro e; have := Option.some.inj e; omega)⟩)
  have hsz := Lib.hid (entW_size w p A hand.length ca D m)
  have hcl := Lib.hid (show (cut [40] l).length ≤ l.length from pre_length)
  have hno := Lib.hid (ibody_no (D := D) (m := m) (hand := hand) hp)
  have hyes := Lib.hid (fun d v k => ibody_yes (d := d) (m := m) (v := v) (hand := hand) (k := k) hp)
  unfold entW at k4 k5
  clear hs
  have hGh := Lib.hid hG
  have hhh := Lib.hid hh
  have hLh := Lib.hid hL
  have hokh := Lib.hid hok
  clear hG hS hh hL hok
  generalize hX : ibody D (m + 1) hand l = X at *
  have hX := Lib.hid hX
  go_enter Tryd.func46, Tryd.ntmps46
  go_wp2_with fail
  refine hT.out.mono ?_
  rintro e w1 ⟨rfl, hs1, hg1⟩
  have hgw1 := gr_trans hGh.out hg1
  obtain ⟨z1, z2, z3⟩ := hB.out w1 hg1
  have z1l := z1.lt
  have z1 := z1.cell 0
  simp only [List.getElem?_toArray, List.getElem?_cons_zero] at z1
  have hcll := hcl.out
  generalize cut [40] l = l1 at *
  clear z2 z3
  go_wp2_with fail
  refine (word_any p 87 [.int .i64 (m : Int)] l1 w1 hs1 (by omega)).mono ?_
  rintro e w2 ⟨rfl, hs2, hg2⟩
  have hgw2 := gr_trans hgw1 hg2
  have hwl : (l1.take (wlen l1)).length ≤ l1.length := by rw [List.length_take]; omega
  have hrl : (l1.drop (wlen l1)).length ≤ l1.length := by rw [List.length_drop]; omega
  have hL2 := hLh.out.grown hgw2 hlo
  have wd1 : (⟨(l1.take (wlen l1)).toArray⟩ : ByteArray).toList = l1.take (wlen l1) := by simp
  generalize l1.take (wlen l1) = x at *
  generalize l1.drop (wlen l1) = r at *
  clear z1 z1l hs1
  go_wp2_with fail
  refine (atoi_any x w2 lo (by omega) hL2).mono ?_
  rintro e w3 ⟨hg3, hm3⟩
  have hgw3 := gr_trans hgw2 (gr_weak hg3 _)
  have hs3 := hs2.grown0 hg3
  have hL3 := hL2.grown0 hg3
  clear hs2 hL2
  cases hA : Lib.atoiAll x with
  | range =>
    rw [hA] at hm3
    obtain ⟨v, t, q, rfl⟩ := hm3
    have hn := Lib.hid (hno.out (.inr (.inl (by unfold numOf; rw [hA]))))
    go_wp2_with fail
    go_ret
    exact .no hn.out hgw3
  | ok v =>
    rw [hA] at hm3
    simp only [] at hm3
    subst hm3
    have hvb := Lib.atoiAll_bounds hA
    have hI := Lib.hid (itoa_any v w3 lo hvb.1 hvb.2 hL3)
    go_wp2_with fail
    refine hI.out.mono ?_
    rintro e w4 ⟨rfl, hg4⟩
    have hgw4 := gr_trans hgw3 (gr_weak hg4 _)
    have hs4 := hs3.grown0 hg4
    have hL4 := hL3.grown0 hg4
    clear hs3 hL3
    generalize hy : Lib.itoa v = y at *
    by_cases hyx : y = x
    · subst hyx
      have hvI : IntKind.i64.wrap v = v := IntWalk.i64_in _ (by omega)
      obtain ⟨z1, z2, z3⟩ := hB.out w4 (gr_trans hg1 (gr_trans hg2 (gr_trans (gr_weak hg3 _) (gr_weak hg4 _))))
      have z1l := z1.lt
      have z2l := z2.lt
      have z3l := z3.lt
      have z1 := z1.cell 0
      have z2 := z2.cell 0
      have z3 := z3.cell 0
      simp only [List.getElem?_toArray, List.getElem?_cons_zero] at z1 z2 z3
      by_cases hv0 : v < 0
      · have hn := Lib.hid (hno.out (.inr (.inl (by unfold numOf; rw [hA]; simp only []; rw [if_neg (by rintro ⟨h, _⟩; omega)]))))
        clear hA
        go_wp2_with fail
        go_ret
        exact .no hn.out hgw4
      · have hnum : numOf y = some v.toNat := by unfold numOf; rw [hA]; simp only []; rw [if_pos ⟨by omega, hy⟩]
        obtain ⟨u, rfl⟩ : ∃ u : Nat, v = (u : Int) := ⟨v.toNat, by omega⟩
        rw [Int.toNat_natCast] at hnum
        clear hA hy
        cases hk : hand[u]? with
        | none =>
          have hge : hand.length ≤ u := List.getElem?_eq_none_iff.1 hk
          have hn := Lib.hid (hno.out (.inr (.inr ⟨u, hnum, hk⟩)))
          clear hk hnum
          go_wp2_with fail
          go_ret
          exact .no hn.out hgw4
        | some k =>
          have hul : u < hand.length := (List.getElem?_eq_some_iff.1 hk).1
          cases D with
          | zero =>
            have hn := Lib.hid (hno.out (.inl rfl))
            clear hk hnum
            go_wp2_with fail
            go_ret
            exact .no hn.out hgw4
          | succ d =>
            have e1 : ((d + 1 : Nat) : Int) = (d : Int) + 1 := by omega
            rw [e1] at z3 ⊢
            have n0 : (((d : Int) + 1) == 0) = false := by simp; omega
            have hX2 := hyes.out d u k hnum hk
            have hih := Lib.hid (ih d rfl)
            obtain ⟨qs, hS, hK⟩ := hhh.out
            obtain ⟨gA, oA, rfl, hgA, hcA⟩ := hS (by omega)
            have hcu := hcA u hul
            have hKu := hK u k hk
            obtain ⟨Bk, cBk, hbk, hHk⟩ := HandP.of_kind hKu
            have hhk := Lib.hid (fun (W : World) (hW : w.grownBy W (some p)) => show HandP W (Ne p) (some ⟨gA, oA, none⟩) hand ∧ HandP W (Ne p) Bk k.args from ⟨hhh.out.grown hW, hHk.grown hW⟩)
            have hgr5 := gr_alloc hgw4 (.cells #[.string ⟨#[]⟩, .int .i64 (u : Int), .slice none 0 0, .pointer none, .pointer none] 64)
            have hlA : gA < w.heap.size := World.block_lt_of_cell? w ⟨gA, oA + u, none⟩ hcu
            have t1 := (World.cell?_of_block (w := w) (a := ⟨gA, oA + u, none⟩) (hgr5.block gA hlA (fun e => hgA (Option.some.inj e)))).trans hcu
            have hq5 := hbk.grown hgr5 (fun e => hKu.mem (Option.some.inj e))
            have t2 := hq5.cell 0
            have t2l := hq5.lt
            simp only [List.getElem?_toArray, List.getElem?_cons_zero] at t2
            have hB5 := hB.out _ (gr_alloc (gr_trans hg1 (gr_trans hg2 (gr_trans (gr_weak hg3 _) (gr_weak hg4 _)))) (.cells #[.string ⟨#[]⟩, .int .i64 (u : Int), .slice none 0 0, .pointer none, .pointer none] 64))
            rw [e1] at hB5
            have hbx5 : Boxes w (w4.alloc (.cells #[.string ⟨#[]⟩, .int .i64 (u : Int), .slice none 0 0, .pointer none, .pointer none] 64)) p (some ⟨gA, oA, none⟩) hand.length ca d := hB5
            have u2 := hB5.2.1.cell 0
            have u2l := hB5.2.1.lt
            simp only [List.getElem?_toArray, List.getElem?_cons_zero] at u2
            have hq0 : w.heap.size + 3 ≤ w4.heap.size := by
              rw [← hsz.out]
              exact (gr_trans hg1 (gr_trans hg2 (gr_trans (gr_weak hg3 _) (gr_weak hg4 _)))).size
            have hout := Blk.new w4 64 #[.string ⟨#[]⟩, .int .i64 (u : Int), .slice none 0 0, .pointer none, .pointer none]
            have hIT : IT w (w4.alloc (.cells #[.string ⟨#[]⟩, .int .i64 (u : Int), .slice none 0 0, .pointer none, .pointer none] 64)) p w4.heap.size u d (some ⟨gA, oA, none⟩) hand.length ca (.hd u) r m none (Bo.hd u).np 0 (fun _ => 0) (.pointer none) (.pointer none) (NotRow w4.heap.size (.slice none (Bo.hd u).np 0)) :=
              ⟨rfl, rfl, hs4.alloc _, by omega, hm, hgr5, hbx5, hlt, hq0, hout, fun i b h => by simp [Bo.parts] at h⟩
            have hITh := Lib.hid hIT
            have hka : k.args.length ≤ 15 := by
              have := hokh.out.2 k (List.mem_of_getElem? hk)
              have := k.length_args
              omega
            have hok15 := Lib.hid (fun i => hokh.out.at_ u i)
            have hag : Bo.argsOf hand u = k.args := by unfold Bo.argsOf; rw [hk]
            rw [hag] at hok15
            have hXh := Lib.hid (show iloop (ibody d) hand k.args (k.args.length + 2) m (.hd u) r = X from hX2.symm.trans hX.out)
            have hLr := Lib.hid (fun (W : World) (hW : w.grownBy W (some p)) => hLh.out.grown hW hlo)
            clear hIT hbx5 hB5 hout hq5 hag hokh hX2 hX hyes hno hT hLh hI hB hhh hk hnum hHk hKu hK hS hbk hs4 hL4 k1 k2 k3 k4 k5 hcl wd1
            have hvd : decide (hand.length ≤ u) = false := decide_eq_false (by omega)
            have hvN : ¬ hand.length ≤ u := by omega
            have hvI1 : decide ((hand.length : Int) ≤ (u : Int)) = false := decide_eq_false (by omega)
            have hvI2 : decide ((u : Int) < 0) = false := decide_eq_false (by omega)
            go_wp2_with fail
            clear t1 t2 u2 z1 z2 z3 z1l z2l z3l t2l u2l
            go_loopw [93] (fun i wr => ∃ (acc : Bo) (l' : List UInt8) (n' : Nat) (As : Option Addr) (cs : Nat) (ps : Nat → Nat), i = .int .i64 (acc.np : Int) ∧ acc.np ≤ k.args.length ∧ iloop (ibody d) hand k.args (k.args.length + 2 - acc.np) n' acc l' = X ∧
                IT w wr p w4.heap.size u d (some ⟨gA, oA, none⟩) hand.length ca acc l' n' As acc.np cs ps (.pointer none) (.pointer none) (NotRow w4.heap.size (.slice As acc.np cs)) ∧
                wr.ownsRow (w4.heap.size + 1) 42 1 (.slice As acc.np cs) acc.np ((List.range acc.np).map fun i => bptr (ps i)))
              (fun i _ => k.args.length - (intOf i).toNat)
            case atStart => exact ⟨.hd u, r, m, none, 0, fun _ => 0, rfl, Nat.zero_le _, hXh.out, hITh.out, rfl, .inl ⟨rfl, rfl⟩⟩
            case round =>
              obtain ⟨acc, l', n', As, cs, ps, rfl, hjl, hit, hI, hown⟩ := hrel
              have hIh := Lib.hid hI
              have hownh := Lib.hid hown
              have hob := hI.out
              have o1 := hob.cell 2
              have o1l := hob.lt
              have o2 := hI.bx
              simp only [List.getElem?_toArray, List.getElem?_cons_zero, List.getElem?_cons_succ] at o1
              obtain ⟨hHh, hHk⟩ := hhk.out wr hI.gr
              have hLw := hLr.out wr hI.gr
              by_cases hlt2 : acc.np < k.args.length
              · obtain ⟨qk, hSk, hKk⟩ := hHk
                obtain ⟨gB, oB, rfl, hgB, hcB⟩ := hSk (by omega)
                have cj := hcB acc.np hlt2
                have haj : k.args[acc.np]? = some k.args[acc.np] := List.getElem?_eq_getElem hlt2
                have hKa := hKk _ _ haj
                generalize hA2 : k.args[acc.np] = a at haj hKa
                obtain ⟨C, cC, hbC, hHC⟩ := HandP.of_kind hKa
                have cc := hbC.cell 0
                have ccl := hbC.lt
                simp only [List.getElem?_toArray, List.getElem?_cons_zero] at cc
                have hh1 := hok15.out acc.np
                have hhat : Bo.handAt hand k.args acc.np = hand ++ a.args := by unfold Bo.handAt; rw [haj]
                rw [hhat] at hh1
                rw [show k.args.length + 2 - acc.np = (k.args.length + 1 - acc.np) + 1 by omega, iloop_succ, hhat] at hit
                have hP := Lib.hid (part_any d hih.out hand a.args (some ⟨gA, oA, none⟩) C ca cC p w.heap.size (w.heap.size + 1) (w.heap.size + 2) l' n' (N + 15) wr lo hI.sc hI.ll hHh hHC (by omega) hh1 (by omega) hI.nn hLw hlo o2.1 o2.2.1 o2.2.2 (by omega) (by omega) (by omega))
                have hless := Lib.hid (fun b r2 n2 => ibody_less (d := d) (n := n') (hand := hand ++ a.args) (l := l') (b := b) (r := r2) (n' := n2))
                generalize (if pre [32] l' then ibody d n' (hand ++ a.args) (cut [32] l') else none) = Y at *
                have hitH := Lib.hid hit
                have hgI := Lib.hid hI.gr
                clear hit hI hown hob hHh hLw hKk haj hKa hA2 hHC hbC hh1 hhat hcB hSk o2
                go_wp2_with fail
                refine hP.out.mono ?_
                rintro e w6 ⟨v6, rfl, hg6, hv6⟩
                cases Y with
                | none =>
                  obtain rfl := hv6
                  have hXn := Lib.hid (show X = none from hitH.out.symm)
                  go_wp2_with fail
                  go_ret
                  exact .no hXn.out (gr_trans hgI.out hg6)
                | some y =>
                  obtain ⟨x, r2, n2⟩ := y
                  obtain ⟨q, rfl, hs6, hb6⟩ := hv6
                  obtain ⟨hr2, hn2⟩ := hless.out x r2 n2 rfl
                  have hIo := hIh.out
                  have hpq := hIo.pq
                  have hwq := hIo.wq
                  have hb1 : Blk w6 w4.heap.size 64 #[.string ⟨#[]⟩, .int .i64 u, .slice As acc.np cs, .pointer none, .pointer none] := hIo.out.grown hg6 (by intro e; have := Option.some.inj e; omega)
                  have x1 := hb1.cell 2
                  have x1l := hb1.lt
                  simp only [List.getElem?_toArray, List.getElem?_cons_zero, List.getElem?_cons_succ] at x1
                  have hga6 := World.grownBy_alloc w6 (.cells #[bptr q] 42) none
                  have hown6 := (ownP_keep hownh.out hg6 (fun g hg e => by have := hownh.out.lt g hg; have := Option.some.inj e; omega)).alloc (.cells #[bptr q] 42)
                  have hb7 := hb1.alloc (.cells #[bptr q] 42)
                  have hb8h := Lib.hid (fun (W : World) (v : Value) (hv : ∀ g, v.ownBlock = some g → w4.heap.size + 1 ≤ g) (hW : (w6.alloc (.cells #[bptr q] 42)).grownBy W v.ownBlock) =>
                    show Blk W w4.heap.size 64 #[.string ⟨#[]⟩, .int .i64 u, .slice As acc.np cs, .pointer none, .pointer none] from hb7.grown hW (fun e => by have := hv _ e.symm; omega))
                  have hstep := Lib.hid (fun As' cs' w8 => IT.push (x := x) (r := r2) (n' := n2) (q := q) (w1 := w6) (w3 := w8) (As' := As') (cs' := cs') hIo hownh.out hg6 hs6 hr2 hn2 hb6)
                  have hbase7 : w4.heap.size + 1 ≤ (w6.alloc (.cells #[bptr q] 42)).heap.size := by rw [World.size_alloc]; omega
                  have hlb := Lib.hid (fun g hg => (hownh.out.lt g hg).1)
                  have hnpl : acc.np ≤ 15 := by omega
                  clear hIo hb1 hb7 hga6 hs6 hb6 hP hless
                  go_wp2_with (at_builtin; refine wpList_app rfl _ _ 62 rfl (w4.heap.size + 1) 42 (.pointer none) 8 Tryd.underlying62 info_pbody rfl _ _ acc.np _ rfl hown6 _ 1 1 _ rfl _ (sl_one w6 42 (bptr q)) (fun _ _ => rfl) (by unfold maxLen; omega) (by omega) hbase7 ?_; intro A8 c8 w8 hown8 hg8 hat8; have hb8 := hb8h.out w8 _ hlb.out hg8; have x3 := hb8.cell 2; have x3f := hb8.free 2; have x3l := hb8.lt; simp only [List.getElem?_toArray, List.getElem?_cons_zero, List.getElem?_cons_succ] at x3)
                  obtain ⟨hI9, hown9⟩ := hstep.out A8 c8 w8 hown8 hg8 hat8
                  have hit9 := hitH.out
                  go_wp2_with fail
                  go_roundw
                  case rel => exact ⟨.sn acc x, r2, n2, A8, c8, fun i => if i = acc.np then q else ps i, by show Value.int .i64 ((acc.np : Int) + 1) = .int .i64 ((acc.np + 1 : Nat) : Int); go_num, by show acc.np + 1 ≤ _; omega, by show iloop (ibody d) hand k.args (k.args.length + 2 - (acc.np + 1)) n2 (.sn acc x) r2 = X; rw [show k.args.length + 2 - (acc.np + 1) = k.args.length + 1 - acc.np by omega]; exact hit9, hI9, hown9⟩
                  case measure => simp [intOf]; omega
              · have hjeq : acc.np = k.args.length := by omega
                have hhat : Bo.handAt hand k.args acc.np = hand := by unfold Bo.handAt; rw [List.getElem?_eq_none (by omega)]
                have hhat2 : ∀ x, Bo.handAt hand k.args (Bo.sn acc x).np = hand := fun x => by unfold Bo.handAt; rw [List.getElem?_eq_none (by show _ ≤ acc.np + 1; omega)]
                have hok2 := hok15.out acc.np
                rw [hhat] at hok2
                rw [show k.args.length + 2 - acc.np = 1 + 1 by omega, iloop_succ, hhat] at hit
                have hP := Lib.hid (part_nil d hih.out hand (some ⟨gA, oA, none⟩) ca p w.heap.size (w.heap.size + 1) (w.heap.size + 2) l' n' (N + 15) wr lo hI.sc hI.ll hHh (by omega) hok2 (by omega) hI.nn hLw hlo o2.1 o2.2.1 o2.2.2 (by omega) (by omega) (by omega))
                have hok2h := Lib.hid hok2
                have hless := Lib.hid (fun b r2 n2 => ibody_less (d := d) (n := n') (hand := hand) (l := l') (b := b) (r := r2) (n' := n2))
                have hIR := Lib.hid (IT.rows hI hown)
                generalize (if pre [32] l' then ibody d n' hand (cut [32] l') else none) = Y at *
                have hitH := Lib.hid hit
                have hgI := Lib.hid hI.gr
                have hbO := Lib.hid (fun (W : World) (hW : wr.grownBy W (some p)) => show Blk W w4.heap.size 64 #[.string ⟨#[]⟩, .int .i64 u, .slice As acc.np cs, .pointer none, .pointer none] from
                  hIh.out.out.grown hW (by intro e; have := Option.some.inj e; omega))
                have hjeqh := Lib.hid hjeq
                clear hit hI hown hob hHh hLw hHk hhat o2 hok2 hjeq
                go_wp2_with fail
                refine hP.out.mono ?_
                rintro e w6 ⟨v6, rfl, hg6, hv6⟩
                have hb1 := hbO.out w6 hg6
                have x1 := hb1.cell 3
                have x1f := hb1.free 3
                have x1l := hb1.lt
                simp only [List.getElem?_toArray, List.getElem?_cons_zero, List.getElem?_cons_succ] at x1
                have x2 := Blk.cell (hb1.set 3 v6) 3
                simp only [List.setIfInBounds_toArray, List.getElem?_toArray, List.set_cons_succ, List.set_cons_zero, List.getElem?_cons_zero, List.getElem?_cons_succ] at x2
                clear hb1
                cases Y with
                | none =>
                  obtain rfl := hv6
                  have hXn := Lib.hid (show X = none from hitH.out.symm)
                  have hgn := Lib.hid (gr_set (gr_trans hgI.out hg6) (p := ⟨w4.heap.size, 3, none⟩) (.inr (by show w.heap.size ≤ w4.heap.size; omega)) (.pointer none))
                  go_wp2_with fail
                  go_ret
                  exact .no hXn.out hgn.out
                | some y =>
                  obtain ⟨x, r2, n2⟩ := y
                  obtain ⟨q, rfl, hs6, hb6⟩ := hv6
                  obtain ⟨hr2, hn2⟩ := hless.out x r2 n2 rfl
                  obtain ⟨hI7, hS7⟩ := IT.tail (fi := 3) (vy' := bptr q) (vn' := .pointer none) hIR.out.1 hIR.out.2 hg6 hs6 hr2 hn2 hb6 rfl
                  go_wp2_with fail
                  have hit7 : iloop (ibody d) hand k.args (0 + 1) n2 (.sn acc x) r2 = X := hitH.out
                  rw [iloop_succ, hhat2] at hit7
                  have hP2 := Lib.hid (part_nil d hih.out hand (some ⟨gA, oA, none⟩) ca p w.heap.size (w.heap.size + 1) (w.heap.size + 2) r2 n2 (N + 15) _ lo hI7.sc hI7.ll (hhk.out _ hI7.gr).1 (by omega) hok2h.out (by omega) hI7.nn (hLr.out _ hI7.gr) hlo hI7.bx.1 hI7.bx.2.1 hI7.bx.2.2 (by omega) (by omega) (by omega))
                  have hless2 := Lib.hid (fun b r3 n3 => ibody_less (d := d) (n := n2) (hand := hand) (l := r2) (b := b) (r := r3) (n' := n3))
                  generalize (if pre [32] r2 then ibody d n2 hand (cut [32] r2) else none) = Z at *
                  have hit7h := Lib.hid hit7
                  have hI7h := Lib.hid hI7
                  have hS7h := Lib.hid hS7
                  clear hitH hit7 hless hP hI7 hS7 x1 x1f x1l x2
                  refine hP2.out.mono ?_
                  rintro e w7 ⟨v7, rfl, hg7, hv7⟩
                  have hb2 : Blk w7 w4.heap.size 64 #[.string ⟨#[]⟩, .int .i64 u, .slice As acc.np cs, bptr q, .pointer none] := hI7h.out.out.grown hg7 (by intro e; have := Option.some.inj e; omega)
                  have x1 := hb2.cell 4
                  have x1f := hb2.free 4
                  have x1l := hb2.lt
                  simp only [List.getElem?_toArray, List.getElem?_cons_zero, List.getElem?_cons_succ] at x1
                  have x2 := Blk.cell (hb2.set 4 v7) 4
                  simp only [List.setIfInBounds_toArray, List.getElem?_toArray, List.set_cons_succ, List.set_cons_zero, List.getElem?_cons_zero, List.getElem?_cons_succ] at x2
                  clear hb2
                  cases Z with
                  | none =>
                    obtain rfl := hv7
                    have hXn := Lib.hid (show X = none from hit7h.out.symm)
                    have hgn := Lib.hid (gr_set (gr_trans hI7h.out.gr hg7) (p := ⟨w4.heap.size, 4, none⟩) (.inr (by show w.heap.size ≤ w4.heap.size; omega)) (.pointer none))
                    go_wp2_with fail
                    go_ret
                    exact .no hXn.out hgn.out
                  | some z =>
                    obtain ⟨z, r3, n3⟩ := z
                    obtain ⟨q2, rfl, hs7, hb7⟩ := hv7
                    obtain ⟨hr3, hn3⟩ := hless2.out z r3 n3 rfl
                    obtain ⟨hI8, hS8⟩ := IT.tail (fi := 4) (vy' := bptr q) (vn' := bptr q2) hI7h.out hS7h.out hg7 hs7 hr3 hn3 hb7 rfl
                    have hit8 := hit7h.out
                    have y1 := hI8.bx.1.cell 0
                    have y1l := hI8.bx.1.lt
                    simp only [List.getElem?_toArray, List.getElem?_cons_zero] at y1
                    unfold bptr at y1
                    have hT8 := Lib.hid (takeG_any p 87 [.int .i64 (n3 : Int)] r3 [41] _ hI8.sc (by have := hI8.ll; omega) (by simp))
                    have hI8h := Lib.hid hI8
                    have hS8h := Lib.hid hS8
                    have hX8 : (if pre [41] r3 then some ((acc.sn x).sn z, cut [41] r3, n3) else none) = X := hit8
                    have hX8h := Lib.hid hX8
                    clear hI8 hS8 hit8 hX8
                    go_wp2_with fail
                    refine hT8.out.mono ?_
                    rintro e w8 ⟨rfl, hs8, hg8⟩
                    cases hp8 : pre [41] r3 with
                    | false =>
                      have hXn := Lib.hid (show X = none by rw [← hX8h.out, hp8]; rfl)
                      clear hs8
                      go_wp2_with fail
                      go_ret
                      exact .no hXn.out (gr_trans hI8h.out.gr hg8)
                    | true =>
                      have hXs := Lib.hid (show X = some ((acc.sn x).sn z, cut [41] r3, n3) by rw [← hX8h.out, hp8]; rfl)
                      have hBP : BodyP w8 (Fr w.heap.size) w4.heap.size ((acc.sn x).sn z) := (IT.done2 hI8h.out hS8h.out).grown hg8 hlt
                      have hBPh := Lib.hid hBP
                      have hs8h := Lib.hid hs8
                      clear hs8 hBP
                      go_wp2_with fail
                      go_ret
                      exact ⟨_, rfl, gr_trans hI8h.out.gr hg8, by rw [hXs.out]; exact ⟨_, rfl, hs8h.out, hBPh.out⟩⟩
    · have hn := Lib.hid (hno.out (.inr (.inl (by unfold numOf; rw [hA]; simp only []; rw [if_neg (by rintro ⟨_, h⟩; exact hyx (hy ▸ h))]))))
      go_wp2_with fail
      go_ret
      exact .no hn.out hgw4
  | _ =>
    rw [hA] at hm3
    obtain ⟨v, t, q, rfl⟩ := hm3
    have hn := Lib.hid (hno.out (.inr (.inl (by unfold numOf; rw [hA]))))
    go_wp2_with fail
    go_ret
    exact .no hn.out hgw3
end Go.Proofs.YtlehnlfgjadleaaDoor
