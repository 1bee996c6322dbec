/- The program's isList, slices.Clone of bodies, parts and size of bodies; StrategySize. -/
import Derived.Test.YtlehnlfgjadleaaDoorIBodyL
import Derived.Test.YtlehnlfgjadleaaDoorSBodyA
import Derived.Lib.SliceRun
namespace Go.Proofs.YtlehnlfgjadleaaDoor
open Go.RowKit

theorem isList_leaf (q : Nat) (c : List UInt8) (w : World) (hc : c ≠ []) (hb : Blk w q 64 #[.string ⟨c.toArray⟩, .int .i64 0, .slice none 0 0, .pointer none, .pointer none]) :
    Calls Tryd.prog 31 #[.pointer (some ⟨q, 0, none⟩)] w fun e w' => e = .returned (.bool false) ∧ w = w' := by
  have c0 := hb.cell 0
  have hlt := hb.lt
  simp only [List.getElem?_toArray, List.getElem?_cons_zero] at c0
  cases c with
  | nil => exact absurd rfl hc
  | cons x r =>
    go_enter Tryd.func31, Tryd.ntmps31
    go_wp2_with fail
    go_ret
    exact ⟨rfl, rfl⟩
theorem isList_list (q : Nat) (v1 v2 v3 v4 : Value) (w : World) (hb : Blk w q 64 #[.string ⟨#[]⟩, v1, v2, v3, v4]) :
    Calls Tryd.prog 31 #[.pointer (some ⟨q, 0, none⟩)] w fun e w' => e = .returned (.bool true) ∧ w = w' := by
  have c0 := hb.cell 0
  have hlt := hb.lt
  simp only [List.getElem?_toArray, List.getElem?_cons_zero] at c0
  go_enter Tryd.func31, Tryd.ntmps31
  go_wp2_with fail
  go_ret
  exact ⟨rfl, rfl⟩
set_option maxRecDepth 100000 in
set_option maxHeartbeats 1000000 in
theorem cloneB_any (m : Nat) (A : Option Addr) (c : Nat) (f : Nat → Value) (F : Nat → Prop) (w : World) (hA : Sl w F A m f) (h1 : ∀ j, j < m → (f j).oneCell' = true) (hm : m ≤ 1000000) :
    Calls Tryd.prog 40 #[.slice A m c] w fun e w' => ∃ A' c', e = .returned (.slice A' m c') ∧ w'.ownsRow w.heap.size 42 1 (.slice A' m c') m ((List.range m).map f) ∧ w.grownBy w' none := by
  cases A with
  | none =>
    have h0 : m = 0 := by
      rcases Nat.eq_zero_or_pos m with h | h
      · exact h
      · obtain ⟨g, o, e, _⟩ := hA h; cases e
    subst h0
    have hnil : ∀ W, (binOp .eql 62 (.slice none 0 c) (.slice none 0 0)).run Tryd.prog W = .ok (.bool true) W := fun W => Lib.run_eql_slice_nil W _ _ none 0 c 0 0 Tryd.underlying62
    go_enter Tryd.func40, Tryd.ntmps40
    go_wp2_with fail
    go_ret
    exact ⟨none, 0, rfl, ⟨rfl, .inl ⟨rfl, rfl⟩⟩, gr_refl _ _⟩
  | some a =>
    have hnil : ∀ W, (binOp .eql 62 (.slice (some a) m c) (.slice none 0 0)).run Tryd.prog W = .ok (.bool false) W := fun W => Lib.run_eql_slice_nil W _ _ (some a) m c 0 0 Tryd.underlying62
    have hge := World.grownBy_alloc w (.cells #[] 42) none
    have hE := own_empty (w := w) (base := w.heap.size) 42 (Nat.le_refl _)
    have hA1 := hA.grown0 hge
    have hbs : w.heap.size ≤ (w.alloc (.cells #[] 42)).heap.size := hge.size
    go_enter Tryd.func40, Tryd.ntmps40
    go_wp2_with (at_builtin; refine wpList_app rfl _ _ 62 rfl w.heap.size 42 (.pointer none) 8 Tryd.underlying62 info_pbody rfl _ _ 0 _ rfl hE _ m c _ rfl F hA1 h1 (by unfold maxLen; omega) (by omega) hbs ?_; intro A2 c2 w2 hown2 hg2 hat2; have hg12 := gr_ownP hge hE (Nat.le_refl _) hg2; simp only [Nat.zero_add, List.nil_append] at hown2 ⊢)
    go_ret
    exact ⟨A2, c2, rfl, hown2, hg12⟩
theorem sl_two (w : World) (e : TypeId) (a b : Value) : Sl (w.alloc (.cells #[a, b] e)) Al (some ⟨w.heap.size, 0, none⟩) 2 (fun i => if i = 0 then a else b) := fun _ =>
  ⟨_, 0, rfl, trivial, fun i hi => by
    have h := (Blk.new w e #[a, b]).cell (0 + i)
    rw [h]
    match i, hi with
    | 0, _ => rfl
    | 1, _ => rfl⟩
theorem parts_leaf (q : Nat) (c : List UInt8) (w : World) (hc : c ≠ []) (hb : Blk w q 64 #[.string ⟨c.toArray⟩, .int .i64 0, .slice none 0 0, .pointer none, .pointer none]) :
    Calls Tryd.prog 33 #[.pointer (some ⟨q, 0, none⟩)] w fun e w' => e = .returned (.slice none 0 0) ∧ w = w' := by
  have hL := Lib.hid (isList_leaf q c w hc hb)
  go_enter Tryd.func33, Tryd.ntmps33
  go_wp2_with fail
  refine hL.out.mono ?_
  rintro e w' ⟨rfl, rfl⟩
  go_wp2_with fail
  go_ret
  exact ⟨rfl, rfl⟩
set_option maxRecDepth 100000 in
set_option maxHeartbeats 2000000 in
theorem parts_list (q m : Nat) (lv : Int) (A : Option Addr) (c : Nat) (f : Nat → Value) (p1 p2 : Nat) (F : Nat → Prop) (w : World) (hb : Blk w q 64 #[.string ⟨#[]⟩, .int .i64 lv, .slice A m c, .pointer (some ⟨p1, 0, none⟩), .pointer (some ⟨p2, 0, none⟩)])
    (hA : Sl w F A m f) (h1 : ∀ j, j < m → (f j).oneCell' = true) (hm : m ≤ 1000000) :
    Calls Tryd.prog 33 #[.pointer (some ⟨q, 0, none⟩)] w fun e w' => ∃ A' c', e = .returned (.slice A' (m + 2) c') ∧
      w'.ownsRow w.heap.size 42 1 (.slice A' (m + 2) c') (m + 2) ((List.range m).map f ++ [bptr p1, bptr p2]) ∧ w.grownBy w' none := by
  have hL := Lib.hid (isList_list q (.int .i64 lv) (.slice A m c) _ _ w hb)
  have c2 := hb.cell 2
  have c3 := hb.cell 3
  have c4 := hb.cell 4
  have hlt := hb.lt
  simp only [List.getElem?_toArray, List.getElem?_cons_zero, List.getElem?_cons_succ] at c2 c3 c4
  have hC := Lib.hid (fun W (hW : w.grownBy W none) => cloneB_any m A c f F W (hA.grown0 hW) h1 hm)
  have hkp := Lib.hid (fun (W : World) (hW : w.grownBy W none) => show W.cell? ⟨q, 2, none⟩ = some (.slice A m c) ∧ W.cell? ⟨q, 3, none⟩ = some (.pointer (some ⟨p1, 0, none⟩)) ∧ W.cell? ⟨q, 4, none⟩ = some (.pointer (some ⟨p2, 0, none⟩)) from ⟨(hb.grown0 hW).cell 2, (hb.grown0 hW).cell 3, (hb.grown0 hW).cell 4⟩)
  have hgd := gr_drew (gr_refl w none)
  have hsl2 := sl_two w 42 (.pointer (some ⟨p1, 0, none⟩)) (.pointer (some ⟨p2, 0, none⟩))
  have hga := World.grownBy_alloc w (.cells #[.pointer (some ⟨p1, 0, none⟩), .pointer (some ⟨p2, 0, none⟩)] 42) none
  have hgx := gr_drew hga
  have hone : ∀ j, j < 2 → ((fun i => if i = 0 then Value.pointer (some ⟨p1, 0, none⟩) else Value.pointer (some ⟨p2, 0, none⟩)) j).oneCell' = true := fun j hj => by
    match j, hj with
    | 0, _ => rfl
    | 1, _ => rfl
  clear hA h1 hb
  go_enter Tryd.func33, Tryd.ntmps33
  go_wp2_with fail
  refine hL.out.mono ?_
  rintro e w' ⟨rfl, rfl⟩
  clear hL
  go_wp2_with fail
  go_region_held3 (fun W => W.cell? ⟨q, 2, none⟩ = some (.slice A m c) ∧ W.cell? ⟨q, 3, none⟩ = some (.pointer (some ⟨p1, 0, none⟩)) ∧ W.cell? ⟨q, 4, none⟩ = some (.pointer (some ⟨p2, 0, none⟩)))
    (first | exact hkp.out _ hgn4 | exact hkp.out _ hgn5 | exact hkp.out _ (gr_alloc (gr_trans hgd hg3) _) | exact hkp.out _ (gr_trans hgd hg3) | exact hkp.out _ (gr_trans hgx hg2) | exact hkp.out _ hgx | exact hkp.out _ hga | exact hkp.out _ hgd | go_keep)
    (first
      | (rw [if_pos (by rfl)]; refine wp_app _ _ 62 rfl w.heap.size 42 (.pointer none) 8 Tryd.underlying62 info_pbody rfl A2 c2 m _ rfl hown3 (some ⟨w.heap.size, 0, none⟩) 2 2 _ rfl Al hsl3 hone (by unfold maxLen; omega) (by omega) hbs3 (m + 2) rfl ?_; intro A4 c4 w4 hown4 hg4 hat4; have hgn4 := gr_ownP (gr_trans hgx hg2) hown3 (Nat.le_refl _) hg4)
      | (rw [if_pos (by rfl)]; refine wp_app _ _ 62 rfl w.heap.size 42 (.pointer none) 8 Tryd.underlying62 info_pbody rfl A3 c3 m _ rfl hown4 (some ⟨w3.heap.size, 0, none⟩) 2 2 _ rfl Al hsl4 hone (by unfold maxLen; omega) (by omega) hbs4 (m + 2) rfl ?_; intro A5 c5 w5 hown5 hg5 hat5; have hgn5 := gr_ownP (gr_alloc (gr_trans hgd hg3) _) hown4 (Nat.le_refl _) hg5)
      | (go_at_call 40; refine (hC.out _ hgx).mono ?_; rintro e w2 ⟨A2, c2, rfl, hown2, hg2⟩; have hown3 := own_weak hown2 hgx.size; have hsl3 := hsl2.grown0 (gr_trans (gr_drew (gr_refl _ none)) hg2); have hbs3 := (gr_trans hgx hg2).size)
      | (go_at_call 40; refine (hC.out _ hgd).mono ?_; rintro e w3 ⟨A3, c3, rfl, hown3, hg3⟩; have hown4 := own_keep hown3 (World.grownBy_alloc w3 (.cells #[.pointer (some ⟨p1, 0, none⟩), .pointer (some ⟨p2, 0, none⟩)] 42) none); have hsl4 := sl_two w3 42 (.pointer (some ⟨p1, 0, none⟩)) (.pointer (some ⟨p2, 0, none⟩)); have hbs4 := (gr_alloc (gr_trans hgd hg3) (.cells #[.pointer (some ⟨p1, 0, none⟩), .pointer (some ⟨p2, 0, none⟩)] 42)).size))
  all_goals go_wp2_with fail
  all_goals go_ret
  all_goals (first | exact ⟨A4, c4, rfl, hown4, hgn4⟩ | exact ⟨A5, c5, rfl, hown5, hgn5⟩)
theorem parts_rows {w : World} {base m c : Nat} {A : Option Addr} {ps : Nat → Nat} (hown : w.ownsRow base 42 1 (.slice A (m + 2) c) (m + 2) ((List.range m).map (fun i => bptr (ps i)) ++ [bptr (ps m), bptr (ps (m + 1))])) : Sl w (Fr base) A (m + 2) (fun i => bptr (ps i)) := by
  obtain ⟨A', c', e, hs⟩ := own_form hown
  cases e
  intro h0
  obtain ⟨g, o, e, hg, hc⟩ := hs (Fr base) (fun g hg => own_base hown hg) h0
  refine ⟨g, o, e, hg, fun i hi => ?_⟩
  rw [hc i hi]
  by_cases h1 : i < m
  · simp [List.getD, h1, List.getElem?_append_left]
  · by_cases h2 : i = m
    · subst h2; simp [List.getD]
    · obtain rfl : i = m + 1 := by omega
      simp [List.getD]
set_option maxRecDepth 100000 in
set_option maxHeartbeats 2000000 in
theorem sizeB_any (m : Nat) : ∀ (b : Bo) (q : Nat) (F : Nat → Prop) (w : World), b.size ≤ m → b.size ≤ 1000000 → BodyP w F q b →
    Calls Tryd.prog 25 #[.pointer (some ⟨q, 0, none⟩)] w fun e w' => e = .returned (.int .i64 (b.size : Int)) ∧ w.grownBy w' none := by
  induction m with
  | zero => intro b q F w h; have := b.size_pos; omega
  | succ m ih =>
    intro b q F w hm hsz hk
    have ihh := Lib.hid ih
    clear ih
    cases hk with
    | leaf _ c hq hc hb =>
      have hP := Lib.hid (parts_leaf q c w hc hb)
      go_enter Tryd.func25, Tryd.ntmps25
      go_wp2_with fail
      refine hP.out.mono ?_
      rintro e w' ⟨rfl, rfl⟩
      go_wp2_with fail
      refine wp_loop_rounds 1 ?_
      rw [rounds_succ]
      go_wp2_with fail
      go_ret
      exact ⟨rfl, gr_refl _ _⟩
    | list _ _ mm A c ps hq hl hmm hb hA hs =>
      have hsp := Lib.hid (bsize_parts b)
      have hle := Lib.hid (bsum_take b.parts)
      have hpl : mm + 2 ≤ 1000000 := by have := hsp.out; have := bsum_len b.parts; omega
      have hpb : ∀ u ∈ b.parts, u.size + 1 ≤ b.size := by
        intro u hu
        obtain ⟨i, hi⟩ := List.getElem?_of_mem hu
        have h1 := bsum_next hi
        have h2 := hle.out (i + 1)
        have h3 := hsp.out
        omega
      have hpbh := Lib.hid hpb
      have hspb : bsum b.parts + 1 ≤ 1000000 := by have := hsp.out; omega
      have hP := Lib.hid (parts_list q mm b.level A c (fun i => .pointer (some ⟨ps i, 0, none⟩)) (ps mm) (ps (mm + 1)) F w hb hA (fun _ _ => rfl) (by omega))
      have hkh := Lib.hid (fun (W : World) (hW : w.grownBy W none) i u (hi : b.parts[i]? = some u) => (hs i u hi).grown0 hW)
      have hmmh := Lib.hid hmm
      clear hpb hs hA hb hmm
      go_enter Tryd.func25, Tryd.ntmps25
      go_wp2_with fail
      refine hP.out.mono ?_
      rintro e w1 ⟨A1, c1, rfl, hown1, hg1⟩
      have hS := parts_rows hown1
      clear hown1 hP
      go_wp2_with fail
      go_loopw [3, 9] (fun n i wr => ∃ k : Nat, k ≤ mm + 2 ∧ i = .int .i64 (k : Int) ∧ n = .int .i64 (1 + (bsum (b.parts.take k) : Int)) ∧ w1.grownBy wr none) (fun _ i _ => mm + 2 - (intOf i).toNat)
      case atStart => exact ⟨0, Nat.zero_le _, rfl, rfl, gr_refl _ _⟩
      case round =>
        obtain ⟨wi, hwi⟩ : ∃ wo, wo = wr := ⟨_, rfl⟩
        subst hwi
        obtain ⟨k, hkl, rfl, rfl, hgw⟩ := hrel
        have hl1 := hle.out k
        by_cases hlt : k < mm + 2
        · have hlt2 : k < b.parts.length := by rw [hmmh.out]; exact hlt
          have hkk : b.parts[k]? = some b.parts[k] := List.getElem?_eq_getElem hlt2
          have hch := hkh.out wi (gr_trans hg1 hgw) k _ hkk
          obtain ⟨g, o, rfl, _, hcc⟩ := (hS.grown0 hgw) (by omega)
          have q0 := hcc k hlt
          unfold bptr at q0
          have hmem := List.getElem_mem hlt2
          have hl2 := hle.out (k + 1)
          have hsn := Lib.hid (bsum_next hkk)
          rw [bsum_next hkk] at hl2
          have hps := hpbh.out _ hmem
          have hcl := Lib.hid (ihh.out b.parts[k] (ps k) F wi (by omega) (by omega) hch)
          clear hkk hmem hch hcc
          generalize b.parts[k] = u at *
          go_wp2_with fail
          refine hcl.out.mono ?_
          rintro e w' ⟨rfl, hg2⟩
          go_wp2_with fail
          go_roundw
          case rel => exact ⟨k + 1, by omega, by go_num, by rw [hsn.out]; go_num, gr_trans hgw hg2⟩
          case measure => simp [intOf]; omega
        · have hfull := Lib.hid (show (1 + (bsum (b.parts.take k) : Int)) = (b.size : Int) by rw [List.take_of_length_le (by rw [hmmh.out]; omega)]; have := hsp.out; omega)
          go_wp2_with fail
          go_ret
          exact ⟨by rw [← hfull.out]; rfl, gr_trans hg1 hgw⟩
end Go.Proofs.YtlehnlfgjadleaaDoor
