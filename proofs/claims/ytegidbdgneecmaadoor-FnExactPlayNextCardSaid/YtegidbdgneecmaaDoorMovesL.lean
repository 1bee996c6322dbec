/- The reference's decimals, and its list of all moves. -/
import Derived.Test.YtegidbdgneecmaaDoorLists
import Derived.Test.YtegidbdgneecmaaDoorType
import Derived.Test.YtegidbdgneecmaaDoorPlays4
import Derived.Deep.RegionHeld3
namespace Go.Proofs.YtegidbdgneecmaaDoor
open Go.RowKit

theorem gr_chain {w w1 w2 : World} {x y : Option Nat} (h : w.grownBy w1 x) (hb : ∀ g, y = some g → some g = x ∨ w.heap.size ≤ g) (k : w1.grownBy w2 y) : w.grownBy w2 x :=
  ⟨k.os.trans h.os, k.tape.trans h.tape, k.output.trans h.output, Nat.le_trans h.size k.size, fun i hi hx => by
    rw [k.block i (Nat.lt_of_lt_of_le hi h.size) (fun e => by
      rcases hb i e.symm with h1 | h1
      · exact hx h1
      · omega)]
    exact h.block i hi hx⟩
theorem sl_lits (w : World) (e : TypeId) (ts : List (List UInt8)) : Sl (w.alloc (.cells (ts.map strv).toArray e)) Al (some ⟨w.heap.size, 0, none⟩) ts.length (sv ts) := fun _ => by
  refine ⟨w.heap.size, 0, rfl, trivial, fun i hi => ?_⟩
  rw [cell_of_row _ w.heap.size (0 + i) _ e (0, 0) (heap_alloc_new w _)]
  simp [hi, sv, List.getD]
theorem range_sv (L : List (List UInt8)) : (List.range L.length).map (sv L) = L.map strv := by
  refine List.ext_getElem (by simp) fun i h1 h2 => ?_
  simp only [List.length_map] at h2
  simp only [List.getElem_map, List.getElem_range]
  rw [sv_lt L h2]; rfl
theorem own_farT {w : World} {e e' : TypeId} {base n : Nat} {v : Value} {xs : List Value} (h : w.ownsRow base e 1 v n xs) {g : Nat} {cs : Array Value} (hb : Blk w g e' cs) (he : e ≠ e') : some g ≠ v.ownBlock := fun e1 => by
  obtain ⟨_, ⟨rfl, _⟩ | ⟨g', cap', cur, rfl, _, hb', _⟩⟩ := h
  · cases e1
  · cases e1
    unfold Blk at hb
    rw [hb] at hb'
    injection hb' with k2
    injection k2 with _ k3 _
    exact he k3.symm

set_option maxRecDepth 100000 in
set_option maxHeartbeats 400000 in
theorem l6Dec_lt (n : Nat) (h : n < 10) (w : World) : Calls Tryd.prog 50 #[.int .i64 (n : Int)] w fun e w' => e = .returned (.string ⟨[dgt n].toArray⟩) ∧ w.grownBy w' none := by
  have kc := conv1 w (48 + (n : Int)) (dgt n) (by rw [dgt_val h]; omega)
  have hn : (n : Int) < 10 := by omega
  go_enter Tryd.func50, Tryd.ntmps50
  go_wp2_with fail
  go_ret
  exact ⟨rfl, World.grownBy_alloc _ _ _⟩
set_option maxRecDepth 100000 in
set_option maxHeartbeats 4000000 in
theorem l1Moves_any (m : Nat) : ∀ (t : Ty) (A : Option Addr) (c : Nat) (F : Nat → Prop) (path : List UInt8) (xs : List (List UInt8)) (AL : Option Addr) (cl base : Nat) (w : World), t.atoms ≤ m → t.atoms ≤ 15 → path.length + t.atoms ≤ 100 → TreeV w F (.slice A t.args.length c) t →
    w.ownsRow base 9 1 (.slice AL xs.length cl) xs.length (xs.map strv) → base ≤ w.heap.size → xs.length + 1000 * t.atoms ≤ 1000000 → (∀ b, F b → some b ≠ (Value.slice AL xs.length cl).ownBlock) →
    Calls Tryd.prog 36 #[.agg #[.slice A t.args.length c], .string ⟨path.toArray⟩, .slice AL xs.length cl] w fun e w' => ∃ A' c', e = .returned (.slice A' (xs ++ movesT t path).length c') ∧ w'.ownsRow base 9 1 (.slice A' (xs ++ movesT t path).length c') (xs ++ movesT t path).length ((xs ++ movesT t path).map strv) ∧
      w.grownBy w' (Value.slice AL xs.length cl).ownBlock ∧ ∀ g, (Value.slice A' (xs ++ movesT t path).length c').ownBlock = some g → some g = (Value.slice AL xs.length cl).ownBlock ∨ w.heap.size ≤ g := by
  induction m with
  | zero => intro t A c F path xs AL cl base w h; have := t.atoms_pos; omega
  | succ m ih =>
    intro t A c F path xs AL cl base w hm h15 hpath hk hown hbase hxl hF
    have ihh := Lib.hid ih
    clear ih
    obtain ⟨A', cp, vs, e, hA, hs⟩ := hk.open_
    cases e
    have hsh := Lib.hid hs
    have hla := t.length_args
    have hFh := Lib.hid hF
    have hat := Lib.hid (fun u (h : u ∈ t.args) => Ty.atoms_of_args h)
    have hmt := Lib.hid (movesT_args t path)
    have hcnt := Lib.hid (fun u p => movesT_length u p)
    clear hs hF hk
    have e113 : (⟨#[113]⟩ : ByteArray) ++ ⟨path.toArray⟩ = ⟨(113 :: path).toArray⟩ := ba_app [113] path
    have e116 : (⟨#[116]⟩ : ByteArray) ++ ⟨path.toArray⟩ = ⟨(116 :: path).toArray⟩ := ba_app [116] path
    have e102 : (⟨#[102]⟩ : ByteArray) ++ ⟨path.toArray⟩ = ⟨(102 :: path).toArray⟩ := ba_app [102] path
    have hbx := Blk.new w 41 #[.slice A t.args.length c]
    have hg0 := World.grownBy_alloc w (.cells #[.slice A t.args.length c] 41) none
    have hg1 := gr_alloc hg0 (.cells #[.string ⟨(113 :: path).toArray⟩, .string ⟨(116 :: path).toArray⟩, .string ⟨(102 :: path).toArray⟩] 9)
    have hown1 := own_keep hown hg1
    have hsl1 : Sl ((w.alloc (.cells #[.slice A t.args.length c] 41)).alloc (.cells #[.string ⟨(113 :: path).toArray⟩, .string ⟨(116 :: path).toArray⟩, .string ⟨(102 :: path).toArray⟩] 9)) Al (some ⟨w.heap.size + 1, 0, none⟩) 3 (sv (hds path)) := by
      have h := sl_lits (w.alloc (.cells #[.slice A t.args.length c] 41)) 9 (hds path)
      rw [World.size_alloc] at h
      exact h
    have hbase1 : base ≤ ((w.alloc (.cells #[.slice A t.args.length c] 41)).alloc (.cells #[.string ⟨(113 :: path).toArray⟩, .string ⟨(116 :: path).toArray⟩, .string ⟨(102 :: path).toArray⟩] 9)).heap.size := by simp; omega
    have hbx1 := hbx.alloc (.cells #[.string ⟨(113 :: path).toArray⟩, .string ⟨(116 :: path).toArray⟩, .string ⟨(102 :: path).toArray⟩] 9)
    go_enter Tryd.func36, Tryd.ntmps36
    go_wp2_with (at_builtin; refine wpList_app rfl _ _ 22 rfl base 9 (.string ⟨#[]⟩) 16 Tryd.underlying22 info_str rfl _ _ _ _ rfl hown1 _ 3 3 _ rfl _ hsl1 (fun j hj => by simp [sv, strv, Value.oneCell']) (by unfold maxLen; omega) (by omega) hbase1 ?_; intro A1 cap1 w1 hown2 hg2 hat2)
    have hmapE : xs.map strv ++ (List.range 3).map (sv (hds path)) = (xs ++ hds path).map strv := by
      rw [List.map_append]
      congr 1
    rw [hmapE] at hown2
    have hg02 : w.grownBy w1 (Value.slice AL xs.length cl).ownBlock := gr_trans (gr_weak hg1 _) hg2
    have hblk2 : ∀ g, (Value.slice A1 (xs.length + 3) cap1).ownBlock = some g → some g = (Value.slice AL xs.length cl).ownBlock ∨ w.heap.size ≤ g := by
      intro g hg
      rcases hat2 with h1 | h1
      · rw [hg] at h1; exact .inl h1
      · rw [hg] at h1
        injection h1 with h1
        subst h1
        exact .inr (by simp; omega)
    have hbx2 := hbx1.grown hg2 (own_farT hown1 hbx1 (by decide))
    have e3 : (xs ++ hds path).length = xs.length + 3 := by simp [hds]
    clear hmapE hsl1 hbase1 hg1 hown1 hat2 hbx1 e113 e116 e102
    generalize hys : xs ++ hds path = ys at *
    rw [← e3] at hown2 hblk2 ⊢
    have hysh := Lib.hid hys
    clear e3 hys
    go_loopw [2, 7] (fun l i wr => ∃ (k : Nat) (A' : Option Addr) (c' : Nat), k ≤ t.args.length ∧ i = .int .i64 (k : Int) ∧ l = .slice A' (ys ++ movesR (t.args.take k) path 0).length c' ∧
      wr.ownsRow base 9 1 (.slice A' (ys ++ movesR (t.args.take k) path 0).length c') (ys ++ movesR (t.args.take k) path 0).length ((ys ++ movesR (t.args.take k) path 0).map strv) ∧ w.grownBy wr (Value.slice AL xs.length cl).ownBlock ∧
      (∀ g, (Value.slice A' (ys ++ movesR (t.args.take k) path 0).length c').ownBlock = some g → some g = (Value.slice AL xs.length cl).ownBlock ∨ w.heap.size ≤ g) ∧ Blk wr w.heap.size 41 #[.slice A t.args.length c] ∧ (ys ++ movesR (t.args.take k) path 0).length ≤ xs.length + 3 + 100 * k) (fun _ i _ => t.args.length - (intOf i).toNat)
    case atStart => exact ⟨0, A1, cap1, Nat.zero_le _, rfl, by simp [movesR], by simpa [movesR] using hown2, hg02, by simpa [movesR] using hblk2, hbx2, by simp [movesR]; have := congrArg List.length hysh.out; simp [hds] at this; omega⟩
    case round =>
      obtain ⟨k, A2, c2, hkl, rfl, rfl, hown3, hgw, hblk3, hbw, hlen⟩ := hrel
      have b0 := hbw.cell 0
      simp only [List.getElem?_toArray, List.getElem?_cons_zero] at b0
      have hblk3h := Lib.hid hblk3
      clear hblk3
      by_cases hlt : k < t.args.length
      · have hkk : t.args[k]? = some t.args[k] := List.getElem?_eq_getElem hlt
        have hkeep : ∀ b, F b → b < w.heap.size → wr.heap[b]? = w.heap[b]? := fun b hb hl => hgw.block b hl (hFh.out b hb)
        obtain ⟨g, o, rfl, hFg, hcell⟩ := hA (by omega)
        have hgl0 : g < w.heap.size := World.block_lt_of_cell? w ⟨g, o + k, none⟩ (hcell k hlt)
        have hck := (World.cell?_of_block (w := w) (a := ⟨g, o + k, none⟩) (hkeep g hFg hgl0)).trans (hcell k hlt)
        have hch0 := (hsh.out k _ hkk).mono (G := fun b => F b ∧ b < w.heap.size) (fun b h1 h2 => ⟨h1, h2⟩)
        have hch := hch0.keep (w' := wr) (fun b hb hl => hkeep b hb.1 hl)
        obtain ⟨A3, c3, vs3, e3, _, _⟩ := hch.open_
        rw [e3] at hck hch
        have hba := hat.out t.args[k] (List.getElem_mem hlt)
        have hal3 := t.args[k].length_args
        have hk10 : k < 10 := by omega
        have hF' := Lib.hid (fun b (hb : F b ∧ b < w.heap.size) => show some b ≠ (Value.slice A2 (ys ++ movesR (t.args.take k) path 0).length c2).ownBlock from fun e1 => by
          rcases hblk3h.out b e1.symm with h1 | h1
          · exact hFh.out b hb.1 h1
          · omega)
        have hsn := Lib.hid (Ty.take_snoc hkk)
        have hstep := Lib.hid (show ys ++ movesR (t.args.take (k + 1)) path 0 = (ys ++ movesR (t.args.take k) path 0) ++ movesT t.args[k] (path ++ [dgt k]) by
          rw [hsn.out, movesR_snoc, List.append_assoc, List.length_take, Nat.min_eq_left (by omega), Nat.zero_add])
        have hcn := hcnt.out t.args[k] (path ++ [dgt k])
        have hca := count_atoms t.args[k]
        have eP : (⟨path.toArray⟩ : ByteArray) ++ ⟨#[dgt k]⟩ = ⟨(path ++ [dgt k]).toArray⟩ := ba_app path [dgt k]
        have hD := Lib.hid (l6Dec_lt k hk10 wr.drew)
        have hgd : wr.grownBy wr.drew none := gr_drew (gr_refl _ _)
        have hk0 : 0 ≤ (k : Int) := by omega
        have hbsz : base ≤ wr.heap.size := Nat.le_trans hbase hgw.size
        have hlo : o + k = o + k := rfl
        have hgL : g < wr.heap.size := World.block_lt_of_cell? wr ⟨g, o + k, none⟩ hck
        have hpl : ¬ 9223372036854775807 < path.length + 1 := by omega
        have hbsh := Lib.hid hblk3h.out
        clear hcell hkk e3 hlo
        generalize hzz : ys ++ movesR (t.args.take k) path 0 = zs at *
        clear hzz
        have hC := Lib.hid (fun (W : World) (hW : wr.grownBy W none) => ihh.out t.args[k] A3 c3 _ (path ++ [dgt k]) zs A2 c2 base W (by omega) (by omega) (by rw [List.length_append, List.length_singleton]; omega) (hch.grown0 hW) (own_keep hown3 hW) (Nat.le_trans hbsz hW.size) (by omega) hF'.out)
        go_wp2_with fail
        go_region_held3 (fun w' => w'.cell? ⟨w.heap.size, 0, none⟩ = some (.slice (some ⟨g, o, none⟩) t.args.length c) ∧ w'.cell? ⟨g, o + k, none⟩ = some (.slice A3 t.args[k].args.length c3))
          (go_keep)
          (first
            | (go_at_call 50; refine hD.out.mono ?_; rintro e w4 ⟨rfl, hg4⟩; have hg34 := gr_trans hgd hg4; have s0 := (hbw.grown0 hg34).cell 0; have s1 := (World.cell?_of_block (w := wr) (a := ⟨g, o + k, none⟩) (hg34.block g (World.block_lt_of_cell? wr ⟨g, o + k, none⟩ hck) (by simp))).trans hck; simp only [List.getElem?_toArray, List.getElem?_cons_zero] at s0)
            | (go_at_call 36; refine (hC.out _ hg34).mono ?_; rintro e w5 ⟨A5, c5, rfl, hown5, hg5, hbl5⟩; have s2 := ((hbw.grown0 hg34).grown hg5 (own_farT (own_keep hown3 hg34) (hbw.grown0 hg34) (by decide))).cell 0; have s3 := (World.cell?_of_block (w := wr) (a := ⟨g, o + k, none⟩) ((hg5.block g (Nat.lt_of_lt_of_le hgL hg34.size) (hF'.out g ⟨hFg, hgl0⟩)).trans (hg34.block g hgL (by simp)))).trans hck; simp only [List.getElem?_toArray, List.getElem?_cons_zero] at s2))
        go_wp2_with fail
        go_roundw
        case rel =>
          have hl5 : (zs ++ movesT t.args[k] (path ++ [dgt k])).length = zs.length + 3 * List.count 98 t.args[k].text := by rw [List.length_append, hcn]
          refine ⟨k + 1, A5, c5, by omega, by simp, ?_⟩
          rw [hstep.out]
          refine ⟨by rw [hl5], hown5, ?_, ?_, ?_, ?_⟩
          · exact gr_chain hgw hbsh.out (gr_trans (gr_weak hg34 _) hg5)
          · intro b hb
            rcases hbl5 b hb with h1 | h1
            · exact hbsh.out b h1.symm
            · exact .inr (Nat.le_trans hgw.size (Nat.le_trans hg34.size h1))
          · exact (hbw.grown0 hg34).grown hg5 (own_farT (own_keep hown3 hg34) (hbw.grown0 hg34) (by decide))
          · rw [hl5]; omega
        case measure => simp [intOf]; omega
      · obtain rfl : k = t.args.length := by omega
        rw [List.take_length] at hown3 hlen hblk3h ⊢
        have hEnd := Lib.hid (show ys ++ movesR t.args path 0 = xs ++ movesT t path by rw [hmt.out, ← hysh.out, List.append_assoc])
        go_wp2_with fail
        go_ret
        rw [← hEnd.out]
        exact ⟨A2, c2, rfl, hown3, hgw, hblk3h.out⟩
end Go.Proofs.YtegidbdgneecmaaDoor
