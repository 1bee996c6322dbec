/- The reference: sizes, orders, whole types. -/
import Derived.Test.YtlehnlfgjadleaaDoorRead2
import Derived.Deep.RegionWith
namespace Go.Proofs.YtlehnlfgjadleaaDoor
open Go.RowKit

theorem l1Read_any (f : Nat) : ReadIH f := by
  induction f with
  | zero =>
    intro l i d w hl hi hd _
    exact l1Read_no 0 l i d w hl hi (.inl (by omega)) rfl
  | succ f ih =>
    intro l i d w hl hi hd hf
    by_cases hil : l.length ≤ i
    · refine l1Read_no _ l i d w hl hi (.inr hil) ?_
      rw [List.drop_eq_nil_of_le hil]
      exact parse_no rfl rfl
    · cases hb : pre [98] (l.drop i) with
      | true => exact l1Read_b f l i d w hl (by omega) (by omega) hb
      | false =>
        by_cases hl3 : l.length < i + 3
        · exact l1Read_short f l i d w hl (by omega) (by omega) hb hl3
        · cases hp : pre [40, 62, 32] (l.drop i) with
          | false => exact l1Read_else f l i d w hl (by omega) (by omega) hb hl3 hp
          | true => exact l1Read_list f ih l i d w hl (by omega) (by omega) (by omega) hb hl3 hp

set_option maxHeartbeats 1000000 in
theorem l1Size_any (m : Nat) : ∀ (t : Ty) (A : Option Addr) (c : Nat) (F : Nat → Prop) (w : World), t.atoms ≤ m → t.atoms ≤ 1099511627776 → TreeV w F (.slice A t.args.length c) t →
    Calls Tryd.prog 13 #[.agg #[.slice A t.args.length c]] w fun e w' => e = .returned (.int .i64 (t.atoms : Int)) ∧ w.grownBy w' none := by
  induction m with
  | zero => intro t A c F w h; have := t.atoms_pos; omega
  | succ m ih =>
    intro t A c F w hm hb hk
    have ihh := Lib.hid ih
    clear ih
    obtain ⟨A', cp, vs, e, hA, hs⟩ := hk.open_
    cases e
    have hsh := Lib.hid hs
    clear hs
    have hat := Lib.hid t.atoms_args
    have hla := t.length_args
    have hla2 : t.args.length ≤ 1099511627776 := by omega
    have hle := Lib.hid (Ty.sumA_take_le t.args)
    have hg0 := World.grownBy_alloc w (.cells #[.slice A t.args.length c] 29) none
    have hbx := Blk.new w 29 #[.slice A t.args.length c]
    go_enter Tryd.func13, Tryd.ntmps13
    go_wp2_with fail
    go_loopw [3, 4] (fun n i wr => ∃ k : Nat, k ≤ t.args.length ∧ i = .int .i64 (k : Int) ∧ n = .int .i64 (1 + (Ty.sumA (t.args.take k) : Int)) ∧ (w.alloc (.cells #[.slice A t.args.length c] 29)).grownBy wr none) (fun _ i _ => t.args.length - (intOf i).toNat)
    case atStart => exact ⟨0, Nat.zero_le _, rfl, rfl, gr_refl _ _⟩
    case round =>
      obtain ⟨k, hkl, rfl, rfl, hgw⟩ := hrel
      have hl1 := hle.out k
      have hbw := hbx.grown0 hgw
      have hcw := hbw.cell 0
      simp only [List.getElem?_toArray, List.getElem?_cons_zero] at hcw
      by_cases hlt : k < t.args.length
      · obtain ⟨g, o, rfl, _, hcell⟩ := (hA.grown0 (gr_trans hg0 hgw)) (by omega)
        have hck := hcell k hlt
        have hkk : t.args[k]? = some t.args[k] := List.getElem?_eq_getElem hlt
        have hch := (hsh.out k _ hkk).grown0 (gr_trans hg0 hgw)
        obtain ⟨A2, c2, vs2, e2, hA2, hs2⟩ := hch.open_
        rw [e2] at hck hch
        clear hs2 hA2
        have hl2 := hle.out (k + 1)
        have hsn := Ty.take_snoc hkk
        rw [hsn, Ty.sumA_snoc] at hl2
        have hsnh := Lib.hid hsn
        clear hkk hcell hsn e2
        have hb2 := hat.out
        rw [hb2] at hm hb
        clear hb2
        go_wp2_with fail
        refine (ihh.out t.args[k] A2 c2 F _ (by omega) (by omega) hch).mono ?_
        rintro e w' ⟨rfl, hg2⟩
        go_wp2_with fail
        go_roundw
        case rel => exact ⟨k + 1, by omega, by go_num, by rw [hsnh.out, Ty.sumA_snoc]; go_num, gr_trans hgw hg2⟩
        case measure => simp [intOf]; omega
      · go_wp2_with fail
        go_ret
        refine ⟨ret_int ?_, gr_trans hg0 hgw⟩
        rw [hat.out, List.take_of_length_le (by omega)]
        go_num

/-- What the reference's l1Type leaves. -/
def TypePost (r : List UInt8) (w : World) (e : Ending) (w' : World) : Prop :=
  w.grownBy w' none ∧
    match Ty.read r with
    | none => ∃ t A c, e = .returned (.tuple #[.agg #[.slice A (Ty.args t).length c], .bool false]) ∧ TreeV w' (Fr w.heap.size) (.slice A (Ty.args t).length c) t
    | some t => ∃ A c, e = .returned (.tuple #[.agg #[.slice A t.args.length c], .bool true]) ∧ TreeV w' (Fr w.heap.size) (.slice A t.args.length c) t

theorem TypePost.no {r : List UInt8} {w w' : World} (t : Ty) {A : Option Addr} {c : Nat} (h : Ty.read r = none) (hg : w.grownBy w' none) (ht : TreeV w' (Fr w.heap.size) (.slice A (Ty.args t).length c) t) :
    TypePost r w (.returned (.tuple #[.agg #[.slice A (Ty.args t).length c], .bool false])) w' := ⟨hg, by rw [h]; exact ⟨t, A, c, rfl, ht⟩⟩
theorem TypePost.yes {r : List UInt8} {w w' : World} {t : Ty} {A : Option Addr} {c : Nat} (h : Ty.read r = some t) (hg : w.grownBy w' none) (ht : TreeV w' (Fr w.heap.size) (.slice A t.args.length c) t) :
    TypePost r w (.returned (.tuple #[.agg #[.slice A t.args.length c], .bool true])) w' := ⟨hg, by rw [h]; exact ⟨A, c, rfl, ht⟩⟩

theorem read_F (r : List UInt8) : Ty.read r = match Ty.parseF 21 r with | some (t, []) => if t.atoms ≤ 15 then some t else none | _ => none := Ty.read_of_parse (n := 20) (by omega)

set_option maxHeartbeats 1000000 in
theorem l1Type_any (r : List UInt8) (w : World) (hr : r.length ≤ 1099511627776) :
    Calls Tryd.prog 12 #[.string ⟨r.toArray⟩] w (TypePost r w) := by
  have hg := World.grownBy_alloc w (.cells #[.slice none 0 0] 29) none
  have hb2 := Blk.new w 29 #[.slice none 0 0]
  by_cases h100 : r.length > 100
  · have hR := Lib.hid (show Ty.read r = none by
      cases h : Ty.read r with
      | none => rfl
      | some t => have := Ty.length_of_read h; omega)
    go_enter Tryd.func12, Tryd.ntmps12
    go_wp2_with fail
    exact bodyPost_ret (v := .tuple #[.agg #[.slice none 0 0], .bool false]) (by simp [results, Tryd.results12, go_sem]) rfl (TypePost.no .b hR.out hg treeV_b)
  · have c1 := l1Read_any 21 r 0 0 (w.alloc (.cells #[.slice none 0 0] 29)) hr (by omega) (by omega) (by omega)
    have hRF := read_F r
    go_enter Tryd.func12, Tryd.ntmps12
    go_wp2_with fail
    refine c1.mono ?_
    rintro e w1 ⟨hg1, hm⟩
    clear c1
    rw [List.drop_zero] at hm
    have hb21 := hb2.grown0 hg1
    have hc2 := hb21.cell 0
    have hf2 := hb21.free 0
    simp only [List.getElem?_toArray, List.getElem?_cons_zero] at hc2
    have hlt2 := hb21.lt
    have hg01 := gr_trans hg hg1
    cases hp : Ty.parseF 21 r with
    | none =>
      rw [hp] at hm hRF
      subst hm
      have hRh := Lib.hid hRF
      clear hp hRF
      have hne : (((-1 : Int)) == (r.length : Int)) = false := by rw [beq_eq_false_iff_ne]; omega
      go_wp2_with fail
      go_region_with (fail)
      all_goals go_wp2_with fail
      all_goals exact bodyPost_ret (v := .tuple #[.agg #[.slice none 0 0], .bool false]) (by simp [results, Tryd.results12, go_sem, Act.put, hc2, hlt2]) rfl (TypePost.no .b hRh.out (gr_drew (gr_alloc (gr_set hg01 (.inr (Nat.le_refl _)) _) _)) treeV_b)
    | some v =>
      obtain ⟨t, r2⟩ := v
      rw [hp] at hm hRF
      obtain ⟨A, c, j, hj, hij, rfl, rfl, ht⟩ := hm
      have hb4 := Blk.new w1 29 #[.slice A t.args.length c]
      have ht4 := ht.fr (lo := w.heap.size + 1) (by simp)
      have hW4 : w1.grownBy (w1.alloc (.cells #[.slice A t.args.length c] 29)).drew none := gr_drew (World.grownBy_alloc _ _ _)
      clear ht
      by_cases hjl : j < r.length
      · have hne : ((j : Int) == (r.length : Int)) = false := by rw [beq_eq_false_iff_ne]; omega
        obtain ⟨x, l2, hx⟩ : ∃ x l2, r.drop j = x :: l2 := ⟨_, _, List.drop_eq_getElem_cons hjl⟩
        rw [hx] at hRF
        have hRh := Lib.hid hRF
        clear hp hRF hx
        have hset := gr_set (gr_refl w1 (some w.heap.size)) (p := ⟨w.heap.size, 0, none⟩) (.inl rfl) (.slice A t.args.length c)
        have hT := ((ht4.grown hset (by omega)).fr (lo := w.heap.size) (by omega)).grown0 (gr_drew (World.grownBy_alloc _ (.cells #[.slice A t.args.length c] 29) none))
        have hG := gr_drew (gr_alloc (gr_set hg01 (p := ⟨w.heap.size, 0, none⟩) (.inr (Nat.le_refl _)) (.slice A t.args.length c)) (.cells #[.slice A t.args.length c] 29))
        go_wp2_with fail
        go_region_with (fail)
        all_goals go_wp2_with fail
        all_goals refine bodyPost_ret (v := .tuple #[.agg #[.slice A t.args.length c], .bool false]) (by simp [results, Tryd.results12, go_sem, Act.put, hc2, hlt2]) rfl ?_
        all_goals exact TypePost.no t hRh.out hG hT
      · obtain rfl : j = r.length := by omega
        rw [show r.drop r.length = [] from List.drop_length] at hRF
        have hta : t.atoms ≤ 1099511627776 := by
          have h1 := Ty.parse_sound _ _ _ _ (show Ty.parse 20 r = some (t, r.drop r.length) from hp)
          have h2 := Ty.length_text t
          have h3 := congrArg List.length h1
          rw [List.length_append] at h3
          omega
        have hRh := Lib.hid hRF
        clear hp hRF
        have hT4 := ht4.grown0 hW4
        have hb2d : Blk (w1.alloc (.cells #[.slice A t.args.length c] 29)).drew w.heap.size 29 #[.slice none 0 0] := hb21.alloc _
        have hb4d : Blk (w1.alloc (.cells #[.slice A t.args.length c] 29)).drew w1.heap.size 29 #[.slice A t.args.length c] := hb4
        have hsw := hb21.lt
        have hgW : w.grownBy (w1.alloc (.cells #[.slice A t.args.length c] 29)).drew none := gr_trans hg01 hW4
        have fin : ∀ w2, (w1.alloc (.cells #[.slice A t.args.length c] 29)).drew.grownBy w2 none →
            w.grownBy (w2.setCell ⟨w.heap.size, 0, none⟩ (.slice A t.args.length c)) none ∧ TreeV (w2.setCell ⟨w.heap.size, 0, none⟩ (.slice A t.args.length c)) (Fr w.heap.size) (.slice A t.args.length c) t := fun w2 hgw =>
          ⟨gr_set (gr_trans hgW hgw) (.inr (Nat.le_refl _)) _, ((hT4.grown0 hgw).grown (gr_set (gr_refl w2 (some w.heap.size)) (p := ⟨w.heap.size, 0, none⟩) (.inl rfl) _) (by omega)).fr (by omega)⟩
        have finh := Lib.hid fin
        clear fin
        by_cases h15 : t.atoms ≤ 15
        · go_wp2_with fail
          go_region_with (go_at_call 13; refine (l1Size_any _ t A c _ _ (Nat.le_refl _) hta hT4).mono ?_; rintro e w2 ⟨rfl, hgw⟩; have b2 := hb2d.grown0 hgw; have b4 := hb4d.grown0 hgw; have hc2' := b2.cell 0; have hf2' := b2.free 0; have hc4' := b4.cell 0; simp only [List.getElem?_toArray, List.getElem?_cons_zero] at hc2' hc4'; have hl2' := b2.lt; have hl4' := b4.lt)
          all_goals go_wp2_with fail
          all_goals refine bodyPost_ret (v := .tuple #[.agg #[.slice A t.args.length c], .bool true]) (by simp [results, Tryd.results12, go_sem, Act.put, hc2'] <;> omega) rfl ?_
          all_goals exact TypePost.yes (hRh.out.trans (if_pos h15)) (finh.out _ hgw).1 (finh.out _ hgw).2
        · go_wp2_with fail
          go_region_with (go_at_call 13; refine (l1Size_any _ t A c _ _ (Nat.le_refl _) hta hT4).mono ?_; rintro e w2 ⟨rfl, hgw⟩; have b2 := hb2d.grown0 hgw; have b4 := hb4d.grown0 hgw; have hc2' := b2.cell 0; have hf2' := b2.free 0; have hc4' := b4.cell 0; simp only [List.getElem?_toArray, List.getElem?_cons_zero] at hc2' hc4'; have hl2' := b2.lt; have hl4' := b4.lt)
          all_goals go_wp2_with fail
          all_goals refine bodyPost_ret (v := .tuple #[.agg #[.slice A t.args.length c], .bool false]) (by simp [results, Tryd.results12, go_sem, Act.put, hc2'] <;> omega) rfl ?_
          all_goals exact TypePost.no t (hRh.out.trans (if_neg h15)) (finh.out _ hgw).1 (finh.out _ hgw).2

end Go.Proofs.YtlehnlfgjadleaaDoor
