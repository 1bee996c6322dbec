/- The reference's reader of types; where the text is none, its tree is small. -/
import Derived.Test.YtlehnlfgjadleaaDoorType
namespace Go.Proofs.YtlehnlfgjadleaaDoor
open Go.RowKit

def TypeB (r : List UInt8) (w : World) (e : Ending) (w' : World) : Prop :=
  w.grownBy w' none ∧
    match Ty.read r with
    | none => ∃ t A c, t.atoms ≤ 1000 ∧ e = .returned (.tuple #[.agg #[.slice A (Ty.args t).length c], .bool false]) ∧ TreeV w' (Fr w.heap.size) (.slice A (Ty.args t).length c) t
    | some t => ∃ A c, e = .returned (.tuple #[.agg #[.slice A t.args.length c], .bool true]) ∧ TreeV w' (Fr w.heap.size) (.slice A t.args.length c) t
theorem TypeB.no {r : List UInt8} {w w' : World} (t : Ty) {A : Option Addr} {c : Nat} (hs : t.atoms ≤ 1000) (h : Ty.read r = none) (hg : w.grownBy w' none) (ht : TreeV w' (Fr w.heap.size) (.slice A (Ty.args t).length c) t) :
    TypeB r w (.returned (.tuple #[.agg #[.slice A (Ty.args t).length c], .bool false])) w' := ⟨hg, by rw [h]; exact ⟨t, A, c, hs, rfl, ht⟩⟩
theorem TypeB.yes {r : List UInt8} {w w' : World} {t : Ty} {A : Option Addr} {c : Nat} (h : Ty.read r = some t) (hg : w.grownBy w' none) (ht : TreeV w' (Fr w.heap.size) (.slice A t.args.length c) t) :
    TypeB r w (.returned (.tuple #[.agg #[.slice A t.args.length c], .bool true])) w' := ⟨hg, by rw [h]; exact ⟨A, c, rfl, ht⟩⟩
set_option maxHeartbeats 1000000 in
theorem l1TypeB_any (r : List UInt8) (w : World) (hr : r.length ≤ 1099511627776) :
    Calls Tryd.prog 12 #[.string ⟨r.toArray⟩] w (TypeB r w) := by
  have hg := World.grownBy_alloc w (.cells #[.slice none 0 0] 29) none
  have hb2 := Blk.new w 29 #[.slice none 0 0]
  by_cases h100 : r.length > 100
  · have hR := Lib.hid (show Ty.read r = none by
      cases h : Ty.read r with
      | none => rfl
      | some t => have := Ty.length_of_read h; omega)
    go_enter Tryd.func12, Tryd.ntmps12
    go_wp2_with fail
    exact bodyPost_ret (v := .tuple #[.agg #[.slice none 0 0], .bool false]) (by simp [results, Tryd.results12, go_sem]) rfl (TypeB.no .b (by decide) hR.out hg treeV_b)
  · have c1 := l1Read_any 21 r 0 0 (w.alloc (.cells #[.slice none 0 0] 29)) hr (by omega) (by omega) (by omega)
    have hRF := read_F r
    go_enter Tryd.func12, Tryd.ntmps12
    go_wp2_with fail
    refine c1.mono ?_
    rintro e w1 ⟨hg1, hm⟩
    clear c1
    rw [List.drop_zero] at hm
    have hb21 := hb2.grown0 hg1
    have hc2 := hb21.cell 0
    have hf2 := hb21.free 0
    simp only [List.getElem?_toArray, List.getElem?_cons_zero] at hc2
    have hlt2 := hb21.lt
    have hg01 := gr_trans hg hg1
    cases hp : Ty.parseF 21 r with
    | none =>
      rw [hp] at hm hRF
      subst hm
      have hRh := Lib.hid hRF
      clear hp hRF
      have hne : (((-1 : Int)) == (r.length : Int)) = false := by rw [beq_eq_false_iff_ne]; omega
      go_wp2_with fail
      go_region_with (fail)
      all_goals go_wp2_with fail
      all_goals exact bodyPost_ret (v := .tuple #[.agg #[.slice none 0 0], .bool false]) (by simp [results, Tryd.results12, go_sem, Act.put, hc2, hlt2]) rfl (TypeB.no .b (by decide) hRh.out (gr_drew (gr_alloc (gr_set hg01 (.inr (Nat.le_refl _)) _) _)) treeV_b)
    | some v =>
      obtain ⟨t, r2⟩ := v
      rw [hp] at hm hRF
      obtain ⟨A, c, j, hj, hij, rfl, rfl, ht⟩ := hm
      have hb4 := Blk.new w1 29 #[.slice A t.args.length c]
      have ht4 := ht.fr (lo := w.heap.size + 1) (by simp)
      have hW4 : w1.grownBy (w1.alloc (.cells #[.slice A t.args.length c] 29)).drew none := gr_drew (World.grownBy_alloc _ _ _)
      clear ht
      have hta2 : t.atoms ≤ 1000 := by
        have h1 := Ty.parse_sound _ _ _ _ (show Ty.parse 20 r = some (t, r.drop j) from hp)
        have h2 := Ty.length_text t
        have h3 := congrArg List.length h1
        rw [List.length_append] at h3
        omega
      by_cases hjl : j < r.length
      · have hne : ((j : Int) == (r.length : Int)) = false := by rw [beq_eq_false_iff_ne]; omega
        obtain ⟨x, l2, hx⟩ : ∃ x l2, r.drop j = x :: l2 := ⟨_, _, List.drop_eq_getElem_cons hjl⟩
        rw [hx] at hRF
        have hRh := Lib.hid hRF
        clear hp hRF hx
        have hset := gr_set (gr_refl w1 (some w.heap.size)) (p := ⟨w.heap.size, 0, none⟩) (.inl rfl) (.slice A t.args.length c)
        have hT := ((ht4.grown hset (by omega)).fr (lo := w.heap.size) (by omega)).grown0 (gr_drew (World.grownBy_alloc _ (.cells #[.slice A t.args.length c] 29) none))
        have hG := gr_drew (gr_alloc (gr_set hg01 (p := ⟨w.heap.size, 0, none⟩) (.inr (Nat.le_refl _)) (.slice A t.args.length c)) (.cells #[.slice A t.args.length c] 29))
        go_wp2_with fail
        go_region_with (fail)
        all_goals go_wp2_with fail
        all_goals refine bodyPost_ret (v := .tuple #[.agg #[.slice A t.args.length c], .bool false]) (by simp [results, Tryd.results12, go_sem, Act.put, hc2, hlt2]) rfl ?_
        all_goals exact TypeB.no t hta2 hRh.out hG hT
      · obtain rfl : j = r.length := by omega
        rw [show r.drop r.length = [] from List.drop_length] at hRF
        have hta : t.atoms ≤ 1099511627776 := by
          have h1 := Ty.parse_sound _ _ _ _ (show Ty.parse 20 r = some (t, r.drop r.length) from hp)
          have h2 := Ty.length_text t
          have h3 := congrArg List.length h1
          rw [List.length_append] at h3
          omega
        have hRh := Lib.hid hRF
        clear hp hRF
        have hT4 := ht4.grown0 hW4
        have hb2d : Blk (w1.alloc (.cells #[.slice A t.args.length c] 29)).drew w.heap.size 29 #[.slice none 0 0] := hb21.alloc _
        have hb4d : Blk (w1.alloc (.cells #[.slice A t.args.length c] 29)).drew w1.heap.size 29 #[.slice A t.args.length c] := hb4
        have hsw := hb21.lt
        have hgW : w.grownBy (w1.alloc (.cells #[.slice A t.args.length c] 29)).drew none := gr_trans hg01 hW4
        have fin : ∀ w2, (w1.alloc (.cells #[.slice A t.args.length c] 29)).drew.grownBy w2 none →
            w.grownBy (w2.setCell ⟨w.heap.size, 0, none⟩ (.slice A t.args.length c)) none ∧ TreeV (w2.setCell ⟨w.heap.size, 0, none⟩ (.slice A t.args.length c)) (Fr w.heap.size) (.slice A t.args.length c) t := fun w2 hgw =>
          ⟨gr_set (gr_trans hgW hgw) (.inr (Nat.le_refl _)) _, ((hT4.grown0 hgw).grown (gr_set (gr_refl w2 (some w.heap.size)) (p := ⟨w.heap.size, 0, none⟩) (.inl rfl) _) (by omega)).fr (by omega)⟩
        have finh := Lib.hid fin
        clear fin
        by_cases h15 : t.atoms ≤ 15
        · go_wp2_with fail
          go_region_with (go_at_call 13; refine (l1Size_any _ t A c _ _ (Nat.le_refl _) hta hT4).mono ?_; rintro e w2 ⟨rfl, hgw⟩; have b2 := hb2d.grown0 hgw; have b4 := hb4d.grown0 hgw; have hc2' := b2.cell 0; have hf2' := b2.free 0; have hc4' := b4.cell 0; simp only [List.getElem?_toArray, List.getElem?_cons_zero] at hc2' hc4'; have hl2' := b2.lt; have hl4' := b4.lt)
          all_goals go_wp2_with fail
          all_goals refine bodyPost_ret (v := .tuple #[.agg #[.slice A t.args.length c], .bool true]) (by simp [results, Tryd.results12, go_sem, Act.put, hc2'] <;> omega) rfl ?_
          all_goals exact TypeB.yes (hRh.out.trans (if_pos h15)) (finh.out _ hgw).1 (finh.out _ hgw).2
        · go_wp2_with fail
          go_region_with (go_at_call 13; refine (l1Size_any _ t A c _ _ (Nat.le_refl _) hta hT4).mono ?_; rintro e w2 ⟨rfl, hgw⟩; have b2 := hb2d.grown0 hgw; have b4 := hb4d.grown0 hgw; have hc2' := b2.cell 0; have hf2' := b2.free 0; have hc4' := b4.cell 0; simp only [List.getElem?_toArray, List.getElem?_cons_zero] at hc2' hc4'; have hl2' := b2.lt; have hl4' := b4.lt)
          all_goals go_wp2_with fail
          all_goals refine bodyPost_ret (v := .tuple #[.agg #[.slice A t.args.length c], .bool false]) (by simp [results, Tryd.results12, go_sem, Act.put, hc2'] <;> omega) rfl ?_
          all_goals exact TypeB.no t hta2 (hRh.out.trans (if_neg h15)) (finh.out _ hgw).1 (finh.out _ hgw).2
end Go.Proofs.YtlehnlfgjadleaaDoor
