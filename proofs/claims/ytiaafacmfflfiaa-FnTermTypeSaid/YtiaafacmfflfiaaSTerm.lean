/- The reference's reader of terms, whole; TermSize. -/
import Derived.Test.YtiaafacmfflfiaaSIs
namespace Go.Proofs.Ytiaafacmfflfiaa
open Go.RowKit

/-- What the reference's reader of terms gives. -/
def STPost (l : List UInt8) (w : World) (e : Ending) (w' : World) : Prop :=
  w.grownBy w' none ∧ match readX l with
    | none => ∃ a A n c, e = .returned (.tuple #[.agg #[.string a, .slice A n c], .bool false])
    | some x => ∃ A c, e = .returned (.tuple #[.agg #[.string ⟨x.atom.toArray⟩, .slice A x.parts.length c], .bool true]) ∧ SxV w' (Fr w.heap.size) A c x ∧ x.ok ∧ x.dep ≤ 101 ∧ x.size ≤ 60
theorem STPost.no {l : List UInt8} {w w' : World} {a : ByteArray} {A : Option Addr} {n c : Nat} (h : readX l = none) (hg : w.grownBy w' none) : STPost l w (.returned (.tuple #[.agg #[.string a, .slice A n c], .bool false])) w' :=
  ⟨hg, by rw [h]; exact ⟨_, _, _, _, rfl⟩⟩
theorem STPost.yes {l : List UInt8} {w w' : World} {x : Sx} {A : Option Addr} {c : Nat} (h : readX l = some x) (hg : w.grownBy w' none) (hx : SxV w' (Fr w.heap.size) A c x) (ho : x.ok) (hd : x.dep ≤ 101) (hs : x.size ≤ 60) :
    STPost l w (.returned (.tuple #[.agg #[.string ⟨x.atom.toArray⟩, .slice A x.parts.length c], .bool true])) w' := ⟨hg, by rw [h]; exact ⟨A, c, rfl, hx, ho, hd, hs⟩⟩
set_option maxRecDepth 100000 in
set_option maxHeartbeats 8000000 in
theorem l5Term_any (l : List UInt8) (w : World) (hl : l.length ≤ 4000000000) : Calls Try.prog 17 #[.string ⟨l.toArray⟩] w (STPost l w) := by
  have hg0 := World.grownBy_alloc w (.cells #[.string ⟨#[]⟩, .slice none 0 0] 37) none
  by_cases h1000 : l.length ≤ 1000
  · have hR := Lib.hid (fun W => l5Read_any 101 l 0 0 W (by omega) (by omega) (by omega) (Nat.le_refl _))
    have e0 : ((0 : Nat) : Int) = 0 := rfl
    rw [e0] at hR
    have hle : ¬ (1000 : Int) < (l.length : Int) := by omega
    have hbx := Blk.new w 37 #[.string ⟨#[]⟩, .slice none 0 0]
    have h1h := Lib.hid h1000
    clear e0 h1000
    go_enter Try.func17, Try.ntmps17
    go_wp2_with fail
    refine (hR.out _).mono ?_
    rintro e w1 ⟨hg1, hm⟩
    have hb1 := hbx.grown0 hg1
    have r0 := hb1.cell 0
    have r1 := hb1.cell 1
    have rf0 := hb1.free 0
    have rf1 := hb1.free 1
    have rlt := hb1.lt
    simp only [List.getElem?_toArray, List.getElem?_cons_zero, List.getElem?_cons_succ] at r0 r1
    have hg01 := gr_trans hg0 hg1
    rw [List.drop_zero] at hm
    cases hr : sread 101 l with
    | none =>
      rw [hr] at hm
      obtain ⟨a, A, n, c, rfl⟩ := hm
      have hN := Lib.hid (show readX l = none by unfold readX; rw [if_pos h1h.out, hr])
      have hlI : ((-1 : Int) == (l.length : Int)) = false := by rw [beq_eq_false_iff_ne]; omega
      have hG := gr_drew (gr_alloc (gr_set (gr_set hg01 (p := ⟨w.heap.size, 0, none⟩) (.inr (Nat.le_refl _)) (.string a)) (p := ⟨w.heap.size, 1, none⟩) (.inr (Nat.le_refl _)) (.slice A n c)) (.cells #[.string a, .slice A n c] 37))
      clear hr
      go_wp2_with fail
      go_region_with (fail)
      all_goals go_wp2_with fail
      all_goals refine bodyPost_ret (v := .tuple #[.agg #[.string a, .slice A n c], .bool false]) (by simp [results, Try.results17, go_sem, Act.put, r0, r1, rlt]) rfl (STPost.no hN.out hG)
    | some v =>
      obtain ⟨x, r⟩ := v
      rw [hr] at hm
      obtain ⟨A, c, j, hjl, _, rfl, rfl, hx⟩ := hm
      have hgA := World.grownBy_alloc w1 (.cells #[.string ⟨x.atom.toArray⟩, .slice A x.parts.length c] 37) none
      have hbt := Blk.new w1 37 #[.string ⟨x.atom.toArray⟩, .slice A x.parts.length c]
      by_cases hj : j = l.length
      · subst hj
        obtain ⟨hlt, hok, hdp⟩ := sread_sound _ _ _ _ hr
        have hX := Lib.hid (show readX l = if isTf 101 x && decide (x.size ≤ 60) then some x else none by
          unfold readX
          rw [if_pos h1h.out, hr, List.drop_length])
        have htl : x.text.length ≤ 1000 := by
          have := congrArg List.length hlt
          have := h1h.out
          simp only [List.length_append, List.drop_length, List.length_nil] at *
          omega
        have hxs : x.size ≤ 1001 := by
          rw [size_count x hok]
          have h1 := List.count_le_length (a := (32 : UInt8)) (l := x.body)
          have h2 : x.body.length ≤ x.text.length := by
            unfold Sx.text Sx.wrap
            split <;> simp <;> omega
          omega
        have hx0 := (hx.fr (lo := w.heap.size + 1) (by simp))
        have hxA := hx0.grown0 hgA
        have hIs := Lib.hid (fun W (hW : SxV W _ A c x) => l5Is_any 101 x A c (Fr (w.heap.size + 1)) W hdp (by omega) hok (by omega) hW)
        have hSz := Lib.hid (fun W (hW : SxV W _ A c x) => l5Size_any 101 x A c (Fr (w.heap.size + 1)) W hdp hok (by omega) hW)
        have fin : ∀ w2, (w1.alloc (.cells #[.string ⟨x.atom.toArray⟩, .slice A x.parts.length c] 37)).grownBy w2 none →
            w.grownBy ((w2.setCell ⟨w.heap.size, 0, none⟩ (.string ⟨x.atom.toArray⟩)).setCell ⟨w.heap.size, 1, none⟩ (.slice A x.parts.length c)) none ∧ SxV ((w2.setCell ⟨w.heap.size, 0, none⟩ (.string ⟨x.atom.toArray⟩)).setCell ⟨w.heap.size, 1, none⟩ (.slice A x.parts.length c)) (Fr w.heap.size) A c x := fun w2 hgw =>
          ⟨gr_set (gr_set (gr_trans hg01 (gr_trans hgA hgw)) (.inr (Nat.le_refl _)) _) (.inr (Nat.le_refl _)) _,
           ((((hxA.grown0 hgw).keep (fun b hb _ => ((gr_set (gr_refl w2 (some w.heap.size)) (p := ⟨w.heap.size, 0, none⟩) (.inl rfl) (.string ⟨x.atom.toArray⟩)).block b (by omega) (by intro h; cases h; simp only [Fr] at hb; omega)))).keep (fun b hb _ => ((gr_set (gr_refl (w2.setCell ⟨w.heap.size, 0, none⟩ (.string ⟨x.atom.toArray⟩)) (some w.heap.size)) (p := ⟨w.heap.size, 1, none⟩) (.inl rfl) (.slice A x.parts.length c)).block b (by omega) (by intro h; cases h; simp only [Fr] at hb; omega)))).fr (by omega))⟩
        have finh := Lib.hid fin
        have hdph := Lib.hid (show x.ok ∧ x.dep ≤ 101 from ⟨hok, hdp⟩)
        have hbd : ∀ W, (w1.alloc (.cells #[.string ⟨x.atom.toArray⟩, .slice A x.parts.length c] 37)).grownBy W none → (W.cell? ⟨w1.heap.size, 0, none⟩ = some (.string ⟨x.atom.toArray⟩) ∧ W.cell? ⟨w1.heap.size, 1, none⟩ = some (.slice A x.parts.length c) ∧ w1.heap.size < W.heap.size) ∧ W.cell? ⟨w.heap.size, 0, none⟩ = some (.string ⟨#[]⟩) ∧ W.cell? ⟨w.heap.size, 1, none⟩ = some (.slice none 0 0) ∧ W.frozen? ⟨w.heap.size, 0, none⟩ = false ∧ W.frozen? ⟨w.heap.size, 1, none⟩ = false ∧ w.heap.size < W.heap.size := fun W hW =>
          ⟨⟨(hbt.grown0 hW).cell 0, (hbt.grown0 hW).cell 1, (hbt.grown0 hW).lt⟩, (hb1.grown0 (gr_trans hgA hW)).cell 0, (hb1.grown0 (gr_trans hgA hW)).cell 1, (hb1.grown0 (gr_trans hgA hW)).free 0, (hb1.grown0 (gr_trans hgA hW)).free 1, (hb1.grown0 (gr_trans hgA hW)).lt⟩
        have hbdh := Lib.hid hbd
        have hlI : ((l.length : Int) == (l.length : Int)) = true := by simp
        have hgD := gr_drew hgA
        clear fin hbd hx hx0 hlt hok hdp htl hr h1h hl hR hle hbx r0 r1 rf0 rf1 hb1 hbt hg1
        cases hb : isTf 101 x with
        | false =>
          have hN := Lib.hid (show readX l = none by rw [hX.out, hb]; rfl)
          simp only [hb] at hIs
          clear hb hX hSz
          go_wp2_with fail
          go_region_with (go_at_call 31; refine (hIs.out _ (hxA.grown0 (gr_drew (gr_refl _ _)))).mono ?_; rintro e w2 ⟨rfl, hgw0⟩; have hgw := gr_trans (gr_drew (gr_refl _ _)) hgw0; obtain ⟨⟨c0, c1, cl⟩, d0, d1, f0, f1, dl⟩ := hbdh.out _ hgw)
          all_goals go_wp2_with fail
          all_goals refine bodyPost_ret (v := .tuple #[.agg #[.string ⟨x.atom.toArray⟩, .slice A x.parts.length c], .bool false]) (by simp [results, Try.results17, go_sem, Act.put, d0, d1]) rfl ?_
          all_goals exact STPost.no hN.out (finh.out _ hgw).1
        | true =>
          by_cases hs : x.size ≤ 60
          · have hY := Lib.hid (show readX l = some x by rw [hX.out, hb, decide_eq_true hs]; rfl)
            have hle : (x.size : Int) ≤ 60 := by omega
            have hsh := Lib.hid hs
            simp only [hb] at hIs
            clear hb hX hs
            go_wp2_with fail
            go_region_with (first
              | (go_at_call 31; refine (hIs.out _ (hxA.grown0 (gr_drew (gr_refl _ _)))).mono ?_; rintro e w2 ⟨rfl, hgw0⟩; have hgw := gr_trans (gr_drew (gr_refl _ _)) hgw0; obtain ⟨⟨c0, c1, cl⟩, d0, d1, f0, f1, dl⟩ := hbdh.out _ hgw)
              | (go_at_call 18; refine (hSz.out _ (hxA.grown0 hgw)).mono ?_; rintro e w3 ⟨rfl, hgw1⟩; have hgw2 := gr_trans hgw hgw1; clear c0 c1 cl d0 d1 f0 f1 dl; obtain ⟨⟨c0, c1, cl⟩, d0, d1, f0, f1, dl⟩ := hbdh.out _ hgw2))
            all_goals go_wp2_with fail
            all_goals refine bodyPost_ret (v := .tuple #[.agg #[.string ⟨x.atom.toArray⟩, .slice A x.parts.length c], .bool true]) (by simp [results, Try.results17, go_sem, Act.put, d0, d1]) rfl ?_
            all_goals exact STPost.yes hY.out (finh.out _ hgw2).1 (finh.out _ hgw2).2 hdph.out.1 hdph.out.2 hsh.out
          · have hN := Lib.hid (show readX l = none by rw [hX.out, hb, decide_eq_false hs]; rfl)
            have hle : ¬ (x.size : Int) ≤ 60 := by omega
            simp only [hb] at hIs
            clear hb hX hs
            go_wp2_with fail
            go_region_with (first
              | (go_at_call 31; refine (hIs.out _ (hxA.grown0 (gr_drew (gr_refl _ _)))).mono ?_; rintro e w2 ⟨rfl, hgw0⟩; have hgw := gr_trans (gr_drew (gr_refl _ _)) hgw0; obtain ⟨⟨c0, c1, cl⟩, d0, d1, f0, f1, dl⟩ := hbdh.out _ hgw)
              | (go_at_call 18; refine (hSz.out _ (hxA.grown0 hgw)).mono ?_; rintro e w3 ⟨rfl, hgw1⟩; have hgw2 := gr_trans hgw hgw1; clear c0 c1 cl d0 d1 f0 f1 dl; obtain ⟨⟨c0, c1, cl⟩, d0, d1, f0, f1, dl⟩ := hbdh.out _ hgw2))
            all_goals go_wp2_with fail
            all_goals refine bodyPost_ret (v := .tuple #[.agg #[.string ⟨x.atom.toArray⟩, .slice A x.parts.length c], .bool false]) (by simp [results, Try.results17, go_sem, Act.put, d0, d1] <;> omega) rfl ?_
            all_goals exact STPost.no hN.out (finh.out _ hgw2).1
      · have hN := Lib.hid (show readX l = none by
          unfold readX
          rw [if_pos h1h.out, hr]
          have : ∃ c r, l.drop j = c :: r := by
            cases h : l.drop j with
            | nil => have := congrArg List.length h; rw [List.length_drop, List.length_nil] at this; omega
            | cons c r => exact ⟨c, r, rfl⟩
          obtain ⟨c, r, e⟩ := this
          rw [e])
        have hlI : ((j : Int) == (l.length : Int)) = false := by rw [beq_eq_false_iff_ne]; omega
        have hG := gr_drew (gr_alloc (gr_set (gr_set hg01 (p := ⟨w.heap.size, 0, none⟩) (.inr (Nat.le_refl _)) (.string ⟨x.atom.toArray⟩)) (p := ⟨w.heap.size, 1, none⟩) (.inr (Nat.le_refl _)) (.slice A x.parts.length c)) (.cells #[.string ⟨x.atom.toArray⟩, .slice A x.parts.length c] 37))
        clear hr hj
        go_wp2_with fail
        go_region_with (fail)
        all_goals go_wp2_with fail
        all_goals refine bodyPost_ret (v := .tuple #[.agg #[.string ⟨x.atom.toArray⟩, .slice A x.parts.length c], .bool false]) (by simp [results, Try.results17, go_sem, Act.put, r0, r1, rlt]) rfl (STPost.no hN.out hG)
  · have hN := Lib.hid (show readX l = none by unfold readX; rw [if_neg h1000])
    have hle : (1000 : Int) < (l.length : Int) := by omega
    go_enter Try.func17, Try.ntmps17
    go_wp2_with fail
    exact bodyPost_ret (v := .tuple #[.agg #[.string ⟨#[]⟩, .slice none 0 0], .bool false]) (by simp [results, Try.results17, go_sem]) rfl (STPost.no hN.out hg0)
end Go.Proofs.Ytiaafacmfflfiaa
