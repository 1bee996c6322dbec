/- The program's reader of types. -/
import Derived.Test.YtlehnlfgjadleaaDoorTake
namespace Go.Proofs.YtlehnlfgjadleaaDoor
open Go.RowKit

theorem info_pkind : (Tryd.prog.info? 38).map (fun i => (i.zero, i.size, i.bytes)) = some (some (.pointer none), 1, 8) := by kernel_rfl

set_option maxHeartbeats 400000 in
/-- 'arrow': the function type from one type to another one. -/
theorem arrow_any (q1 q2 : Nat) (a c : Ty) (F : Nat → Prop) (w : World) (h1 : KindP w F q1 a) (h2 : KindP w F q2 c) (hF : ∀ b, w.heap.size ≤ b → F b) (hb : c.args.length ≤ 1099511627776) :
    Calls Tryd.prog 17 #[.pointer (some ⟨q1, 0, none⟩), .pointer (some ⟨q2, 0, none⟩)] w fun e w' => ∃ q, e = .returned (.pointer (some ⟨q, 0, none⟩)) ∧ KindP w' F q (.arr a c) ∧ w.grownBy w' none := by
  obtain ⟨A, cp, qs, hblk, hA, hs⟩ := h2.open_
  have hc := hblk.cell 0
  have hf := hblk.free 0
  simp only [List.getElem?_toArray, List.getElem?_cons_zero] at hc
  have hlt := hblk.lt
  have hown : (w.alloc (.cells #[.pointer (some ⟨q1, 0, none⟩)] 38)).ownsRow w.heap.size 38 1 (.slice (some ⟨w.heap.size, 0, none⟩) 1 1) 1 [.pointer (some ⟨q1, 0, none⟩)] :=
    ⟨rfl, .inr ⟨w.heap.size, 1, #[.pointer (some ⟨q1, 0, none⟩)], rfl, Nat.le_refl _, heap_alloc_new w _, Nat.le_refl _, by unfold maxLen; omega, rfl, rfl⟩⟩
  have hg0 := World.grownBy_alloc w (.cells #[.pointer (some ⟨q1, 0, none⟩)] 38) none
  have hA1 := hA.grown0 hg0
  go_enter Tryd.func17, Tryd.ntmps17
  go_wp2_with (at_builtin; refine wpList_app rfl _ _ 59 rfl w.heap.size 38 (.pointer none) 8 Tryd.underlying59 info_pkind rfl _ 1 1 _ rfl hown A c.args.length cp _ rfl F hA1 (fun _ _ => rfl) (by unfold maxLen; omega) (by omega) (by simp) ?_; intro A' cap w1 hown1 hg1 hat1)
  go_ret
  have hg1' : w.grownBy w1 none := gr_trans_new (g := w.heap.size) hg0 hg1 (Nat.le_refl _)
  refine ⟨w1.heap.size, rfl, ?_, gr_alloc hg1' _⟩
  obtain ⟨A'', cap'', e2, hsl⟩ := own_form hown1
  cases e2
  have hsl := hsl F fun g hg => hF g (own_base hown1 hg)
  have hkeep : w1.grownBy (w1.alloc (.cells #[.slice A' (1 + c.args.length) cap] 61)) none := World.grownBy_alloc _ _ _
  have hn : (Ty.arr a c).args.length = 1 + c.args.length := by simp [Ty.args]; omega
  have hcp : (Ty.arr a c).args.length ≤ cap := by
    rcases hown1.2 with ⟨h0, _⟩ | ⟨g, cq, cur, e1, _, _, hnc, _⟩
    · omega
    · cases e1
      omega
  refine .mk w1.heap.size (.arr a c) A' cap (fun i => if i = 0 then q1 else qs (i - 1)) (hF _ hg1'.size) (by rw [hn]; exact Blk.new _ _ _) ?_ ?_ hcp
  · rw [hn]
    refine Sl.grown0 ?_ hkeep
    intro h0
    obtain ⟨g, o, e1, hne, hcell⟩ := hsl h0
    refine ⟨g, o, e1, hne, fun i hi => ?_⟩
    rw [hcell i hi]
    cases i with
    | zero => rfl
    | succ i =>
      have hi' : i < c.args.length := by omega
      simp [List.getD, hi']
  · intro i u hu
    cases i with
    | zero =>
      obtain rfl : a = u := by simpa [Ty.args] using hu
      exact (h1.grown0 hg1').grown0 hkeep
    | succ i =>
      exact ((hs i u (by simpa [Ty.args] using hu)).grown0 hg1').grown0 hkeep

theorem pre_length {t r : List UInt8} : (cut t r).length ≤ r.length := by
  unfold cut
  split
  · simp
  · exact Nat.le_refl _

theorem parse_b {n : Nat} {r : List UInt8} (h : pre [98] r = true) : Ty.parse n r = some (.b, cut [98] r) := by
  rw [cut_yes h]
  cases r with
  | nil => simp [pre] at h
  | cons c r =>
    obtain rfl : 98 = c := by simpa [pre] using h
    unfold Ty.parse
    rfl

theorem parse_no {n : Nat} {r : List UInt8} (h : pre [98] r = false) (h2 : pre [40, 62, 32] r = false) : Ty.parse n r = none := by
  unfold Ty.parse
  split
  · simp [pre] at h
  · simp [pre] at h2
  · rfl

theorem parse_zero {r : List UInt8} (h : pre [98] r = false) : Ty.parse 0 r = none := by
  unfold Ty.parse
  split
  · simp [pre] at h
  · rfl
  · rfl

theorem pre_split {t r : List UInt8} (h : pre t r = true) : r = t ++ cut t r := by
  rw [cut_yes h]
  obtain ⟨u, rfl⟩ : t <+: r := by simpa [pre, List.isPrefixOf_iff_prefix] using h
  simp

theorem parse_step {n : Nat} {r : List UInt8} (h2 : pre [40, 62, 32] r = true) :
    Ty.parse (n + 1) r = match Ty.parse n (cut [40, 62, 32] r) with
      | some (a, r1) => if pre [32] r1 then (match Ty.parse n (cut [32] r1) with
        | some (c, r2) => if pre [41] r2 then some (.arr a c, cut [41] r2) else none
        | none => none) else none
      | none => none := by
  have e := pre_split h2
  generalize cut [40, 62, 32] r = u at e ⊢
  subst e
  conv => lhs; unfold Ty.parse
  simp only [List.cons_append, List.nil_append]
  cases h1 : Ty.parse n u with
  | none => rfl
  | some v =>
    obtain ⟨a, r1⟩ := v
    simp only
    cases h3 : pre [32] r1 with
    | false =>
      split
      · rename_i h4
        cases h4
        simp [pre] at h3
      · simp
    | true =>
      have e1 := pre_split h3
      generalize cut [32] r1 = u1 at e1 ⊢
      subst e1
      simp only [List.cons_append, List.nil_append, if_true]
      cases h5 : Ty.parse n u1 with
      | none => rfl
      | some v =>
        obtain ⟨c, r2⟩ := v
        simp only
        cases h6 : pre [41] r2 with
        | false =>
          split
          · rename_i h7
            cases h7
            simp [pre] at h6
          · simp
        | true =>
          have e2 := pre_split h6
          generalize cut [41] r2 = u2 at e2 ⊢
          subst e2
          simp

/-- What the reader of types leaves. -/
def KindPost (p n : Nat) (r : List UInt8) (w : World) (e : Ending) (w' : World) : Prop :=
  ∃ r', Scan w' p r' ∧ r'.length ≤ r.length ∧ w.grownBy w' (some p) ∧
    match Ty.parse n r with
    | none => e = .returned (.pointer none)
    | some (t, rest) => r' = rest ∧ ∃ q, e = .returned (.pointer (some ⟨q, 0, none⟩)) ∧ KindP w' (Fr w.heap.size) q t

theorem KindPost.no {p n : Nat} {r r' : List UInt8} {w w' : World} (h : Ty.parse n r = none) (hs : Scan w' p r') (hl : r'.length ≤ r.length) (hg : w.grownBy w' (some p)) : KindPost p n r w (.returned (.pointer none)) w' :=
  ⟨r', hs, hl, hg, by rw [h]⟩

theorem KindPost.yes {p n : Nat} {r r' : List UInt8} {w w' : World} {t : Ty} {q : Nat} (h : Ty.parse n r = some (t, r')) (hs : Scan w' p r') (hl : r'.length ≤ r.length) (hg : w.grownBy w' (some p)) (hk : KindP w' (Fr w.heap.size) q t) :
    KindPost p n r w (.returned (.pointer (some ⟨q, 0, none⟩))) w' :=
  ⟨r', hs, hl, hg, by rw [h]; exact ⟨rfl, q, rfl, hk⟩⟩

theorem args_le {n : Nat} {r r' : List UInt8} {t : Ty} (h : Ty.parse n r = some (t, r')) : t.args.length ≤ r.length := by
  have h1 := Ty.parse_sound _ _ _ _ h
  have h2 := Ty.length_text t
  have h3 := Ty.length_args t
  rw [h1, List.length_append]
  omega

theorem kind_b {F : Nat → Prop} (w : World) (hF : F w.heap.size) : KindP (w.alloc (.cells #[.slice none 0 0] 61)) F w.heap.size .b :=
  .mk _ .b none 0 (fun _ => 0) hF (Blk.new _ _ _) (fun h => absurd h (by simp [Ty.args])) (fun i u hu => by simp [Ty.args] at hu) (Nat.le_refl _)

set_option maxHeartbeats 1000000 in
/-- A text that begins with b. -/
theorem kind_b_any (n : Nat) (p : Nat) (r : List UInt8) (w : World) (hs : Scan w p r) (hr : r.length ≤ 1099511627776) (hb : pre [98] r = true) :
    Calls Tryd.prog 29 #[.pointer (some ⟨p, 0, none⟩), .int .i64 (n : Int)] w (KindPost p n r w) := by
  have hP := Lib.hid (parse_b (n := n) hb)
  go_enter Tryd.func29, Tryd.ntmps29
  go_wp2_with fail
  refine (take_any p r [98] w hs hr (by simp)).mono ?_
  rintro e w1 ⟨rfl, hs1, hg1⟩
  go_wp2_with fail
  go_ret
  exact KindPost.yes hP.out (hs1.alloc _) pre_length (gr_alloc hg1 _) (kind_b _ hg1.size)

set_option maxHeartbeats 1000000 in
/-- The reader of types with at most n signs within each other. -/
theorem kind_any (n : Nat) : ∀ (p : Nat) (r : List UInt8) (w : World), Scan w p r → r.length ≤ 1099511627776 → n ≤ 1000 →
    Calls Tryd.prog 29 #[.pointer (some ⟨p, 0, none⟩), .int .i64 (n : Int)] w (KindPost p n r w) := by
  induction n with
  | zero =>
    intro p r w hs hr _
    cases hb : pre [98] r with
    | true => exact kind_b_any 0 p r w hs hr hb
    | false =>
      have hP := Lib.hid (parse_zero hb)
      go_enter Tryd.func29, Tryd.ntmps29
      go_wp2_with fail
      refine (take_any p r [98] w hs hr (by simp)).mono ?_
      rintro e w1 ⟨rfl, hs1, hg1⟩
      go_wp2_with fail
      go_ret
      exact KindPost.no hP.out hs1 pre_length hg1
  | succ n ih =>
    intro p r w hs hr hn
    have ih := Lib.hid ih
    cases hb : pre [98] r with
    | true => exact kind_b_any _ p r w hs hr hb
    | false =>
      have hb2 := Lib.hid hb
      have e1 : ((n + 1 : Nat) : Int) = (n : Int) + 1 := by omega
      have n0 : (((n : Int) + 1) == 0) = false := by simp; omega
      rw [e1]
      clear e1
      go_enter Tryd.func29, Tryd.ntmps29
      go_wp2_with fail
      refine (take_any p r [98] w hs hr (by simp)).mono ?_
      rintro e w1 ⟨rfl, hs1, hg1⟩
      rw [cut_no hb] at hs1
      go_wp2_with fail
      refine (take_any p r [40, 62, 32] w1 hs1 hr (by simp)).mono ?_
      rintro e w2 ⟨rfl, hs2, hg2⟩
      have hl2 : (cut [40, 62, 32] r).length ≤ r.length := pre_length
      cases hp : pre [40, 62, 32] r with
      | false =>
        have hP := Lib.hid (parse_no (n := n + 1) hb hp)
        go_wp2_with fail
        go_ret
        exact KindPost.no hP.out hs2 hl2 (gr_trans hg1 hg2)
      | true =>
        have hP := parse_step (n := n) hp
        have hp' := Lib.hid hp
        go_wp2_with fail
        refine (ih.out p _ w2 hs2 (by omega) (by omega)).mono ?_
        rintro e w3 ⟨r3, hs3, hl3, hg3, hm⟩
        have hg13 := gr_trans (gr_trans hg1 hg2) hg3
        cases h3 : Ty.parse n (cut [40, 62, 32] r) with
        | none =>
          rw [h3] at hm hP
          subst hm
          have hP := Lib.hid hP
          clear h3
          go_wp2_with fail
          go_ret
          exact KindPost.no hP.out hs3 (by omega) hg13
        | some v =>
          obtain ⟨a, r4⟩ := v
          rw [h3] at hm hP
          obtain ⟨rfl, q, rfl, hk⟩ := hm
          clear h3
          have hP := Lib.hid hP
          go_wp2_with fail
          refine (take_any p r3 [32] w3 hs3 (by omega) (by simp)).mono ?_
          rintro e w4 ⟨rfl, hs4, hg4⟩
          have hl4 : (cut [32] r3).length ≤ r3.length := pre_length
          have hg14 := gr_trans hg13 hg4
          have hsz := hs.lt
          have hsz2 := hg1.size
          have hsz3 := hg2.size
          have hk4 := (hk.fr (lo := w.heap.size) (by omega)).grown hg4 hsz
          cases h4 : pre [32] r3 with
          | false =>
            have hP2 := hP.out
            simp only [h4, Bool.false_eq_true, if_false] at hP2
            have hP2 := Lib.hid hP2
            go_wp2_with fail
            go_ret
            exact KindPost.no hP2.out hs4 (by omega) hg14
          | true =>
            have hP2 := hP.out
            simp only [h4, if_true] at hP2
            have hP2 := Lib.hid hP2
            go_wp2_with fail
            refine (ih.out p _ w4 hs4 (by omega) (by omega)).mono ?_
            rintro e w5 ⟨r5, hs5, hl5, hg5, hm⟩
            have hg15 := gr_trans hg14 hg5
            have hk5 := hk4.grown hg5 hsz
            cases h5 : Ty.parse n (cut [32] r3) with
            | none =>
              have hP3 := hP2.out
              rw [h5] at hm hP3
              subst hm
              have hP3 := Lib.hid hP3
              clear h5
              go_wp2_with fail
              go_ret
              exact KindPost.no hP3.out hs5 (by omega) hg15
            | some v =>
              obtain ⟨c, r6⟩ := v
              have hal := args_le h5
              have hP3 := hP2.out
              rw [h5] at hm hP3
              obtain ⟨rfl, q2, rfl, hk2⟩ := hm
              clear h5
              have hP3 := Lib.hid hP3
              go_wp2_with fail
              refine (take_any p r5 [41] w5 hs5 (by omega) (by simp)).mono ?_
              rintro e w6 ⟨rfl, hs6, hg6⟩
              have hl6 : (cut [41] r5).length ≤ r5.length := pre_length
              have hg16 := gr_trans hg15 hg6
              have hk6 := hk5.grown hg6 hsz
              have hk26 := (hk2.fr (lo := w.heap.size) hg14.size).grown hg6 hsz
              cases h6 : pre [41] r5 with
              | false =>
                have hP4 := hP3.out
                simp only [h6, Bool.false_eq_true, if_false] at hP4
                have hP4 := Lib.hid hP4
                go_wp2_with fail
                go_ret
                exact KindPost.no hP4.out hs6 (by omega) hg16
              | true =>
                have hP4 := hP3.out
                simp only [h6, if_true] at hP4
                have hP4 := Lib.hid hP4
                go_wp2_with fail
                refine (arrow_any q q2 a c (Fr w.heap.size) w6 hk6 hk26 (fun b hb => Nat.le_trans hg16.size hb) (by omega)).mono ?_
                rintro e w7 ⟨q3, rfl, hk3, hg7⟩
                go_wp2_with fail
                go_ret
                exact KindPost.yes hP4.out (hs6.grown0 hg7) (by omega) (gr_trans hg16 (gr_weak hg7 _)) hk3
end Go.Proofs.YtlehnlfgjadleaaDoor
