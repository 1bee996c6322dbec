/- The program's slices.Grow of nil and slices.Concat of two slices of pointers to types. -/
import Derived.Test.YtlehnlfgjadleaaDoorKind2
import Derived.Test.YtlehnlfgjadleaaDoorOwn
import Derived.Lib.AppendZeros
import Derived.LoopN
namespace Go.Proofs.YtlehnlfgjadleaaDoor
open Go.RowKit

/-- Types at hand, behind pointers. -/
def HandP (w : World) (F : Nat → Prop) (A : Option Addr) (hand : List Ty) : Prop :=
  ∃ qs : Nat → Nat, Sl w F A hand.length (fun i => .pointer (some ⟨qs i, 0, none⟩)) ∧ ∀ i k, hand[i]? = some k → KindP w F (qs i) k
theorem HandP.keep {w w' : World} {F : Nat → Prop} {A : Option Addr} {hand : List Ty} (h : HandP w F A hand) (hk : ∀ b, F b → b < w.heap.size → w'.heap[b]? = w.heap[b]?) : HandP w' F A hand :=
  let ⟨vs, h1, h2⟩ := h; ⟨vs, h1.keep hk, fun i k hi => (h2 i k hi).keep hk⟩
theorem HandP.mono {w : World} {F G : Nat → Prop} {A : Option Addr} {hand : List Ty} (h : HandP w F A hand) (hm : ∀ b, F b → b < w.heap.size → G b) : HandP w G A hand :=
  let ⟨vs, h1, h2⟩ := h; ⟨vs, h1.mono hm, fun i k hi => (h2 i k hi).mono hm⟩
theorem HandP.grown0 {w w' : World} {F : Nat → Prop} {A : Option Addr} {hand : List Ty} (h : HandP w F A hand) (hg : w.grownBy w' none) : HandP w' F A hand := h.keep fun b _ hl => hg.block b hl (by simp)
theorem HandP.nil (w : World) (F : Nat → Prop) (A : Option Addr) : HandP w F A [] := ⟨fun _ => 0, Sl.nil_, fun i k h => by simp at h⟩
theorem HandP.of_kind {w : World} {F : Nat → Prop} {q : Nat} {k : Ty} (h : KindP w F q k) : ∃ A c, Blk w q 61 #[.slice A k.args.length c] ∧ HandP w F A k.args := by
  obtain ⟨A, c, qs, hb, h1, h2⟩ := h.open_
  exact ⟨A, c, hb, qs, h1, h2⟩
theorem handP_app {w : World} {F : Nat → Prop} {base cap n : Nat} {A' : Option Addr} {hand more : List Ty} {vs us : Nat → Nat} (hF : ∀ b, base ≤ b → F b)
    (hown : w.ownsRow base 38 1 (.slice A' n cap) n ((List.range hand.length).map (fun i => Value.pointer (some ⟨vs i, 0, none⟩)) ++ (List.range more.length).map (fun i => Value.pointer (some ⟨us i, 0, none⟩)))) (hn : (hand ++ more).length = n)
    (h1 : ∀ i k, hand[i]? = some k → KindP w F (vs i) k) (h2 : ∀ i k, more[i]? = some k → KindP w F (us i) k) : HandP w F A' (hand ++ more) := by
  subst hn
  obtain ⟨A'', cap'', e, hs⟩ := own_form hown
  cases e
  refine ⟨fun i => if i < hand.length then vs i else us (i - hand.length), ?_, fun i k hk => ?_⟩
  · have h3 := hs F (fun g hg => hF g (own_base hown hg))
    intro h0
    obtain ⟨g, o, e, hg, hc⟩ := h3 h0
    refine ⟨g, o, e, hg, fun i hi => ?_⟩
    rw [hc i hi]
    by_cases hi2 : i < hand.length
    · simp [List.getD, hi2, List.getElem?_append_left]
    · have hl : i - hand.length < more.length := by rw [List.length_append] at hi; omega
      simp [List.getD, List.getElem?_append_right (show ((List.range hand.length).map (fun i => Value.pointer (some ⟨vs i, 0, none⟩))).length ≤ i by simp; omega), hi2, hl]
  · by_cases hi : i < hand.length
    · rw [List.getElem?_append_left hi] at hk
      simp only [if_pos hi]
      exact h1 i k hk
    · rw [List.getElem?_append_right (by omega)] at hk
      simp only [if_neg hi]
      exact h2 _ k hk

theorem gr_ownP {w0 w1 w2 : World} {b : Nat} {e : TypeId} {v : Value} {n : Nat} {xs : List Value} (h : w0.grownBy w1 none) (hown : w1.ownsRow b e 1 v n xs) (hb : w0.heap.size ≤ b) (hg : w1.grownBy w2 v.ownBlock) : w0.grownBy w2 none := by
  cases hv : v.ownBlock with
  | none => rw [hv] at hg; exact gr_trans h hg
  | some g => rw [hv] at hg; exact gr_trans_new h hg (Nat.le_trans hb (own_base hown hv))
set_option maxHeartbeats 1000000 in
theorem grow_any (n : Nat) (w : World) (h0 : 0 < n) (hn : n ≤ 1000000) :
    Calls Tryd.prog 65 #[.slice none 0 0, .int .i64 n] w fun e w' => ∃ A c, e = .returned (.slice A 0 c) ∧ w'.ownsRow w.heap.size 38 1 (.slice A 0 c) 0 [] ∧ w.grownBy w' none := by
  obtain ⟨i0, hi, hz, h1s, hb⟩ := info_parts info_pkind
  have h1 : ¬ ((n : Int) < 0) := by omega
  have h4 : (n : Int) > 0 := by omega
  have hrz : ∀ ty, (Builtin.append_ #[59, 3] ty #[.slice none 0 0, .int .i64 (n : Int)]).run Tryd.prog w = _ := fun ty =>
    Lib.run_append_nil_zeros w 59 3 ty 38 i0 (.pointer none) .i64 .i64 Tryd.underlying59 Tryd.underlying3 hi hz n h0 (by omega) (by omega) (by rw [hb]; omega)
  have hGn : n ≤ grownCap w n 0 38 := grownCap_ge w _ _ _
  have hG63 := grownCap_le_maxLen w n 0 38 (by unfold maxLen; omega)
  generalize grownCap w n 0 38 = G at *
  have hown : (w.drew.alloc (.cells (Builtin.zeroCells (Value.pointer none).cells n ++ Builtin.zeroCells (Value.pointer none).cells (G - n)) 38)).ownsRow w.heap.size 38 1 (.slice (some ⟨w.heap.size, 0, none⟩) 0 G) 0 [] :=
    ⟨rfl, .inr ⟨w.heap.size, G, _, rfl, Nat.le_refl _, heap_alloc_new _ _, Nat.zero_le _, hG63, by simp [Builtin.zeroCells, Value.cells]; omega, rfl⟩⟩
  have hgr := gr_alloc (gr_drew (gr_refl w none)) (.cells (Builtin.zeroCells (Value.pointer none).cells n ++ Builtin.zeroCells (Value.pointer none).cells (G - n)) 38)
  generalize (w.drew.alloc (.cells (Builtin.zeroCells (Value.pointer none).cells n ++ Builtin.zeroCells (Value.pointer none).cells (G - n)) 38)) = W at *
  have hownh := Lib.hid hown
  clear hown
  go_enter Tryd.func65, Tryd.ntmps65
  go_wp2_with (at_builtin; refine Lib.wpList_append_run _ rfl _ _ _ _ rfl _ _ rfl rfl _ _ (hrz _) ?_)
  all_goals (go_ret; exact ⟨_, _, rfl, hownh.out, hgr⟩)

set_option maxHeartbeats 2000000 in
theorem concat_any (hand more : List Ty) (A B : Option Addr) (ca cb g : Nat) (F : Nat → Prop) (w : World) (hF : ∀ b, w.heap.size ≤ b → F b) (hh : HandP w F A hand) (hm : HandP w F B more) (h0 : 0 < hand.length) (hl : hand.length ≤ 100000) (hl2 : more.length ≤ 100000)
    (hg : Blk w g 59 #[.slice A hand.length ca, .slice B more.length cb]) :
    Calls Tryd.prog 54 #[.slice (some ⟨g, 0, none⟩) 2 2] w fun e w' => ∃ A' c', e = .returned (.slice A' (hand ++ more).length c') ∧ HandP w' F A' (hand ++ more) ∧ w.grownBy w' none := by
  obtain ⟨vs, hv1, hv2⟩ := hh
  obtain ⟨us, hu1, hu2⟩ := hm
  have r0 := hg.cell 0
  have r1 := hg.cell 1
  simp only [List.getElem?_toArray, List.getElem?_cons_zero, List.getElem?_cons_succ] at r0 r1
  have hgr := Lib.hid (grow_any (hand.length + more.length) w (by omega) (by omega))
  rw [show ((hand.length + more.length : Nat) : Int) = (hand.length : Int) + (more.length : Int) by omega] at hgr
  have hlt := hg.lt
  have hlen : (hand ++ more).length = hand.length + more.length := List.length_append
  have hlenh := Lib.hid hlen
  clear hlen
  go_enter Tryd.func54, Tryd.ntmps54
  go_wp2_with fail
  refine wp_loop_rounds 3 ?_
  rw [rounds_succ]; go_wp2_with fail
  rw [rounds_succ]; go_wp2_with fail
  rw [rounds_succ]; go_wp2_with fail
  refine hgr.out.mono ?_
  rintro e w1 ⟨A1, c1, rfl, hown1, hg1⟩
  have hG1 := hg.grown0 hg1
  have q0 := hG1.cell 0
  have q1 := hG1.cell 1
  have hlt1 := hG1.lt
  simp only [List.getElem?_toArray, List.getElem?_cons_zero, List.getElem?_cons_succ] at q0 q1
  have hs1 := hg1.size
  have hvw := hv1.grown0 hg1
  go_wp2_with fail
  refine wp_loop_rounds 3 ?_
  rw [rounds_succ]
  go_wp2_with (at_builtin; refine wpList_app rfl _ _ 59 rfl w.heap.size 38 (.pointer none) 8 Tryd.underlying59 info_pkind rfl _ _ 0 _ rfl hown1 A hand.length ca _ rfl F hvw (fun _ _ => rfl) (by unfold maxLen; omega) (by omega) hs1 ?_; intro A2 c2 w2 hown2 hg2 hat2; have hg12 := gr_ownP hg1 hown1 (Nat.le_refl _) hg2; simp only [Nat.zero_add, List.nil_append] at hown2 ⊢)
  have hG2 := hg.grown0 hg12
  have p0 := hG2.cell 0
  have p1 := hG2.cell 1
  have hlt2 := hG2.lt
  simp only [List.getElem?_toArray, List.getElem?_cons_zero, List.getElem?_cons_succ] at p0 p1
  have hs2 := hg12.size
  have huw := hu1.grown0 hg12
  rw [rounds_succ]
  go_wp2_with (at_builtin; refine wpList_app rfl _ _ 59 rfl w.heap.size 38 (.pointer none) 8 Tryd.underlying59 info_pkind rfl _ _ hand.length _ rfl hown2 B more.length cb _ rfl F huw (fun _ _ => rfl) (by unfold maxLen; omega) (by omega) hs2 ?_; intro A3 c3 w3 hown3 hg3 hat3; have hg13 := gr_ownP hg12 hown2 (Nat.le_refl _) hg3)
  have hG3 := hg.grown0 hg13
  have hlt3 := hG3.lt
  rw [rounds_succ]
  go_wp2_with fail
  go_ret
  exact ⟨A3, c3, by rw [hlenh.out]; rfl, handP_app hF hown3 hlenh.out (fun i k hi => (hv2 i k hi).grown0 hg13) (fun i k hi => (hu2 i k hi).grown0 hg13), hg13⟩
end Go.Proofs.YtlehnlfgjadleaaDoor
