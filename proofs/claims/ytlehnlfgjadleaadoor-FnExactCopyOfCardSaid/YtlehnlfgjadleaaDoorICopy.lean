/- The program's copyOf of types. -/
import Derived.Test.YtlehnlfgjadleaaDoorIText
import Derived.Deep.RegionLaw
namespace Go.Proofs.YtlehnlfgjadleaaDoor
open Go.RowKit

/-- A copy in the making: q0 is its block, w the world ahead of it. -/
structure CT (w wr : World) (q0 lv : Nat) (acc : Bo) (As : Option Addr) (cs : Nat) (ps : Nat → Nat) : Prop where
  li : acc.isLi = true
  lvl : acc.level = lv
  gr : w.grownBy wr none
  wq : q0 = w.heap.size + 2
  out : Blk wr q0 64 #[.string ⟨#[]⟩, .int .i64 lv, .slice As acc.np cs, bptr w.heap.size, bptr (w.heap.size + 1)]
  yes : Blk wr w.heap.size 64 #[.string ⟨#[116]⟩, .int .i64 0, .slice none 0 0, .pointer none, .pointer none]
  no : Blk wr (w.heap.size + 1) 64 #[.string ⟨#[102]⟩, .int .i64 0, .slice none 0 0, .pointer none, .pointer none]
  kids : ∀ i b, acc.parts[i]? = some b → BodyP wr (NotRow q0 (.slice As acc.np cs)) (ps i) b
  own : wr.ownsRow (q0 + 1) 42 1 (.slice As acc.np cs) acc.np ((List.range acc.np).map fun i => bptr (ps i))
theorem CT.push {w wr w1 w3 : World} {q0 lv q cs cs' : Nat} {acc x : Bo} {As As' : Option Addr} {ps : Nat → Nat} (h : CT w wr q0 lv acc As cs ps)
    (hg1 : wr.grownBy w1 none) (hb1 : BodyP w1 (Fr wr.heap.size) q x)
    (hown3 : w3.ownsRow (q0 + 1) 42 1 (.slice As' (acc.np + 1) cs') (acc.np + 1) (((List.range acc.np).map fun i => bptr (ps i)) ++ (List.range 1).map fun _ => bptr q))
    (hg3 : (w1.alloc (.cells #[bptr q] 42)).grownBy w3 (Value.slice As acc.np cs).ownBlock)
    (hat : (Value.slice As' (acc.np + 1) cs').ownBlock = (Value.slice As acc.np cs).ownBlock ∨ (Value.slice As' (acc.np + 1) cs').ownBlock = some (w1.alloc (.cells #[bptr q] 42)).heap.size) :
    CT w (w3.setCell ⟨q0, 2, none⟩ (.slice As' (acc.np + 1) cs')) q0 lv (.sn acc x) As' cs' (fun i => if i = acc.np then q else ps i) := by
  have hq0 : q0 < wr.heap.size := h.out.lt
  have hwq := h.wq
  have hs1s := hg1.size
  have hown := h.own
  have hob : ∀ g, (Value.slice As acc.np cs).ownBlock = some g → q0 + 1 ≤ g ∧ g < wr.heap.size := fun g hg => hown.lt g hg
  have hga : w1.grownBy (w1.alloc (.cells #[bptr q] 42)) none := World.grownBy_alloc _ _ _
  have hgs := hga.size
  have key : ∀ b, (Value.slice As acc.np cs).ownBlock ≠ some b → b < w1.heap.size → b ≠ q0 → (w3.setCell ⟨q0, 2, none⟩ (.slice As' (acc.np + 1) cs')).heap[b]? = w1.heap[b]? := fun b hb2 hb3 hb4 => by
    rw [heap_setCell_other _ _ _ _ (show b ≠ q0 from hb4)]
    exact (hg3.block b (by omega) (fun e => hb2 e.symm)).trans (hga.block b hb3 (by simp))
  have key1 : ∀ b, b < wr.heap.size → w1.heap[b]? = wr.heap[b]? := fun b hb2 => hg1.block b hb2 (by simp)
  have hlen : acc.parts.length = acc.np := Bo.np_parts acc
  have hmaps : ((List.range acc.np).map fun i => bptr (ps i)) ++ ((List.range 1).map fun _ => bptr q) = (List.range (acc.np + 1)).map fun i => bptr (if i = acc.np then q else ps i) := by
    rw [List.range_succ (n := acc.np), List.map_append]
    congr 1
    · apply List.map_congr_left
      intro a ha
      have : a ≠ acc.np := by have := List.mem_range.1 ha; omega
      simp [this]
    · simp
  have hy := h.yes.lt
  have hn := h.no.lt
  refine ⟨rfl, h.lvl, ?_, hwq, ?_, ?_, ?_, ?_, ?_⟩
  · refine gr_set ?_ (.inr (by show w.heap.size ≤ q0; omega)) _
    have h1 := gr_trans (gr_trans h.gr hg1) hga
    cases hv : (Value.slice As acc.np cs).ownBlock with
    | none => rw [hv] at hg3; exact gr_trans h1 hg3
    | some g => rw [hv] at hg3; exact gr_trans_new h1 hg3 (by have := hob g hv; omega)
  · have h1 : Blk w3 q0 64 #[.string ⟨#[]⟩, .int .i64 lv, .slice As acc.np cs, bptr w.heap.size, bptr (w.heap.size + 1)] :=
      ((hg3.block q0 (by omega) (fun e => by have := hob q0 e.symm; omega)).trans (hga.block q0 (by omega) (by simp))).trans ((key1 q0 hq0).trans h.out)
    have := h1.set 2 (.slice As' (acc.np + 1) cs')
    refine (show Blk (w3.setCell ⟨q0, 2, none⟩ (.slice As' (acc.np + 1) cs')) q0 64 #[.string ⟨#[]⟩, .int .i64 lv, .slice As' (acc.np + 1) cs', bptr w.heap.size, bptr (w.heap.size + 1)] from ?_)
    simpa using this
  · exact (key _ (fun e => by have := hob _ e; omega) (by omega) (by omega)).trans ((key1 _ hy).trans h.yes)
  · exact (key _ (fun e => by have := hob _ e; omega) (by omega) (by omega)).trans ((key1 _ hn).trans h.no)
  · intro i b hi
    simp only [Bo.parts] at hi
    have hkp : ∀ {q' : Nat} {y : Bo}, BodyP w1 (NotRow q0 (.slice As acc.np cs)) q' y → BodyP (w3.setCell ⟨q0, 2, none⟩ (.slice As' (acc.np + 1) cs')) (NotRow q0 (.slice As' (acc.np + 1) cs')) q' y := by
      intro q' y hy
      have h2 : BodyP w1 (fun b => NotRow q0 (.slice As acc.np cs) b ∧ (Value.slice As' (acc.np + 1) cs').ownBlock ≠ some b) q' y := hy.mono fun b hb hbl => ⟨hb, by
        rcases hat with e | e
        · rw [e]; exact hb.2
        · rw [e]; intro e2; have := Option.some.inj e2; omega⟩
      refine (h2.keep (w' := w3.setCell ⟨q0, 2, none⟩ (.slice As' (acc.np + 1) cs')) fun b hb hbl => key b hb.1.2 hbl (by have := hb.1.1; omega)).mono fun b hb _ => ⟨hb.1.1, hb.2⟩
    by_cases hlt : i < acc.np
    · rw [List.getElem?_append_left (by omega)] at hi
      have : i ≠ acc.np := by omega
      simp only [if_neg this]
      exact hkp ((h.kids i b hi).keep fun b hb hbl => key1 b hbl)
    · rw [List.getElem?_append_right (by omega), hlen] at hi
      have hi0 := (List.getElem?_eq_some_iff.1 hi).1
      simp only [List.length_cons, List.length_nil] at hi0
      obtain rfl : i = acc.np := by omega
      have hxb : x = b := by simpa using hi
      subst hxb
      simp only [if_true]
      exact hkp (hb1.mono fun b hb _ => ⟨by unfold Fr at hb; omega, fun e => by have := hob b e; unfold Fr at hb; omega⟩)
  · show World.ownsRow _ _ _ _ (.slice As' (acc.np + 1) cs') (acc.np + 1) _
    rw [show (List.range (Bo.sn acc x).np).map (fun i => bptr (if i = acc.np then q else ps i)) = (List.range (acc.np + 1)).map (fun i => bptr (if i = acc.np then q else ps i)) from rfl, ← hmaps]
    exact ownsRow_setCell_other hown3 (fun e => by have := hown3.lt _ e; simp only at this; omega) _
/-- The copy whole. -/
theorem CT.done {w wr : World} {q0 lv cs : Nat} {acc : Bo} {As : Option Addr} {ps : Nat → Nat} (h : CT w wr q0 lv acc As cs ps) : BodyP wr (Fr w.heap.size) q0 (.sn (.sn acc (.w [116])) (.w [102])) := by
  have hwq := h.wq
  have hlen : acc.parts.length = acc.np := Bo.np_parts acc
  refine .list q0 _ acc.np As cs (fun i => if i < acc.np then ps i else w.heap.size + (i - acc.np)) (by unfold Fr; omega) rfl (by simp [Bo.parts, hlen]) ?_ ?_ ?_
  · have := h.out
    rw [← h.lvl] at this
    have e1 : (if acc.np < acc.np then ps acc.np else w.heap.size + (acc.np - acc.np)) = w.heap.size := by simp
    have e2 : (if acc.np + 1 < acc.np then ps (acc.np + 1) else w.heap.size + (acc.np + 1 - acc.np)) = w.heap.size + 1 := by rw [if_neg (by omega)]; omega
    show Blk wr q0 64 #[.string ⟨#[]⟩, .int .i64 acc.level, .slice As acc.np cs, .pointer (some ⟨if acc.np < acc.np then ps acc.np else w.heap.size + (acc.np - acc.np), 0, none⟩), .pointer (some ⟨if acc.np + 1 < acc.np then ps (acc.np + 1) else w.heap.size + (acc.np + 1 - acc.np), 0, none⟩)]
    rw [e1, e2]
    exact this
  · intro h0
    obtain ⟨A', c', e, hs⟩ := own_form h.own
    cases e
    obtain ⟨g, o, e, hg, hc⟩ := hs (Fr w.heap.size) (fun g hg => by have := own_base h.own hg; unfold Fr; omega) h0
    refine ⟨g, o, e, hg, fun i hi => ?_⟩
    rw [hc i hi]
    simp [List.getD, hi, bptr]
  · intro i b hi
    simp only [Bo.parts, List.append_assoc] at hi
    by_cases hlt : i < acc.np
    · rw [List.getElem?_append_left (by omega)] at hi
      simp only [if_pos hlt]
      exact (h.kids i b hi).mono fun b hb _ => by have := hb.1; unfold Fr; omega
    · rw [List.getElem?_append_right (by omega), hlen] at hi
      simp only [if_neg hlt]
      generalize i - acc.np = j at *
      match j, hi with
      | 0, hi =>
        have : Bo.w [116] = b := by simpa using hi
        subst this
        exact .leaf _ _ (by unfold Fr; omega) (by simp) h.yes
      | 1, hi =>
        have : Bo.w [102] = b := by simpa using hi
        subst this
        exact .leaf _ _ (by unfold Fr; omega) (by simp) h.no
      | j + 2, hi => simp at hi
set_option maxRecDepth 100000 in
set_option maxHeartbeats 4000000 in
theorem copyOf_any (m : Nat) : ∀ (t : Ty) (q lv n : Nat) (F : Nat → Prop) (w : World), t.atoms ≤ m → t.atoms ≤ 100 → lv ≤ 1000 → n + t.atoms ≤ 1000 → KindP w F q t →
    Calls Tryd.prog 19 #[.pointer (some ⟨q, 0, none⟩), .int .i64 (lv : Int), .int .i64 (n : Int)] w fun e w' => ∃ q', e = .returned (.pointer (some ⟨q', 0, none⟩)) ∧ BodyP w' (Fr w.heap.size) q' (eta t lv n) ∧ w.grownBy w' none := by
  induction m with
  | zero => intro t q lv n F w h; have := t.atoms_pos; omega
  | succ m ih =>
    intro t q lv n F w hm h100 hlv hn hk
    have ihh := Lib.hid ih
    clear ih
    obtain ⟨A, cp, qs, hblk, hA, hs⟩ := hk.open_
    have hqb := Lib.hid (fun (W : World) (hW : w.grownBy W none) => hblk.grown0 hW)
    have hkid := Lib.hid (fun (W : World) (hW : w.grownBy W none) i u (hi : t.args[i]? = some u) => (hs i u hi).grown0 hW)
    have hAh := Lib.hid (fun (W : World) (hW : w.grownBy W none) => hA.grown0 hW)
    have hga := gr_alloc (gr_alloc (World.grownBy_alloc w (.cells #[.string ⟨#[116]⟩, .int .i64 0, .slice none 0 0, .pointer none, .pointer none] 64) none) (.cells #[.string ⟨#[102]⟩, .int .i64 0, .slice none 0 0, .pointer none, .pointer none] 64)) (.cells #[.string ⟨#[]⟩, .int .i64 (lv : Int), .slice none 0 0, .pointer (some ⟨w.heap.size, 0, none⟩), .pointer (some ⟨w.heap.size + 1, 0, none⟩)] 64)
    have hbl := hblk.grown0 hga
    have c0 := hbl.cell 0
    have c0l := hbl.lt
    simp only [List.getElem?_toArray, List.getElem?_cons_zero] at c0
    have hla := t.length_args
    clear hblk hA hs hk hbl
    go_enter Tryd.func19, Tryd.ntmps19
    go_wp2_with fail
    have hCT0 : CT w (((w.alloc (.cells #[.string ⟨#[116]⟩, .int .i64 0, .slice none 0 0, .pointer none, .pointer none] 64)).alloc (.cells #[.string ⟨#[102]⟩, .int .i64 0, .slice none 0 0, .pointer none, .pointer none] 64)).alloc (.cells #[.string ⟨#[]⟩, .int .i64 (lv : Int), .slice none 0 0, .pointer (some ⟨w.heap.size, 0, none⟩), .pointer (some ⟨w.heap.size + 1, 0, none⟩)] 64)) (w.heap.size + 1 + 1) lv (.hd lv) none 0 (fun _ => 0) := by
      refine ⟨rfl, rfl, hga, rfl, ?_, ((Blk.new w _ _).alloc _).alloc _, ?_, fun i b h => by simp [Bo.parts] at h, ⟨rfl, .inl ⟨rfl, rfl⟩⟩⟩
      · have := Blk.new ((w.alloc (.cells #[.string ⟨#[116]⟩, .int .i64 0, .slice none 0 0, .pointer none, .pointer none] 64)).alloc (.cells #[.string ⟨#[102]⟩, .int .i64 0, .slice none 0 0, .pointer none, .pointer none] 64)) 64 #[.string ⟨#[]⟩, .int .i64 (lv : Int), .slice none 0 0, .pointer (some ⟨w.heap.size, 0, none⟩), .pointer (some ⟨w.heap.size + 1, 0, none⟩)]
        rw [World.size_alloc, World.size_alloc] at this
        exact this
      · have := (Blk.new (w.alloc (.cells #[.string ⟨#[116]⟩, .int .i64 0, .slice none 0 0, .pointer none, .pointer none] 64)) 64 #[.string ⟨#[102]⟩, .int .i64 0, .slice none 0 0, .pointer none, .pointer none]).alloc (.cells #[.string ⟨#[]⟩, .int .i64 (lv : Int), .slice none 0 0, .pointer (some ⟨w.heap.size, 0, none⟩), .pointer (some ⟨w.heap.size + 1, 0, none⟩)] 64)
        rw [World.size_alloc] at this
        exact this
    have hCT0h := Lib.hid hCT0
    clear hCT0 c0 c0l hga
    go_loopw [22] (fun i wr => ∃ (acc : Bo) (rest : Ty) (As : Option Addr) (cs : Nat) (ps : Nat → Nat), i = .int .i64 (acc.np : Int) ∧ acc.np ≤ t.args.length ∧ rest.args = t.args.drop acc.np ∧ etas rest acc (n + acc.np) (n + t.args.length) = etas t (.hd lv) n (n + t.args.length) ∧ CT w wr (w.heap.size + 1 + 1) lv acc As cs ps)
      (fun i _ => t.args.length - (intOf i).toNat)
    case atStart => exact ⟨.hd lv, t, none, 0, fun _ => 0, rfl, Nat.zero_le _, rfl, rfl, hCT0h.out⟩
    case round =>
      obtain ⟨acc, rest, As, cs, ps, rfl, hjl, hrest, het, hC⟩ := hrel
      have hout := hC.out
      have o1 := hout.cell 2
      have o1f := hout.free 2
      have o1l := hout.lt
      have hqw := hqb.out wr hC.gr
      have p1 := hqw.cell 0
      have p1l := hqw.lt
      simp only [List.getElem?_toArray, List.getElem?_cons_zero, List.getElem?_cons_succ] at o1 p1
      by_cases hlt : acc.np < t.args.length
      · cases rest with
        | b => have := congrArg List.length hrest; simp [Ty.args] at this; omega
        | arr a c =>
          have hdr : t.args.drop acc.np = a :: c.args := hrest.symm
          have haj : t.args[acc.np]? = some a := by
            have := congrArg (fun l => l[0]?) hdr
            simpa using this
          have hcr : c.args = t.args.drop (acc.np + 1) := by
            have := congrArg (List.drop 1) hdr
            simpa [List.drop_drop, Nat.add_comm] using this.symm
          have ham := Ty.atoms_of_args (List.mem_of_getElem? haj)
          have har := args_room (List.mem_of_getElem? haj)
          have hka := hkid.out wr hC.gr acc.np a haj
          obtain ⟨g, o, rfl, _, hcc⟩ := (hAh.out wr hC.gr) (by omega)
          have cj := hcc acc.np hlt
          have hR := fun (W : World) (hW : wr.grownBy W none) => ihh.out a (qs acc.np) (n + acc.np) (n + t.args.length) F W (by omega) (by omega) (by omega) (by omega) (hka.grown0 hW)
          rw [show ((n + acc.np : Nat) : Int) = (n : Int) + (acc.np : Int) by omega, show ((n + t.args.length : Nat) : Int) = (n : Int) + (t.args.length : Int) by omega] at hR
          have hRh := Lib.hid hR
          have hCh := Lib.hid hC
          have hownh := Lib.hid hC.own
          have hoKh := Lib.hid (fun (W : World) (hW : wr.grownBy W none) => show W.cell? ⟨w.heap.size + 1 + 1, 2, none⟩ = some (.slice As acc.np cs) ∧ w.heap.size + 1 + 1 < W.heap.size from ⟨(hout.grown0 hW).cell 2, (hout.grown0 hW).lt⟩)
          have hpKh := Lib.hid (fun (W : World) (hW : w.grownBy W none) => show W.cell? ⟨q, 0, none⟩ = some (.slice (some ⟨g, o, none⟩) t.args.length cp) from (hqb.out W hW).cell 0)
          have hgw0 := Lib.hid hC.gr
          have hgd := gr_drew (gr_refl wr none)
          have hbase := hC.out.lt
          have hdrh := Lib.hid hdr
          have hcrh := Lib.hid hcr
          have heth := Lib.hid het
          have hw1 : IntKind.i64.wrap ((n : Int) + (acc.np : Int)) = (n : Int) + (acc.np : Int) := IntWalk.i64_in _ (by omega)
          have hw2 : IntKind.i64.wrap ((n : Int) + (t.args.length : Int)) = (n : Int) + (t.args.length : Int) := IntWalk.i64_in _ (by omega)
          clear hR hC hout hqw hdr hcr het hka hcc haj hrest
          go_wp2_with fail
          go_region_law (first
            | (rw [if_pos (by rfl)]; refine wp_app _ _ 62 rfl (w.heap.size + 1 + 1 + 1) 42 (.pointer none) 8 Tryd.underlying62 info_pbody rfl As cs acc.np _ rfl hown7 (some ⟨w6.heap.size, 0, none⟩) 1 1 _ rfl Al hsl7 (fun _ _ => rfl) (by unfold maxLen; omega) (by omega) hbs7 (acc.np + 1) rfl ?_; intro A8 c8 w8 hown8 hg8 hat8; have hb8 := (((hCh.out.out).grown0 hg06).alloc (.cells #[bptr q6] 42)).grown hg8 (fun e => by have := (hownh.out.lt _ e.symm).1; omega); have x8 := hb8.cell 2; have x8f := hb8.free 2; have x8l := hb8.lt; simp only [List.getElem?_toArray, List.getElem?_cons_zero, List.getElem?_cons_succ] at x8; have hg8w := gr_ownP (gr_alloc (gr_trans hgw0.out hg06) (.cells #[bptr q6] 42)) hown7 (show w.heap.size ≤ w.heap.size + 1 + 1 + 1 by omega) hg8; have hg9 := gr_set hg8w (p := ⟨w.heap.size + 1 + 1, 2, none⟩) (.inr (show w.heap.size ≤ w.heap.size + 1 + 1 by omega)) (.slice A8 (acc.np + 1) c8))
            | (go_simp; go_at_call 19; refine (hRh.out _ hgd).mono ?_; rintro e w6 ⟨q6, rfl, hb6, hg6⟩; have hg06 := gr_trans hgd hg6; have x6 := (hoKh.out w6 hg06).1; have x7 := hoKh.out _ (gr_alloc hg06 (.cells #[bptr q6] 42)); unfold bptr at x7; have hown7 := own_keep (own_keep hownh.out hg06) (World.grownBy_alloc w6 (.cells #[bptr q6] 42) none); have hsl7 := sl_one w6 42 (bptr q6); have hbs7 : w.heap.size + 1 + 1 + 1 ≤ (w6.alloc (.cells #[bptr q6] 42)).heap.size := (hoKh.out _ (gr_alloc hg06 (.cells #[bptr q6] 42))).2))
          all_goals
            have hC9 := CT.push hCh.out hg06 hb6 hown8 hg8 hat8
            go_wp2_with fail
            go_roundw
            case rel => exact ⟨.sn acc (eta a (n + acc.np) (n + t.args.length)), c, A8, c8, fun i => if i = acc.np then q6 else ps i, by show Value.int .i64 ((acc.np : Int) + 1) = .int .i64 ((acc.np + 1 : Nat) : Int); go_num, by show acc.np + 1 ≤ _; omega, hcrh.out, heth.out, hC9⟩
            case measure => simp [intOf]; omega
      · have hfull : acc = etas t (.hd lv) n (n + t.args.length) := by
          rw [← het]
          cases rest with
          | b => rfl
          | arr a c => have := congrArg List.length hrest; simp [Ty.args] at this; omega
        have hB := Lib.hid (show BodyP wr (Fr w.heap.size) (w.heap.size + 1 + 1) (eta t lv n) by unfold eta; rw [← hfull]; exact hC.done)
        have hgw := hC.gr
        clear hC hout hfull het hrest
        go_wp2_with fail
        go_ret
        exact ⟨_, rfl, hB.out, hgw⟩
end Go.Proofs.YtlehnlfgjadleaaDoor
