/- The reference's types at hand. -/
import Derived.Test.YtlehnlfgjadleaaDoorNV
import Derived.Deep.QuietTactic
import Derived.BigQuiet
import Derived.Deep.RegionHeld3
import Derived.Deep.DrawnRows
namespace Go.Proofs.YtlehnlfgjadleaaDoor
open Go.RowKit

/-- Types at hand, by value. -/
def HandV (w : World) (F : Nat → Prop) (A : Option Addr) (hand : List Ty) : Prop :=
  ∃ vs : Nat → Value, Sl w F A hand.length vs ∧ ∀ i k, hand[i]? = some k → TreeV w F (vs i) k
theorem HandV.keep {w w' : World} {F : Nat → Prop} {A : Option Addr} {hand : List Ty} (h : HandV w F A hand) (hk : ∀ b, F b → b < w.heap.size → w'.heap[b]? = w.heap[b]?) : HandV w' F A hand :=
  let ⟨vs, h1, h2⟩ := h; ⟨vs, h1.keep hk, fun i k hi => (h2 i k hi).keep hk⟩
theorem HandV.mono {w : World} {F G : Nat → Prop} {A : Option Addr} {hand : List Ty} (h : HandV w F A hand) (hm : ∀ b, F b → b < w.heap.size → G b) : HandV w G A hand :=
  let ⟨vs, h1, h2⟩ := h; ⟨vs, h1.mono hm, fun i k hi => (h2 i k hi).mono hm⟩
theorem HandV.grown0 {w w' : World} {F : Nat → Prop} {A : Option Addr} {hand : List Ty} (h : HandV w F A hand) (hg : w.grownBy w' none) : HandV w' F A hand := h.keep fun b _ hl => hg.block b hl (by simp)
theorem HandV.of_tree {w : World} {F : Nat → Prop} {A : Option Addr} {c : Nat} {k : Ty} (h : TreeV w F (.slice A k.args.length c) k) : HandV w F A k.args := by
  obtain ⟨_, _, vs, e, h1, h2⟩ := h.open_
  cases e
  exact ⟨vs, h1, h2⟩
theorem HandV.one {w : World} {F : Nat → Prop} {hand : List Ty} {vs : Nat → Value} (h2 : ∀ i k, hand[i]? = some k → TreeV w F (vs i) k) : ∀ j, j < hand.length → (vs j).oneCell' = true := fun j hj => by
  obtain ⟨A, c, vs', e, _⟩ := (h2 j _ (List.getElem?_eq_getElem hj)).open_
  rw [e]; rfl
theorem info_tr : (Tryd.prog.info? 29).map (fun i => (i.zero, i.size, i.bytes)) = some (some (.agg #[.slice none 0 0]), 1, 24) := by kernel_rfl
/-- append at an operation: m one-cell elements onto a row of the call's own. -/
theorem wp_app {P : Program} {w : World} {o : Oper} {a : Act} {K : Act → World → Prop} {Q : Exit → Act → World → Prop} (s x : Operand) (t : TypeId)
    (ho : o.op = .call { callee := .builtin .append, args := #[s, x], argTypes := #[t, t] })
    (base : Nat) (e : TypeId) (z : Value) (bytes : Nat) (ht : P.underlying t = some (.slice e)) (hi : (P.info? e).map (fun i => (i.zero, i.size, i.bytes)) = some (some z, 1, bytes)) (hzs : z.cells.size = 1)
    (A0 : Option Addr) (cap0 n : Nat) (xs : List Value) (hs : a.eval s = .slice A0 n cap0) (hown : w.ownsRow base e 1 (.slice A0 n cap0) n xs)
    (A : Option Addr) (m c : Nat) (f : Nat → Value) (hx : a.eval x = .slice A m c) (F : Nat → Prop) (hr : Sl w F A m f) (h1 : ∀ j, j < m → (f j).oneCell' = true)
    (h63 : n + m ≤ maxLen) (hbytes : (n + m) * bytes ≤ 140737488355328) (hbase : base ≤ w.heap.size) (N : Nat) (hN : n + m = N)
    (h : ∀ A' cap w', w'.ownsRow base e 1 (.slice A' N cap) N (xs ++ (List.range m).map f) → w.grownBy w' (Value.slice A0 n cap0).ownBlock →
      ((Value.slice A' N cap).ownBlock = (Value.slice A0 n cap0).ownBlock ∨ (Value.slice A' N cap).ownBlock = some w.heap.size) → K (a.put o.dst (.slice A' N cap)) w') :
    o.wp P a w K Q := by
  subst hN
  obtain ⟨i, hi, hz, h1s, hb⟩ := info_parts hi
  obtain ⟨A', cap, w', hrun, h2, h3, h4⟩ := run_app (P := P) w base t o.type e i z bytes ht hi hz h1s hb hzs A0 cap0 n xs hown A m c f F hr h1 h63 hbytes hbase
  unfold Oper.wp execOp
  simp only [ho, resolve, invoke, builtin, Sem.run_bind, Sem.run_pure, Result.andThen_ok, List.map_toArray, List.map_cons, List.map_nil, hs, hx, hrun]
  exact h A' cap w' h2 h3 h4
theorem gr_ownb {w0 w1 w2 : World} {b : Nat} {e : TypeId} {v : Value} {n : Nat} {xs : List Value} (h : w0.grownBy w1 none) (hown : w1.ownsRow b e 1 v n xs) (hb : w0.heap.size ≤ b) (hg : w1.grownBy w2 v.ownBlock) : w0.grownBy w2 none := by
  cases hv : v.ownBlock with
  | none => rw [hv] at hg; exact gr_trans h hg
  | some g => rw [hv] at hg; exact gr_trans_new h hg (Nat.le_trans hb (own_base hown hv))
theorem handV_app {w : World} {F : Nat → Prop} {base cap : Nat} {A' : Option Addr} {hand more : List Ty} {vs us : Nat → Value} (hF : ∀ b, base ≤ b → F b)
    (hown : w.ownsRow base 29 1 (.slice A' (hand ++ more).length cap) (hand ++ more).length ((List.range hand.length).map vs ++ (List.range more.length).map us))
    (h1 : ∀ i k, hand[i]? = some k → TreeV w F (vs i) k) (h2 : ∀ i k, more[i]? = some k → TreeV w F (us i) k) : HandV w F A' (hand ++ more) := by
  obtain ⟨A'', cap'', e, hs⟩ := own_form hown
  cases e
  refine ⟨_, hs F (fun g hg => hF g (own_base hown hg)), fun i k hk => ?_⟩
  by_cases hi : i < hand.length
  · rw [List.getElem?_append_left hi] at hk
    have : ((List.range hand.length).map vs ++ (List.range more.length).map us).getD i default = vs i := by simp [List.getD, hi, List.getElem?_append_left]
    rw [this]
    exact h1 i k hk
  · rw [List.getElem?_append_right (by omega)] at hk
    have hl := (List.getElem?_eq_some_iff.1 hk).1
    have : ((List.range hand.length).map vs ++ (List.range more.length).map us).getD i default = us (i - hand.length) := by
      simp [List.getD, List.getElem?_append_right (show ((List.range hand.length).map vs).length ≤ i by simp; omega), hl]
    rw [this]
    exact h2 _ k hk
set_option maxHeartbeats 4000000 in
theorem l3Hand_any (hand : List Ty) (t : Ty) (A B : Option Addr) (ca cb : Nat) (F : Nat → Prop) (w : World) (hF : ∀ b, w.heap.size ≤ b → F b) (hh : HandV w F A hand) (ht : TreeV w F (.slice B t.args.length cb) t) (hl : hand.length ≤ 100000) (hl2 : t.args.length ≤ 1000) :
    Calls Tryd.prog 45 #[.slice A hand.length ca, .agg #[.slice B t.args.length cb]] w fun e w' => ∃ A' c', e = .returned (.slice A' (hand ++ t.args).length c') ∧ HandV w' F A' (hand ++ t.args) ∧ w.grownBy w' none := by
  obtain ⟨vs, hv1, hv2⟩ := hh
  obtain ⟨us, hu1, hu2⟩ := HandV.of_tree ht
  have hone := Lib.hid (HandV.one hv2)
  have hone2 := Lib.hid (HandV.one hu2)
  have hb0 := Blk.new w 29 #[.slice B t.args.length cb]
  have hg0 := World.grownBy_alloc w (.cells #[.slice B t.args.length cb] 29) none
  have hge := World.grownBy_alloc (w.alloc (.cells #[.slice B t.args.length cb] 29)) (.cells #[] 29) none
  have hsz : (w.alloc (.cells #[.slice B t.args.length cb] 29)).heap.size = w.heap.size + 1 := World.size_alloc _ _
  have hE0 := own_empty (w := (w.alloc (.cells #[.slice B t.args.length cb] 29))) (base := w.heap.size + 1) 29 (Nat.le_of_eq hsz.symm)
  rw [hsz] at hE0
  have hgd := gr_drew hge
  have hE := own_keep hE0 (gr_drew (gr_refl _ none))
  have hbE : w.heap.size + 1 ≤ ((w.alloc (.cells #[.slice B t.args.length cb] 29)).alloc (.cells #[] 29)).drew.heap.size := by show w.heap.size + 1 ≤ ((w.alloc (.cells #[.slice B t.args.length cb] 29)).alloc (.cells #[] 29)).heap.size; rw [World.size_alloc, hsz]; omega
  have hk := Lib.hid (fun W (hW : (w.alloc (.cells #[.slice B t.args.length cb] 29)).grownBy W none) => (show W.cell? ⟨w.heap.size, 0, none⟩ = some (.slice B t.args.length cb) from (hb0.grown0 hW).cell 0))
  have hlen : hand.length + t.args.length = (hand ++ t.args).length := by rw [List.length_append]
  have hv1h := Lib.hid (fun W (hW : (w.alloc (.cells #[.slice B t.args.length cb] 29)).grownBy W none) => hv1.grown0 (gr_trans hg0 hW))
  have hu1h := Lib.hid (fun W (hW : (w.alloc (.cells #[.slice B t.args.length cb] 29)).grownBy W none) => hu1.grown0 (gr_trans hg0 hW))
  have hv2h := Lib.hid (fun W (hW : (w.alloc (.cells #[.slice B t.args.length cb] 29)).grownBy W none) i k h => (hv2 i k h).grown0 (gr_trans hg0 hW))
  have hu2h := Lib.hid (fun W (hW : (w.alloc (.cells #[.slice B t.args.length cb] 29)).grownBy W none) i k h => (hu2 i k h).grown0 (gr_trans hg0 hW))
  have hlenh := Lib.hid hlen
  have hszle := Nat.le_of_eq hsz
  have hdd := gr_drew (gr_refl (w.alloc (.cells #[.slice B t.args.length cb] 29)) none)
  have hg0h := Lib.hid hg0
  clear ht hb0 hg0 hv1 hu1 hv2 hu2 hlen hsz hE0
  go_enter Tryd.func45, Tryd.ntmps45
  go_wp2_with fail
  go_region_held3 (fun W => W.cell? ⟨w.heap.size, 0, none⟩ = some (.slice B t.args.length cb))
    (first | exact hk.out _ hdd | exact hk.out _ hge | exact hk.out _ hgd | exact hk.out _ hgn4 | exact hk.out _ hgn5)
    (first
      | (rw [if_pos (by rfl)]; refine wp_app _ _ 27 rfl (w.heap.size + 1) 29 (.agg #[.slice none 0 0]) 24 Tryd.underlying27 info_tr rfl A4 c4 hand.length _ rfl hown4 B t.args.length cb us rfl F (hu1h.out _ hgn4) hone2.out (by unfold maxLen; omega) (by omega) (Nat.le_trans hbE hg4s) (hand ++ t.args).length hlenh.out ?_; intro A5 c5 w5 hown5 hg5 hat5; have hgn5 := gr_ownb hgn4 hown4 hszle hg5)
      | (rw [if_pos (by rfl)]; refine wp_app _ _ 27 rfl (w.heap.size + 1) 29 (.agg #[.slice none 0 0]) 24 Tryd.underlying27 info_tr rfl _ _ 0 _ rfl hE A hand.length ca vs rfl F (hv1h.out _ hgd) hone.out (by unfold maxLen; omega) (by omega) hbE hand.length (Nat.zero_add _) ?_; intro A4 c4 w4 hown4 hg4 hat4; simp only [List.nil_append] at hown4; have hg4s := hg4.size; have hgn4 := gr_ownb hgd hE hszle hg4))
  go_wp2_with fail
  go_ret
  exact ⟨A5, c5, by rw [← hlenh.out]; rfl, handV_app (fun b hb => hF b (by omega)) hown5 (fun i k hi => hv2h.out _ hgn5 i k hi) (fun i k hi => hu2h.out _ hgn5 i k hi), gr_trans hg0h.out hgn5⟩
end Go.Proofs.YtlehnlfgjadleaaDoor
