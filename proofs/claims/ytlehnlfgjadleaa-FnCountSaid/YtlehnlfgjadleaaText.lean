/- The program's text of a type: a range over slices.Backward. -/
import Derived.Test.YtlehnlfgjadleaaKind2
import Derived.Test.YtlehnlfgjadleaaStr
import Derived.RangeFuncNested
import Derived.RangeFuncBound
import Derived.RangeFuncCalls
import Derived.RangeFuncLeaves
import Derived.RangeFuncBox
import Derived.Shelf.Abstract
import Derived.Shelf.RegionOpen
import Derived.OwnWalkIn
import Derived.TacticsInMore
import Derived.LoopNIn
import Derived.LoopIn
namespace Go.Proofs.Ytlehnlfgjadleaa
open Go.RowKit Go.Shelf

attribute [local go_sem] Oper.semAt_some

/-- What lay at the start, but for one block, lies as it lay. -/
def KpX (n1 B0 : Nat) (W W' : World) : Prop := W.heap.size ≤ W'.heap.size ∧ ∀ b, b < n1 → b ≠ B0 → b < W.heap.size → W'.heap[b]? = W.heap[b]?
theorem KpX.refl (n1 B0 : Nat) (W : World) : KpX n1 B0 W W := ⟨Nat.le_refl _, fun _ _ _ _ => rfl⟩
theorem KpX.trans {n1 B0 : Nat} {A B C : World} (h : KpX n1 B0 A B) (k : KpX n1 B0 B C) : KpX n1 B0 A C := ⟨Nat.le_trans h.1 k.1, fun b hb hn hl => (k.2 b hb hn (Nat.lt_of_lt_of_le hl h.1)).trans (h.2 b hb hn hl)⟩
theorem KpX.cell {n1 B0 : Nat} {W W' : World} (h : KpX n1 B0 W W') {p : Addr} {v : Value} (hb : p.block < n1) (hn : p.block ≠ B0) (hv : W.cell? p = some v) : W'.cell? p = some v := (World.cell?_of_block (w := W) (h.2 p.block hb hn (World.block_lt_of_cell? W p hv))).trans hv

/-- The indexes below len, from the last one down, k of them. -/
def dn (len : Nat) : (k : Nat) → k ≤ len → List (Fin len)
  | 0, _ => []
  | k + 1, h => dn len k (by omega) ++ [⟨len - 1 - k, by omega⟩]

theorem dn_length (len : Nat) : ∀ (k : Nat) (h : k ≤ len), (dn len k h).length = k
  | 0, _ => rfl
  | k + 1, h => by rw [dn, List.length_append, dn_length len k]; rfl

set_option maxRecDepth 100000 in
set_option maxHeartbeats 2000000 in
/-- The closure of slices.Backward: 'for i := len(s) - 1; i >= 0; i-- { if !yield(i, s[i]) { return } }'. -/
theorem bw1_in (F : Fence) (n : Nat) (hf : F.fn 51) (hro : F.round = none) (hn : 1 ≤ n) (l Bs n1 B0 len cap : Nat) (A : Option Addr) (qs : Nat → Nat) (hlen : len ≤ 1099511627776) (hBs1 : Bs < n1) (hBs2 : Bs ≠ B0)
    (J Jx : List (Fin len) → World → Prop)
    (hY : ∀ pre x W, J pre W → pre.length < len → YieldAt F (n - 1) Try.prog l #[.int .i64 ((x.1 : Nat) : Int), .pointer (some ⟨qs x.1, 0, none⟩)] W fun e W' =>
      (e = .returned (.bool true) ∧ J (pre ++ [x]) W' ∧ KpX n1 B0 W W') ∨ (e = .returned (.bool false) ∧ Jx (pre ++ [x]) W'))
    (W : World) (hBs : W.cell? ⟨Bs, 0, none⟩ = some (.slice A len cap)) (hS : 0 < len → ∃ g o, A = some ⟨g, o, none⟩ ∧ g < n1 ∧ g ≠ B0 ∧ ∀ i, i < len → W.cell? ⟨g, o + i, none⟩ = some (.pointer (some ⟨qs i, 0, none⟩))) (h0 : J [] W) :
    CallsIn F n Try.prog 51 #[.func (.yield l) #[] #[], .pointer (some ⟨Bs, 0, none⟩)] W fun e W' => (∃ v, e = .returned v) ∧
      ((∃ ys, ys = dn len len (Nat.le_refl _) ∧ J ys W') ∨ (∃ pre, (∃ (k : Nat) (h : k ≤ len), pre = dn len k h) ∧ Jx pre W')) := by
  refine callsIn_of_wp Try.func51 rfl hf ?_ hro
  simp only [Try.ntmps51, List.size_toArray, List.length_cons, List.length_nil, Nat.reduceAdd, Nat.reduceSub, Array.replicate_succ, Array.replicate_zero, List.push_toArray, List.append_toArray, List.nil_append, List.cons_append]
  gi_wp2
  gi_loopw [3] (fun i wr => ∃ (k : Nat) (h : k ≤ len), i = .int .i64 ((len : Int) - 1 - (k : Int)) ∧ J (dn len k h) wr ∧ KpX n1 B0 W wr)
    (fun i _ => (intOf i + 1).toNat)
  case atStart => exact ⟨0, Nat.zero_le _, by simp, h0, KpX.refl _ _ _⟩
  case round =>
    obtain ⟨k, hk, rfl, hJs, hnx⟩ := hrel
    have hbx := hnx.cell (p := ⟨Bs, 0, none⟩) hBs1 hBs2 hBs
    by_cases hlt : k < len
    · obtain ⟨g, o, rfl, hg1, hg2, hcell⟩ := hS (by omega)
      obtain ⟨i, hil, hik⟩ : ∃ i, ∃ _ : i < len, i = len - 1 - k := ⟨_, by omega, rfl⟩
      obtain ⟨fn, tmps, assign, body, hy, hR⟩ := hY _ ⟨i, hil⟩ wr hJs (by rw [dn_length]; exact hlt)
      dsimp only at hy
      have hck := hnx.cell (p := ⟨g, o + i, none⟩) hg1 hg2 (hcell i hil)
      have e1 : ((len : Int) - 1 - (k : Int)) = (i : Int) := by omega
      rw [e1]
      have hikh := Lib.hid hik
      have e1h := Lib.hid e1
      clear e1 hik
      gi_wp2
      refine hR.mono ?_
      rintro e W3 (⟨rfl, hJ3, hk3⟩ | ⟨rfl, hJx3⟩)
      · gi_wp2
        go_roundw
        case rel => exact ⟨k + 1, by omega, by rw [← e1h.out]; go_num, by have h := hikh.out; subst h; exact hJ3, hnx.trans hk3⟩
        case measure => rw [← e1h.out]; simp [intOf]; omega
      · gi_wp2
        refine bodyPost_ret (results_none rfl _ _ _) rfl ?_
        exact ⟨⟨_, rfl⟩, .inr ⟨_, ⟨k + 1, by omega, by have h := hikh.out; subst h; rfl⟩, hJx3⟩⟩
    · obtain rfl : k = len := by omega
      gi_wp2
      go_end0
      exact ⟨⟨_, rfl⟩, .inl ⟨_, rfl, hJs⟩⟩

set_option maxHeartbeats 1000000 in
/-- slices.Backward(s): the slice is boxed; the function value captures the box. -/
theorem bw_in (F : Fence) (n : Nat) (hf : F.fn 46) (hro : F.round = none) (A : Option Addr) (len cap : Nat) (w : World) :
    CallsIn F n Try.prog 46 #[.slice A len cap] w fun e w' => e = .returned (.func (.func 51) #[] #[.pointer (some ⟨w.heap.size, 0, none⟩)]) ∧ w.alloc (.cells #[.slice A len cap] 47) = w' := by
  refine callsIn_of_wp Try.func46 rfl hf ?_ hro
  simp only [Try.ntmps46, List.size_toArray, List.length_cons, List.length_nil, Nat.reduceAdd, Nat.reduceSub, Array.replicate_succ, Array.replicate_zero, List.push_toArray, List.append_toArray, List.nil_append, List.cons_append]
  gi_wp2
  go_ret
  exact ⟨rfl, rfl⟩

/-- slices.Backward's value, as the law of a range over a function asks. -/
theorem bw_stops (F : Fence) (n : Nat) (hf : F.fn 51) (hro : F.round = none) (hn : 1 ≤ n) (Bs n1 B0 len cap : Nat) (A : Option Addr) (qs : Nat → Nat) (hlen : len ≤ 1099511627776) (w : World) (hBs1 : Bs < n1) (hBs2 : Bs ≠ B0) (hn1 : n1 ≤ w.heap.size)
    (hBs : w.cell? ⟨Bs, 0, none⟩ = some (.slice A len cap)) (hS : 0 < len → ∃ g o, A = some ⟨g, o, none⟩ ∧ g < n1 ∧ g ≠ B0 ∧ ∀ i, i < len → w.cell? ⟨g, o + i, none⟩ = some (.pointer (some ⟨qs i, 0, none⟩))) :
    SeqStopsK F n Try.prog 51 #[.pointer (some ⟨Bs, 0, none⟩)] (fun x : Fin len => #[Value.int .i64 ((x.1 : Nat) : Int), Value.pointer (some ⟨qs x.1, 0, none⟩)]) (KpX n1 B0) (fun ys => ys = dn len len (Nat.le_refl _))
      (fun pre => ∃ (k : Nat) (h : k ≤ len), pre = dn len k h) len w := fun l J Jx W hW _ _ hY h0 =>
  bw1_in F n hf hro hn l Bs n1 B0 len cap A qs hlen hBs1 hBs2 J Jx hY W ((hW.cell (p := ⟨Bs, 0, none⟩) (Nat.lt_of_lt_of_le hBs1 hn1)).trans hBs)
    (fun h => by
      obtain ⟨g, o, e, h1, h2, h3⟩ := hS h
      exact ⟨g, o, e, h1, h2, fun i hi => (hW.cell (p := ⟨g, o + i, none⟩) (Nat.lt_of_lt_of_le h1 hn1)).trans (h3 i hi)⟩) h0

/-- The text of the function type of some arguments. -/
def sufT : List Ty → List UInt8
  | [] => [98]
  | a :: l => 40 :: 62 :: 32 :: (a.text ++ 32 :: (sufT l ++ [41]))
theorem text_args (t : Ty) : t.text = sufT t.args := by
  induction t with
  | b => rfl
  | arr a c _ ihc => simp only [Ty.text, Ty.args, sufT, ihc]

/-- What 'out' holds when these have come. -/
def outF (ts : List Ty) (l : List (Fin ts.length)) : List UInt8 := l.foldl (fun o i => 40 :: 62 :: 32 :: ((ts[i.1]).text ++ 32 :: (o ++ [41]))) [98]
theorem outF_snoc (ts : List Ty) (l : List (Fin ts.length)) (i : Fin ts.length) : outF ts (l ++ [i]) = 40 :: 62 :: 32 :: ((ts[i.1]).text ++ 32 :: (outF ts l ++ [41])) := by simp [outF]
theorem outF_dn (ts : List Ty) : ∀ (k : Nat) (h : k ≤ ts.length), outF ts (dn ts.length k h) = sufT (ts.drop (ts.length - k))
  | 0, _ => by rw [Nat.sub_zero, List.drop_length]; rfl
  | k + 1, h => by
    rw [dn, outF_snoc, outF_dn ts k]
    have e : ts.length - (k + 1) = ts.length - 1 - k := by omega
    have e2 : ts.length - k = ts.length - 1 - k + 1 := by omega
    rw [e, List.drop_eq_getElem_cons (by omega : ts.length - 1 - k < ts.length), sufT, e2]

theorem outF_length (ts : List Ty) (B : Nat) (h : ∀ i : Fin ts.length, (ts[i.1]).text.length ≤ B) : ∀ l : List (Fin ts.length), (outF ts l).length ≤ 1 + l.length * (B + 5) := by
  intro l
  suffices H : ∀ (l : List (Fin ts.length)) (o : List UInt8), (l.foldl (fun o i => 40 :: 62 :: 32 :: ((ts[i.1]).text ++ 32 :: (o ++ [41]))) o).length ≤ o.length + l.length * (B + 5) from H l [98]
  intro l
  induction l with
  | nil => intro o; simp
  | cons i l ih =>
    intro o
    rw [List.foldl_cons]
    refine Nat.le_trans (ih _) ?_
    have := h i
    simp only [List.length_cons, List.length_append, List.length_nil, Nat.add_mul]
    omega

set_option maxRecDepth 100000 in
set_option maxHeartbeats 4000000 in
theorem text_step (m : Nat) (ih : ∀ (t : Ty) (q : Nat) (F : Nat → Prop) (w : World), t.atoms ≤ m → t.atoms ≤ 1000000 → KindP w F q t → Calls Try.prog 41 #[.pointer (some ⟨q, 0, none⟩)] w fun e w' => e = .returned (.string ⟨t.text.toArray⟩) ∧ w.grownBy w' none)
    (t : Ty) (q : Nat) (F : Nat → Prop) (w : World) (hm : t.atoms ≤ m + 1) (hb : t.atoms ≤ 1000000) (hk : KindP w F q t) :
    CallsIn Fence.wide 9 Try.prog 41 #[.pointer (some ⟨q, 0, none⟩)] w fun e w' => e = .returned (.string ⟨t.text.toArray⟩) ∧ w.grownBy w' none := by
  obtain ⟨A, cp, qs, hblk, hA, hs⟩ := hk.open_
  have hc := hblk.cell 0
  simp only [List.getElem?_toArray, List.getElem?_cons_zero] at hc
  have hq := hblk.lt
  have hal := t.length_args
  have ihh := Lib.hid ih
  have hsh := Lib.hid hs
  clear ih hs
  refine callsIn_of_wp_marks Try.func41 rfl trivial ?_ rfl
  simp only [Try.ntmps41, List.size_toArray, List.length_cons, List.length_nil, Nat.reduceAdd, Nat.reduceSub, Array.replicate_succ, Array.replicate_zero, List.push_toArray, List.append_toArray, List.nil_append, List.cons_append]
  gi_wp2_with (refine ⟨trivial, ?_⟩; gi_at_call 46; refine (bw_in Fence.wide (9 - 1) trivial rfl _ _ _ _).mono ?_; rintro e w' ⟨rfl, rfl⟩)
  have bO := Boxed.new w 9 (.string ⟨#[98]⟩)
  have bN := Boxed.new (w.alloc (.cells #[.string ⟨#[98]⟩] 9)) 47 (.slice A t.args.length cp)
  rw [World.size_alloc] at bN
  have hB0 : Below w.heap.size w ((w.alloc (.cells #[.string ⟨#[98]⟩] 9)).alloc (.cells #[.slice A t.args.length cp] 47)) := ((Below.refl _ w).alloc (Nat.le_refl _) _).alloc (by simp) _
  have hS : 0 < t.args.length → ∃ g o, A = some ⟨g, o, none⟩ ∧ g < w.heap.size + 2 ∧ g ≠ w.heap.size ∧ ∀ i, i < t.args.length → ((w.alloc (.cells #[.string ⟨#[98]⟩] 9)).alloc (.cells #[.slice A t.args.length cp] 47)).cell? ⟨g, o + i, none⟩ = some (.pointer (some ⟨qs i, 0, none⟩)) := by
    intro h
    obtain ⟨g, o, e, _, hcell⟩ := hA h
    have hg : g < w.heap.size := World.block_lt_of_cell? w ⟨g, o + 0, none⟩ (hcell 0 h)
    exact ⟨g, o, e, by omega, by omega, fun i hi => (hB0.cell (p := ⟨g, o + i, none⟩) hg).trans (hcell i hi)⟩
  refine wpIn_rangeFunc_ownG (F := Fence.wide) rfl (by decide) (gf := 51) (lb := #[.pointer (some ⟨w.heap.size + 1, 0, none⟩)]) rfl trivial (enters_of Try.func51 (by kernel_rfl) rfl)
    (bw_stops Fence.wide (9 - 1) trivial rfl (by decide) (w.heap.size + 1) (w.heap.size + 2) w.heap.size t.args.length cp A qs (by omega) _ (by omega) (by omega) (by simp) bN.cell hS)
    (fun h k => h.trans k) (fun W l o o' hl _ _ _ => ⟨by simp, fun b hb _ _ => World.putObj_heap_other (by simp at hl; omega)⟩) (Below.refl _ _) (fun _ => rfl)
    (fun pre W => (W.cell? ⟨w.heap.size, 0, none⟩ = some (.string ⟨(outF t.args pre).toArray⟩) ∧ W.frozen? ⟨w.heap.size, 0, none⟩ = false) ∧ Below w.heap.size w W)
    (fun _ _ _ => False)
    (OwnFrom.and (Own.from (fun s A B row hs hg hr => ⟨cell_kept hs.1 hg hr, (frozen_kept hs.1 hg hr).trans hs.2⟩) _) (ownFrom_below (Nat.le_refl _) (by simp; omega)))
    (fun _ _ _ _ _ hs _ _ => hs)
    ⟨⟨(bO.alloc _).cell, (bO.alloc _).frozen⟩, hB0⟩
    (fun x => { tmps := #[.pointer (some ⟨q, 0, none⟩), undef, .string ⟨#[]⟩, .pointer (some ⟨w.heap.size, 0, none⟩), undef, .pointer (some ⟨qs x.1, 0, none⟩), .pointer (some ⟨q, 0, none⟩), .pointer (some ⟨q, 0, none⟩), .pointer (some ⟨q, 0, none⟩), .slice A t.args.length cp, .func (.func 51) #[] #[.pointer (some ⟨w.heap.size + 1, 0, none⟩)], .int .i64 ((x.1 : Nat) : Int), .pointer (some ⟨qs x.1, 0, none⟩), undef, undef, undef, undef, undef, undef, undef, undef], defers := [] }) ?assign ?body ?done ?stop
  case assign =>
    intro l x W K hK
    gi_wp2
    exact hK
  case body =>
    rintro l pre x W ⟨⟨hcO, hfO⟩, hB⟩ hpre
    have hxt : (t.args[x.1]).text.length ≤ 3000000 := by
      have h1 := Ty.length_text (t.args[x.1])
      have h2 := Ty.atoms_of_args (List.getElem_mem x.2)
      omega
    have hol : (outF t.args pre).length ≤ 1000000000000000 := by
      have h := outF_length t.args 3000000 (fun i => by
        have h1 := Ty.length_text (t.args[i.1])
        have h2 := Ty.atoms_of_args (List.getElem_mem i.2)
        omega) pre
      have h3 : pre.length * (3000000 + 5) ≤ 1000000 * (3000000 + 5) := Nat.mul_le_mul_right _ (by omega)
      omega
    have hd : 1 ≤ 9 - 1 - 1 := by decide
    have hmx : Try.prog.follows .mixedOrders = true := by kernel_rfl
    have hxa := Ty.atoms_of_args (List.getElem_mem x.2)
    have hkx := ((hsh.out x.1 _ (List.getElem?_eq_getElem x.2)).grown0 (gr_below hB)).grown0 (gr_drew (gr_refl W none))
    have c1 := ihh.out (t.args[x.1]) (qs x.1) F W.drew (by omega) (by omega) hkx
    have c1h := Lib.hid c1
    have hkh := Lib.hid hkx
    have hszB := hB.size
    have hwW : w.heap.size < W.heap.size := World.block_lt_of_cell? W ⟨w.heap.size, 0, none⟩ hcO
    clear c1 hkx
    have eS : (⟨#[40, 62, 32]⟩ : ByteArray) ++ ⟨(t.args[x.1]).text.toArray⟩ ++ ⟨#[32]⟩ ++ ⟨(outF t.args pre).toArray⟩ ++ ⟨#[41]⟩ = ⟨(outF t.args (pre ++ [x])).toArray⟩ := by
      rw [show (⟨#[40, 62, 32]⟩ : ByteArray) = ⟨([40, 62, 32] : List UInt8).toArray⟩ from rfl, show (⟨#[32]⟩ : ByteArray) = ⟨([32] : List UInt8).toArray⟩ from rfl, show (⟨#[41]⟩ : ByteArray) = ⟨([41] : List UInt8).toArray⟩ from rfl, ba_app, ba_app, ba_app, ba_app, outF_snoc]
      simp
    have fin : ∀ w', W.drew.grownBy w' none → KeepsFrom ((w.alloc (.cells #[.string ⟨#[98]⟩] 9)).alloc (.cells #[.slice A t.args.length cp] 47)).heap.size W (w'.setCell ⟨w.heap.size, 0, none⟩ (.string ⟨(outF t.args (pre ++ [x])).toArray⟩)) ∧
        KpX (w.heap.size + 2) w.heap.size W (w'.setCell ⟨w.heap.size, 0, none⟩ (.string ⟨(outF t.args (pre ++ [x])).toArray⟩)) ∧
        ((w'.setCell ⟨w.heap.size, 0, none⟩ (.string ⟨(outF t.args (pre ++ [x])).toArray⟩)).cell? ⟨w.heap.size, 0, none⟩ = some (.string ⟨(outF t.args (pre ++ [x])).toArray⟩) ∧ (w'.setCell ⟨w.heap.size, 0, none⟩ (.string ⟨(outF t.args (pre ++ [x])).toArray⟩)).frozen? ⟨w.heap.size, 0, none⟩ = false) ∧
        Below w.heap.size w (w'.setCell ⟨w.heap.size, 0, none⟩ (.string ⟨(outF t.args (pre ++ [x])).toArray⟩)) := by
      intro w' hgw
      have hg1 : W.grownBy w' none := gr_trans (gr_drew (gr_refl W none)) hgw
      have hg2 := gr_set (gr_weak hg1 (some w.heap.size)) (p := ⟨w.heap.size, 0, none⟩) (.inl rfl) (.string ⟨(outF t.args (pre ++ [x])).toArray⟩)
      have hcw := (World.cell?_of_block (w := W) (a := ⟨w.heap.size, 0, none⟩) (hgw.block w.heap.size hwW (by simp))).trans hcO
      have hfw := (World.frozen?_of_block (w := W) (a := ⟨w.heap.size, 0, none⟩) (hgw.block w.heap.size hwW (by simp))).trans hfO
      refine ⟨KeepsFrom.of_grownBy hg2 (fun j e => by cases e; simp; omega), ⟨hg2.size, fun b _ hn hbW => hg2.block b hbW (by simpa using hn)⟩, ⟨World.cell?_setCell_same' _ _ _ (by rw [hcw]; rfl), by rw [World.frozen?_setCell]; exact hfw⟩, below_gr (gr_set (gr_trans (gr_below hB) hg1) (.inr (Nat.le_refl _)) _)⟩
    have eSh := Lib.hid eS
    have finh := Lib.hid fin
    clear eS fin
    gi_wp2
    gi_region_with_o (refine ⟨trivial, ?_⟩; gi_at_call 41; refine (CallsIn.inRound l (callsIn_wide.2 c1h.out)).mono ?_; rintro e w' ⟨rfl, hgw⟩; have hcw := (World.cell?_of_block (w := W) (a := ⟨w.heap.size, 0, none⟩) (hgw.block w.heap.size hwW (by simp))).trans hcO; have hfw := (World.frozen?_of_block (w := W) (a := ⟨w.heap.size, 0, none⟩) (hgw.block w.heap.size hwW (by simp))).trans hfO)
    all_goals gi_wp2
    all_goals rw [eSh.out]
    all_goals exact finh.out _ hgw
  case done =>
    rintro D ys W hD rfl ⟨⟨hcO, _⟩, hB⟩ hK
    have hO := Lib.hid (outF_dn t.args t.args.length (Nat.le_refl _))
    gi_wp2
    refine ⟨by simp, .inl ⟨_, _, rfl, run_takeDeferred hK, ?_⟩⟩
    refine ⟨_, results_tmp rfl _ _ _, ?_, gr_below (hB.trans (belowK_b (w := w) (Nat.le_refl _) W D _ _ (by simp at hD; omega) hK rfl rfl))⟩
    rw [text_args]
    have h := hO.out
    rw [Nat.sub_self, List.drop_zero] at h
    rw [← h]
    rfl
  case stop =>
    rintro D c pre W _ _ h _
    exact h.elim

theorem text_any (m : Nat) : ∀ (t : Ty) (q : Nat) (F : Nat → Prop) (w : World), t.atoms ≤ m → t.atoms ≤ 1000000 → KindP w F q t →
    Calls Try.prog 41 #[.pointer (some ⟨q, 0, none⟩)] w fun e w' => e = .returned (.string ⟨t.text.toArray⟩) ∧ w.grownBy w' none := by
  induction m with
  | zero => intro t q F w h; have := t.atoms_pos; omega
  | succ m ih => exact fun t q F w hm hb hk => callsIn_wide.1 (text_step m ih t q F w hm hb hk)
end Go.Proofs.Ytlehnlfgjadleaa
