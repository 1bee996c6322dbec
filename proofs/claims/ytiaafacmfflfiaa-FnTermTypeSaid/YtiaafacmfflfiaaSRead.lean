/- The reference's reader of texts. -/
import Derived.Test.YtiaafacmfflfiaaSx
import Derived.Test.YtiaafacmfflfiaaType
import Derived.Test.YtiaafacmfflfiaaName
import Derived.Test.YtiaafacmfflfiaaOwn
namespace Go.Proofs.Ytiaafacmfflfiaa
open Go.RowKit

/-- The reference's tree, by value: its atom, and a slice of its parts (two cells each). -/
inductive SxV (w : World) (F : Nat → Prop) : Option Addr → Nat → Sx → Prop
  | mk (x : Sx) (A : Option Addr) (c : Nat) (As : Nat → Option Addr) (cs : Nat → Nat)
      (hA : 0 < x.parts.length → ∃ g o, A = some ⟨g, o, none⟩ ∧ F g ∧ ∀ i u, x.parts[i]? = some u → w.cell? ⟨g, o + 2 * i, none⟩ = some (.string ⟨u.atom.toArray⟩) ∧ w.cell? ⟨g, o + 2 * i + 1, none⟩ = some (.slice (As i) u.parts.length (cs i)))
      (hs : ∀ i u, x.parts[i]? = some u → SxV w F (As i) (cs i) u) : SxV w F A c x
section
variable {w w' : World} {F G : Nat → Prop} {A : Option Addr} {c : Nat} {x : Sx}
theorem SxV.keep (h : SxV w F A c x) (hk : ∀ b, F b → b < w.heap.size → w'.heap[b]? = w.heap[b]?) : SxV w' F A c x := by
  induction h with
  | mk x A c As cs hA _ ih =>
    refine .mk x A c As cs (fun hn => ?_) ih
    obtain ⟨g, o, e, hg, hc⟩ := hA hn
    refine ⟨g, o, e, hg, fun i u hu => ?_⟩
    obtain ⟨h1, h2⟩ := hc i u hu
    have hlt : g < w.heap.size := World.block_lt_of_cell? w ⟨g, o + 2 * i, none⟩ h1
    exact ⟨(World.cell?_of_block (w := w) (a := ⟨g, o + 2 * i, none⟩) (hk g hg hlt)).trans h1, (World.cell?_of_block (w := w) (a := ⟨g, o + 2 * i + 1, none⟩) (hk g hg hlt)).trans h2⟩
theorem SxV.mono (h : SxV w F A c x) (hm : ∀ b, F b → b < w.heap.size → G b) : SxV w G A c x := by
  induction h with
  | mk x A c As cs hA _ ih =>
    refine .mk x A c As cs (fun hn => ?_) ih
    obtain ⟨g, o, e, hg, hc⟩ := hA hn
    have h0 : ∃ u, x.parts[0]? = some u := ⟨_, List.getElem?_eq_getElem hn⟩
    obtain ⟨u, hu⟩ := h0
    exact ⟨g, o, e, hm g hg (World.block_lt_of_cell? w ⟨g, o + 2 * 0, none⟩ (hc 0 u hu).1), hc⟩
theorem SxV.fr {lo hi : Nat} (h : SxV w (Fr hi) A c x) (hl : lo ≤ hi) : SxV w (Fr lo) A c x := h.mono fun _ h1 _ => Nat.le_trans hl h1
theorem SxV.grown0 (h : SxV w F A c x) (hg : w.grownBy w' none) : SxV w' F A c x := h.keep fun b _ hl => hg.block b hl (by simp)
theorem SxV.leaf {x : Sx} (h : x.parts = []) : SxV w F A c x := .mk x A c (fun _ => none) (fun _ => 0) (fun hn => by rw [h] at hn; cases hn) (fun i u hu => by rw [h] at hu; cases hu)
theorem SxV.open_ (h : SxV w F A c x) : ∃ (As : Nat → Option Addr) (cs : Nat → Nat), (0 < x.parts.length → ∃ g o, A = some ⟨g, o, none⟩ ∧ F g ∧ ∀ i u, x.parts[i]? = some u → w.cell? ⟨g, o + 2 * i, none⟩ = some (.string ⟨u.atom.toArray⟩) ∧ w.cell? ⟨g, o + 2 * i + 1, none⟩ = some (.slice (As i) u.parts.length (cs i))) ∧
    ∀ i u, x.parts[i]? = some u → SxV w F (As i) (cs i) u := by
  cases h with
  | mk _ _ _ As cs hA hs => exact ⟨As, cs, hA, hs⟩
end
theorem info_sx : (Try.prog.info? 37).map (fun i => (i.zero, i.size, i.bytes)) = some (some (.agg #[.string ⟨#[]⟩, .slice none 0 0]), 2, 40) := by kernel_rfl
/-- append of one two-cell element. -/
theorem wpList_app2 {P : Program} {w : World} {ops : Array Oper} {rest : List Oper} {o : Oper} {a : Act} {Q : Exit → Act → World → Prop} (hgd : o.guard = none) (s x : Operand) (t : TypeId)
    (ho : o.op = .call { callee := .builtin .append, args := #[s, x], argTypes := #[t, t] })
    (base : Nat) (e : TypeId) (z : Value) (bytes : Nat) (ht : P.underlying t = some (.slice e)) (hi : (P.info? e).map (fun i => (i.zero, i.size, i.bytes)) = some (some z, 2, bytes)) (hzs : z.cells.size = 2)
    (A0 : Option Addr) (cap0 n : Nat) (xs : List Value) (hs : a.eval s = .slice A0 n cap0) (hown : w.ownsRow base e 2 (.slice A0 n cap0) n xs)
    (g : Nat) (u v : Value) (hx : a.eval x = .slice (some ⟨g, 0, none⟩) 1 1) (hb : Blk w g e #[u, v]) (hu : u.oneCell' = true) (hv : v.oneCell' = true)
    (h63 : n + 1 ≤ maxLen) (hbytes : (n + 1) * bytes ≤ 140737488355328) (hbase : base ≤ w.heap.size)
    (h : ∀ A' cap w', w'.ownsRow base e 2 (.slice A' (n + 1) cap) (n + 1) (xs ++ [u, v]) → w.grownBy w' (Value.slice A0 n cap0).ownBlock →
      ((Value.slice A' (n + 1) cap).ownBlock = (Value.slice A0 n cap0).ownBlock ∨ (Value.slice A' (n + 1) cap).ownBlock = some w.heap.size) → wpList P ops Q rest (a.put o.dst (.slice A' (n + 1) cap)) w') :
    wpList P ops Q (o :: rest) a w := by
  cases hii : P.info? e with
  | none => rw [hii] at hi; cases hi
  | some i =>
    rw [hii] at hi
    injection hi with hi
    injection hi with hz hi
    injection hi with h2 h48
    refine wpList_plain hgd fun K hK => ?_
    obtain ⟨v', w', hrun, k2, k3, _, k5⟩ := run_append_own_at (P := P) w base t o.type e i _ 2 bytes ht hii hz h2 h48 hzs (by omega) _ n _ hown ⟨g, 0, none⟩ 1 1 [u, v] rfl
      (fun j y hj => by
        rw [show (Addr.add ⟨g, 0, none⟩ j) = ⟨g, j, none⟩ by (simp [Addr.add]; omega), hb.cell]
        simpa using hj) (fun y hy => by
        simp only [List.mem_cons, List.not_mem_nil, or_false] at hy
        rcases hy with rfl | rfl
        · exact hu
        · exact hv) h63 hbytes hbase
    obtain ⟨hl, ⟨e1, e2⟩ | ⟨g', cap, cur, rfl, _⟩⟩ := id k2
    · omega
    unfold Oper.wp execOp
    simp only [ho, resolve, invoke, builtin, Sem.run_bind, Sem.run_pure, Result.andThen_ok, List.map_toArray, List.map_cons, List.map_nil, hs, hx, hrun]
    exact hK _ _ (h _ cap w' k2 k3 k5)

/-- What the reference's reader leaves. -/
def SxPost (f : Nat) (l : List UInt8) (i : Nat) (w : World) (e : Ending) (w' : World) : Prop :=
  w.grownBy w' none ∧ match sread f (l.drop i) with
    | none => ∃ a A n c, e = .returned (.tuple #[.agg #[.string a, .slice A n c], .int .i64 (-1)])
    | some (x, r) => ∃ A c j, j ≤ l.length ∧ i < j ∧ r = l.drop j ∧ e = .returned (.tuple #[.agg #[.string ⟨x.atom.toArray⟩, .slice A x.parts.length c], .int .i64 ((j : Nat) : Int)]) ∧ SxV w' (Fr w.heap.size) A c x
theorem SxPost.no {f : Nat} {l : List UInt8} {i : Nat} {w w' : World} {a : ByteArray} {A : Option Addr} {n c : Nat} (h : sread f (l.drop i) = none) (hg : w.grownBy w' none) :
    SxPost f l i w (.returned (.tuple #[.agg #[.string a, .slice A n c], .int .i64 (-1)])) w' := ⟨hg, by rw [h]; exact ⟨_, _, _, _, rfl⟩⟩
theorem SxPost.yes {f : Nat} {l : List UInt8} {i j c : Nat} {w w' : World} {x : Sx} {A : Option Addr} (h : sread f (l.drop i) = some (x, l.drop j)) (hg : w.grownBy w' none) (hj : j ≤ l.length) (hij : i < j) (ht : SxV w' (Fr w.heap.size) A c x) :
    SxPost f l i w (.returned (.tuple #[.agg #[.string ⟨x.atom.toArray⟩, .slice A x.parts.length c], .int .i64 ((j : Nat) : Int)])) w' :=
  ⟨hg, by rw [h]; exact ⟨A, c, j, hj, hij, rfl, rfl, ht⟩⟩

set_option maxRecDepth 100000 in
set_option maxHeartbeats 1000000 in
/-- It fails at once. -/
theorem l5Read_no (f : Nat) (l : List UInt8) (i : Nat) (d : Int) (w : World) (_hl : l.length ≤ 100000) (_hi : i ≤ l.length + 10) (hd : d > 100 ∨ l.length ≤ i) (h : sread f (l.drop i) = none) :
    Calls Try.prog 30 #[.string ⟨l.toArray⟩, .int .i64 (i : Int), .int .i64 d] w (SxPost f l i w) := by
  have h := Lib.hid h
  have hg := World.grownBy_alloc w (.cells #[.string ⟨#[]⟩, .slice none 0 0] 37) none
  by_cases hd1 : d > 100
  · go_enter Try.func30, Try.ntmps30
    go_wp2_with fail
    exact bodyPost_ret (v := .tuple #[.agg #[.string ⟨#[]⟩, .slice none 0 0], .int .i64 (-1)]) (by simp [results, Try.results30, go_sem]) rfl (SxPost.no h.out (gr_alloc hg _))
  · have hd2 : l.length ≤ i := by omega
    go_enter Try.func30, Try.ntmps30
    go_wp2_with fail
    exact bodyPost_ret (v := .tuple #[.agg #[.string ⟨#[]⟩, .slice none 0 0], .int .i64 (-1)]) (by simp [results, Try.results30, go_sem]) rfl (SxPost.no h.out (gr_alloc hg _))

/-- One byte of a word. -/
theorem wlen_cons (c : UInt8) (l : List UInt8) : wlen (c :: l) = if seps.contains c then 0 else wlen l + 1 := by
  unfold wlen
  cases h : seps.contains c with
  | true => rw [List.takeWhile_cons_of_neg (by rw [h]; decide)]; rfl
  | false => rw [List.takeWhile_cons_of_pos (by rw [h]; rfl)]; rfl
theorem wlen_next {l : List UInt8} {i : Nat} (h : i < l.length) : wlen (l.drop i) = if seps.contains l[i] then 0 else wlen (l.drop (i + 1)) + 1 := by
  rw [List.drop_eq_getElem_cons h, wlen_cons]
set_option maxRecDepth 100000 in
set_option maxHeartbeats 1000000 in
/-- An atom. -/
theorem l5Read_leaf (f : Nat) (l : List UInt8) (i : Nat) (d : Int) (w : World) (_hl : l.length ≤ 100000) (hlt : i < l.length) (_hd : d ≤ 100 ∧ 0 ≤ d) (hb : pre [40] (l.drop i) = false) :
    Calls Try.prog 30 #[.string ⟨l.toArray⟩, .int .i64 (i : Int), .int .i64 d] w (SxPost (f + 1) l i w) := by
  have hlt' : i < (⟨l.toArray⟩ : ByteArray).size := by simpa [ByteArray.size] using hlt
  have hg := World.grownBy_alloc w (.cells #[.string ⟨#[]⟩, .slice none 0 0] 37) none
  have hb40 := byte_ne l i hlt hlt' 40 40 rfl
  rw [hb] at hb40
  have hwl := wlen_le (l.drop i)
  rw [List.length_drop] at hwl
  have hS : sread (f + 1) (l.drop i) = if wlen (l.drop i) = 0 then none else some (.lf ((l.drop i).take (wlen (l.drop i))), (l.drop i).drop (wlen (l.drop i))) := by
    unfold sread
    rw [hb]
    rfl
  have hSh := Lib.hid hS
  have hsz : (⟨l.toArray⟩ : ByteArray).size = l.length := by simp [ByteArray.size]
  have hbx : ∀ (k : Nat) (h : k < l.length) (h' : k < (⟨l.toArray⟩ : ByteArray).size), ((⟨l.toArray⟩ : ByteArray)[k]'h') = l[k] := fun k h h' => by
    show (l.toArray)[k]'(by simpa using h) = l[k]
    simp
  have hbxh := Lib.hid hbx
  have hext := Lib.hid (fun j => extract_ba l i (i + j))
  have hne : ∀ c : UInt8, seps.contains c = false → ((c.toNat : Int) != 32) = true ∧ ((c.toNat : Int) != 40) = true ∧ ((c.toNat : Int) != 41) = true := fun c hc => by
    have h1 : ∀ k : UInt8, seps.contains k = true → ((c.toNat : Int) != (k.toNat : Int)) = true := fun k hk => by
      rw [bne_iff_ne]
      intro e
      have : c = k := UInt8.toNat_inj.1 (by omega)
      rw [this, hk] at hc
      cases hc
    exact ⟨h1 32 (by decide), h1 40 (by decide), h1 41 (by decide)⟩
  have hneh := Lib.hid hne
  have hnl : ¬ l.length ≤ i := by omega
  have hnd : ¬ (100 : Int) < d := by omega
  clear hb hS hbx hne
  go_enter Try.func30, Try.ntmps30
  go_wp2_with fail
  go_loopw [1] (fun iv wr => ∃ j : Nat, j ≤ wlen (l.drop i) ∧ iv = .int .i64 ((i + j : Nat) : Int) ∧ wlen (l.drop i) = j + wlen (l.drop (i + j)) ∧ wr = (w.alloc (.cells #[.string ⟨#[]⟩, .slice none 0 0] 37)).alloc (.cells #[.string ⟨#[]⟩, .slice none 0 0] 37)) (fun iv _ => l.length - (intOf iv).toNat)
  case atStart => exact ⟨0, Nat.zero_le _, rfl, by simp, rfl⟩
  case round =>
    obtain ⟨j, hj, rfl, hwj, rfl⟩ := hrel
    have hwjh := Lib.hid hwj
    clear hwj
    by_cases hend : wlen (l.drop (i + j)) = 0
    · have hjw : wlen (l.drop i) = j := by have := hwjh.out; omega
      have hcase : i + j = l.length ∨ ∃ (h : i + j < l.length), l[i + j] = 32 ∨ l[i + j] = 40 ∨ l[i + j] = 41 := by
        by_cases h : i + j < l.length
        · refine .inr ⟨h, ?_⟩
          rw [wlen_next h] at hend
          cases h2 : seps.contains l[i + j] with
          | true => exact sep_iff.1 h2
          | false => rw [h2] at hend; simp at hend
        · exact .inl (by omega)
      have hex : (⟨l.toArray⟩ : ByteArray).extract i (i + j) = ⟨((l.drop i).take j).toArray⟩ := by
        rw [hext.out j, List.drop_take, show i + j - i = j by omega]
      have hal : ((l.drop i).take j).length = j := by rw [List.length_take, List.length_drop]; omega
      have hSj : sread (f + 1) (l.drop i) = if j = 0 then none else some (.lf ((l.drop i).take j), l.drop (i + j)) := by
        rw [hSh.out, hjw, List.drop_drop]
      have hSjh := Lib.hid hSj
      have halh := Lib.hid hal
      have hijle : i + j ≤ l.length := by omega
      have hdl := Lib.hid (rfl : (l.drop i).take j = (l.drop i).take j)
      generalize hat : (l.drop i).take j = at_ at *
      have hg2 := gr_alloc hg (.cells #[.string ⟨#[]⟩, .slice none 0 0] 37)
      have hb5 := Blk.new (w.alloc (.cells #[.string ⟨#[]⟩, .slice none 0 0] 37)) 37 #[.string ⟨#[]⟩, .slice none 0 0]
      rw [World.size_alloc] at hb5
      have hb6 := Blk.set hb5 0 (.string ⟨at_.toArray⟩)
      have hg3 := gr_set hg2 (p := ⟨w.heap.size + 1, 0, none⟩) (.inr (by show w.heap.size ≤ w.heap.size + 1; omega)) (.string ⟨at_.toArray⟩)
      have hg3h := Lib.hid hg3
      have hemp : (⟨at_.toArray⟩ : ByteArray).toList.isEmpty = decide (j = 0) := by
        rw [ByteArray.toList_eq]
        have := halh.out
        cases at_ with
        | nil => simp at this; subst this; rfl
        | cons c r => simp at this; rw [decide_eq_false (by omega)]; rfl
      have hemp2 : at_.isEmpty = decide (j = 0) := by
        have := halh.out
        cases at_ with
        | nil => simp at this; subst this; rfl
        | cons c r => simp at this; rw [decide_eq_false (by omega)]; rfl
      have hg4 := Lib.hid (gr_alloc hg3 (.cells #[.string ⟨at_.toArray⟩, .slice none 0 0] 37))
      clear hSj hal hend hat hjw hSh hdl hg2 hg3 hg hb5 hb6
      by_cases hj0 : j = 0
      · have hP := Lib.hid (show sread (f + 1) (l.drop i) = none by rw [hSjh.out, if_pos hj0])
        rw [decide_eq_true hj0] at hemp hemp2
        clear hj0 halh
        clear hSjh
        rcases hcase with hE | ⟨hE, hE1 | hE1 | hE1⟩
        case' inl =>
          have hEI : ¬ ((i + j : Nat) : Int) < (l.length : Int) := by omega
          clear hE
        case' inr.inl =>
          have hEI : ((i + j : Nat) : Int) < (l.length : Int) := by omega
          have hb1 := hbxh.out (i + j) hE (by rw [hsz]; exact hE)
          rw [hE1] at hb1
          clear hE1
        case' inr.inr.inl =>
          have hEI : ((i + j : Nat) : Int) < (l.length : Int) := by omega
          have hb1 := hbxh.out (i + j) hE (by rw [hsz]; exact hE)
          rw [hE1] at hb1
          clear hE1
        case' inr.inr.inr =>
          have hEI : ((i + j : Nat) : Int) < (l.length : Int) := by omega
          have hb1 := hbxh.out (i + j) hE (by rw [hsz]; exact hE)
          rw [hE1] at hb1
          clear hE1
        all_goals go_wp2_with fail
        all_goals
          exact bodyPost_ret (v := .tuple #[.agg #[.string ⟨at_.toArray⟩, .slice none 0 0], .int .i64 (-1)]) (by simp [results, Try.results30, go_sem]) rfl (SxPost.no hP.out (gr_alloc (World.grownBy_alloc _ _ _) _))
      · have hP := Lib.hid (show sread (f + 1) (l.drop i) = some (.lf at_, l.drop (i + j)) by rw [hSjh.out, if_neg hj0])
        rw [decide_eq_false hj0] at hemp hemp2
        clear hSjh
        rcases hcase with hE | ⟨hE, hE1 | hE1 | hE1⟩
        case' inl =>
          have hEI : ¬ ((i + j : Nat) : Int) < (l.length : Int) := by omega
          clear hE
        case' inr.inl =>
          have hEI : ((i + j : Nat) : Int) < (l.length : Int) := by omega
          have hb1 := hbxh.out (i + j) hE (by rw [hsz]; exact hE)
          rw [hE1] at hb1
          clear hE1
        case' inr.inr.inl =>
          have hEI : ((i + j : Nat) : Int) < (l.length : Int) := by omega
          have hb1 := hbxh.out (i + j) hE (by rw [hsz]; exact hE)
          rw [hE1] at hb1
          clear hE1
        case' inr.inr.inr =>
          have hEI : ((i + j : Nat) : Int) < (l.length : Int) := by omega
          have hb1 := hbxh.out (i + j) hE (by rw [hsz]; exact hE)
          rw [hE1] at hb1
          clear hE1
        all_goals go_wp2_with fail
        all_goals
          exact bodyPost_ret (v := .tuple #[.agg #[.string ⟨at_.toArray⟩, .slice none 0 0], .int .i64 ((i + j : Nat) : Int)]) (by simp [results, Try.results30, go_sem]) rfl (SxPost.yes (x := .lf at_) hP.out (gr_alloc (World.grownBy_alloc _ _ _) _) hijle (by omega) (SxV.leaf rfl))
    · have hijl : i + j < l.length := by
        rcases Nat.lt_or_ge (i + j) l.length with h | h
        · exact h
        · rw [List.drop_eq_nil_of_le h] at hend
          exact absurd rfl hend
      have hijI : ((i + j : Nat) : Int) < (l.length : Int) := by omega
      have hijl' : i + j < (⟨l.toArray⟩ : ByteArray).size := by rw [hsz]; exact hijl
      have hwn := wlen_next hijl
      have hcs : seps.contains l[i + j] = false := by
        cases h : seps.contains l[i + j] with
        | false => rfl
        | true => rw [h] at hwn; exact absurd hwn hend
      rw [hcs] at hwn
      simp only [Bool.false_eq_true, if_false] at hwn
      have hb1 := hbxh.out (i + j) hijl hijl'
      obtain ⟨n1, n2, n3⟩ := hneh.out _ hcs
      generalize l[i + j] = x at *
      have hwnh := Lib.hid hwn
      clear hwn hcs hend
      go_wp2_with fail
      go_roundw
      case rel => exact ⟨j + 1, by have := hwjh.out; have := hwnh.out; omega, by go_num, by have := hwjh.out; have := hwnh.out; rw [show i + (j + 1) = i + j + 1 by omega]; omega, by first | rfl | trivial⟩
      case measure => simp [intOf]; omega

/-- A part and where its own parts lie. -/
structure SD where
  x : Sx
  A : Option Addr
  c : Nat
def SD.cells (d : SD) : List Value := [.string ⟨d.x.atom.toArray⟩, .slice d.A d.x.parts.length d.c]
theorem scells_get : ∀ (D : List SD) (i : Nat) (d : SD), D[i]? = some d → (D.flatMap SD.cells)[2 * i]? = some (.string ⟨d.x.atom.toArray⟩) ∧ (D.flatMap SD.cells)[2 * i + 1]? = some (.slice d.A d.x.parts.length d.c)
  | [], i, d, h => by simp at h
  | e :: D, 0, d, h => by
    obtain rfl : e = d := by simpa using h
    simp [SD.cells]
  | e :: D, i + 1, d, h => by
    have ih := scells_get D i d (by simpa using h)
    have e1 : (List.flatMap SD.cells (e :: D)) = .string ⟨e.x.atom.toArray⟩ :: .slice e.A e.x.parts.length e.c :: List.flatMap SD.cells D := by simp [SD.cells]
    rw [e1, show 2 * (i + 1) = 2 * i + 1 + 1 by omega, show 2 * i + 1 + 1 + 1 = (2 * i + 1) + 1 + 1 by omega]
    simpa using ih
/-- Blocks behind B but the one of a row. -/
def OffS (B : Nat) (v : Value) : Nat → Prop := fun b => B < b ∧ v.ownBlock ≠ some b
/-- The tree under construction. -/
def SMI (wr : World) (B : Nat) (acc : Sx) : Prop :=
  ∃ (A : Option Addr) (cap : Nat) (L : List SD), Blk wr B 37 #[.string ⟨#[]⟩, .slice A L.length cap] ∧ wr.ownsRow (B + 1) 37 2 (.slice A L.length cap) L.length (L.flatMap SD.cells) ∧
    L.map SD.x = acc.parts ∧ acc.atom = [] ∧ ∀ d ∈ L, SxV wr (OffS B (.slice A L.length cap)) d.A d.c d.x
theorem own2_ltS {w : World} {base : Nat} {e : TypeId} {v : Value} {n : Nat} {xs : List Value} (h : w.ownsRow base e 2 v n xs) {g : Nat} (hg : v.ownBlock = some g) : base ≤ g ∧ g < w.heap.size := by
  obtain ⟨_, ⟨rfl, _⟩ | ⟨g', cap', cur, rfl, hb, hr, _⟩⟩ := h
  · cases hg
  · cases hg
    exact ⟨hb, (Array.getElem?_eq_some_iff.1 hr).1⟩
theorem own2_keepS {w w' : World} {base : Nat} {e : TypeId} {v : Value} {n : Nat} {xs : List Value} {x : Option Nat} (h : w.ownsRow base e 2 v n xs) (hg : w.grownBy w' x) (hx : ∀ g, v.ownBlock = some g → some g ≠ x) : w'.ownsRow base e 2 v n xs := by
  obtain ⟨hl, ⟨rfl, rfl⟩ | ⟨g, cap, cur, rfl, hb, hr, h1, h2, h3, h4⟩⟩ := h
  · exact ⟨hl, .inl ⟨rfl, rfl⟩⟩
  · exact ⟨hl, .inr ⟨g, cap, cur, rfl, hb, (hg.block g (Array.getElem?_eq_some_iff.1 hr).1 (hx g rfl)).trans hr, h1, h2, h3, h4⟩⟩
theorem SMI.grown0 {w w' : World} {B : Nat} {acc : Sx} (h : SMI w B acc) (hg : w.grownBy w' none) : SMI w' B acc := by
  obtain ⟨A, cap, L, h1, h2, h3, h4, h5⟩ := h
  exact ⟨A, cap, L, h1.grown0 hg, own2_keepS h2 hg (by simp), h3, h4, fun d hd => (h5 d hd).grown0 hg⟩
theorem smi_step {wr w3 w4 : World} {B n : Nat} {acc x : Sx} {A A' Ax : Option Addr} {cap cap' cx : Nat} {L : List SD} {o : Obj} (hn : L.length = n) (hg : wr.grownBy w3 none) (hBl : B < wr.heap.size)
    (hown : wr.ownsRow (B + 1) 37 2 (.slice A n cap) n (L.flatMap SD.cells)) (hL : L.map SD.x = acc.parts)
    (hs : ∀ d ∈ L, SxV wr (OffS B (.slice A n cap)) d.A d.c d.x) (hx : SxV w3 (Fr wr.heap.size) Ax cx x)
    (hown4 : w4.ownsRow (B + 1) 37 2 (.slice A' (n + 1) cap') (n + 1) (L.flatMap SD.cells ++ [.string ⟨x.atom.toArray⟩, .slice Ax x.parts.length cx]))
    (hg3 : (w3.alloc o).grownBy w4 (Value.slice A n cap).ownBlock)
    (hat : (Value.slice A' (n + 1) cap').ownBlock = (Value.slice A n cap).ownBlock ∨ (Value.slice A' (n + 1) cap').ownBlock = some (w3.alloc o).heap.size)
    (hb : Blk w4 B 37 #[.string ⟨#[]⟩, .slice A n cap]) : SMI (w4.setCell ⟨B, 1, none⟩ (.slice A' (n + 1) cap')) B (acc.sn x) := by
  subst hn
  have hs2 := hg.size
  have hl : (L ++ [(⟨x, Ax, cx⟩ : SD)]).length = L.length + 1 := by simp
  have hsz : (w3.alloc o).heap.size = w3.heap.size + 1 := World.size_alloc _ _
  have hlt : ∀ g, (Value.slice A L.length cap).ownBlock = some g → g < wr.heap.size := fun g hg => (own2_ltS hown hg).2
  refine ⟨A', cap', L ++ [⟨x, Ax, cx⟩], ?_, ?_, ?_, rfl, ?_⟩
  · rw [hl]
    have := Blk.set hb 1 (.slice A' (L.length + 1) cap')
    simpa using this
  · rw [hl]
    have h1 := ownsRow_setCell_below hown4 (a := ⟨B, 1, none⟩) (Nat.lt_succ_self B) (.slice A' (L.length + 1) cap')
    have e : (L ++ [(⟨x, Ax, cx⟩ : SD)]).flatMap SD.cells = L.flatMap SD.cells ++ [.string ⟨x.atom.toArray⟩, .slice Ax x.parts.length cx] := by simp [SD.cells]
    rw [e]
    exact h1
  · simp [hL, Sx.parts]
  · intro d hd
    rw [hl]
    rcases List.mem_append.1 hd with hd | hd
    · have h1 := (hs d hd).mono (G := fun b => b < wr.heap.size ∧ OffS B (.slice A L.length cap) b) (fun b h1 h2 => ⟨h2, h1⟩)
      refine (h1.keep (w' := w4.setCell ⟨B, 1, none⟩ (.slice A' (L.length + 1) cap')) fun b hb _ => ?_).mono fun b hb _ => ⟨hb.2.1, fun he => ?_⟩
      · rw [heap_setCell_other _ _ _ _ (by have := hb.2.1; show b ≠ B; omega), hg3.block b (by have := hb.1; omega) (fun e => hb.2.2 e.symm), (gr_alloc hg o).block b hb.1 (by simp)]
      · rcases hat with h | h
        · exact hb.2.2 (h.symm.trans he)
        · rw [h] at he
          have := hb.1
          cases he
          omega
    · obtain rfl := List.mem_singleton.1 hd
      have h1 := hx.mono (G := fun b => b < w3.heap.size ∧ wr.heap.size ≤ b) (fun b h1 h2 => ⟨h2, h1⟩)
      refine (h1.keep (w' := w4.setCell ⟨B, 1, none⟩ (.slice A' (L.length + 1) cap')) fun b hb _ => ?_).mono fun b hb _ => ⟨by have := hb.2; omega, fun he => ?_⟩
      · rw [heap_setCell_other _ _ _ _ (by have := hb.2; show b ≠ B; omega), hg3.block b (by have := hb.1; omega) (fun e => by have := hlt b e.symm; have := hb.2; omega), (World.grownBy_alloc w3 o none).block b hb.1 (by simp)]
      · rcases hat with h | h
        · have := hlt b (h.symm.trans he)
          have := hb.2
          omega
        · rw [h] at he
          have := hb.1
          cases he
          omega
theorem smi_final {w : World} {B lo cap : Nat} {acc : Sx} {A : Option Addr} {L : List SD} (hown : w.ownsRow (B + 1) 37 2 (.slice A L.length cap) L.length (L.flatMap SD.cells)) (hL : L.map SD.x = acc.parts)
    (hs : ∀ d ∈ L, SxV w (OffS B (.slice A L.length cap)) d.A d.c d.x) (hlo : lo ≤ B) : SxV w (Fr lo) A cap acc := by
  have hget : ∀ i u, acc.parts[i]? = some u → ∃ d : SD, L[i]? = some d ∧ d.x = u := fun i u hu => by
    rw [← hL, List.getElem?_map, Option.map_eq_some_iff] at hu
    exact hu
  have hlen : acc.parts.length = L.length := by rw [← hL]; simp
  refine .mk acc A cap (fun i => match L[i]? with | some d => d.A | none => none) (fun i => match L[i]? with | some d => d.c | none => 0) (fun hn => ?_) (fun i u hu => ?_)
  · obtain ⟨hl, ⟨e1, e2⟩ | ⟨g, cap', cur, e, hbg, hr, h1, h2, h3, h4⟩⟩ := hown
    · omega
    · injection e with e1 e2 e3
      subst e1 e3
      refine ⟨g, 0, rfl, by show lo ≤ g; omega, fun i u hu => ?_⟩
      obtain ⟨d, hd, rfl⟩ := hget i u hu
      have hi : i < L.length := (List.getElem?_eq_some_iff.1 hd).1
      obtain ⟨k1, k2⟩ := scells_get L i d hd
      constructor
      · rw [cell_of_row w g _ cur _ (0, 0) hr, ← k1, ← h4, List.getElem?_take_of_lt (by omega)]
        simp
      · rw [cell_of_row w g _ cur _ (0, 0) hr, hd, ← k2, ← h4, List.getElem?_take_of_lt (by omega)]
        simp
  · obtain ⟨d, hd, rfl⟩ := hget i u hu
    simp only [hd]
    exact (hs d (List.mem_of_getElem? hd)).mono fun b hb _ => by have := hb.1; show lo ≤ b; omega

/-- What the induction gives. -/
def SReadIH (f : Nat) : Prop := ∀ (l : List UInt8) (i : Nat) (d : Int) (w : World), l.length ≤ 100000 → i ≤ l.length + 10 → d = 101 - (f : Int) → f ≤ 101 →
    Calls Try.prog 30 #[.string ⟨l.toArray⟩, .int .i64 (i : Int), .int .i64 d] w (SxPost f l i w)
set_option maxRecDepth 100000 in
set_option maxHeartbeats 4000000 in
theorem l5Read_list (f : Nat) (ih : SReadIH f) (l : List UInt8) (i : Nat) (d : Int) (w : World) (hl : l.length ≤ 100000) (hlt : i < l.length) (_hd : d ≤ 100 ∧ 0 ≤ d) (hdx : d + 1 = 101 - (f : Int)) (hb : pre [40] (l.drop i) = true) :
    Calls Try.prog 30 #[.string ⟨l.toArray⟩, .int .i64 (i : Int), .int .i64 d] w (SxPost (f + 1) l i w) := by
  have hlt' : i < (⟨l.toArray⟩ : ByteArray).size := by simpa [ByteArray.size] using hlt
  have hg := gr_alloc (World.grownBy_alloc w (.cells #[.string ⟨#[]⟩, .slice none 0 0] 37) none) (.cells #[.string ⟨#[]⟩, .slice none 0 0] 37)
  have hb0 := (Blk.new w 37 #[.string ⟨#[]⟩, .slice none 0 0]).alloc (.cells #[.string ⟨#[]⟩, .slice none 0 0] 37)
  have hb1 := Blk.new (w.alloc (.cells #[.string ⟨#[]⟩, .slice none 0 0] 37)) 37 #[.string ⟨#[]⟩, .slice none 0 0]
  rw [World.size_alloc] at hb1
  have hb40 := byte_ne l i hlt hlt' 40 40 rfl
  rw [hb] at hb40
  have hS : sread (f + 1) (l.drop i) = sloop (sread f) ((l.drop i).length + 1) .nl (l.drop (i + 1)) := by
    conv => lhs; unfold sread
    rw [hb, cut_drop hb]
    rfl
  have hSh := Lib.hid hS
  have hf : f ≤ 101 := by omega
  have hnl : ¬ l.length ≤ i := by omega
  have hnd : ¬ (100 : Int) < d := by omega
  have hdh := Lib.hid hdx
  have hihh := Lib.hid (fun (j : Nat) (W : World) (hj : j < l.length) => ih l (j + 1) (d + 1) W hl (by omega) hdx hf)
  have hsz : (⟨l.toArray⟩ : ByteArray).size = l.length := by simp [ByteArray.size]
  have hby := Lib.hid (fun (k : Nat) (h : k < l.length) (h' : k < (⟨l.toArray⟩ : ByteArray).size) (c : UInt8) (z : Int) (hk : (c.toNat : Int) = z) => byte_is l k h h' c z hk)
  have hbn := Lib.hid (fun (k : Nat) (h : k < l.length) (h' : k < (⟨l.toArray⟩ : ByteArray).size) (c : UInt8) (z : Int) (hk : (c.toNat : Int) = z) => byte_ne l k h h' c z hk)
  have hgh := Lib.hid hg
  clear hb hS hdx hg
  go_enter Try.func30, Try.ntmps30
  go_wp2_with fail
  go_loopw [1] (fun iv wr => ∃ (j k : Nat) (acc : Sx), j < l.length ∧ i ≤ j ∧ acc.parts.length ≤ j ∧ iv = .int .i64 (j : Int) ∧ RowKit.Hid (SMI wr (w.heap.size + 1) acc) ∧ RowKit.Hid (Blk wr w.heap.size 37 #[.string ⟨#[]⟩, .slice none 0 0]) ∧ w.grownBy wr none ∧ l.length - j ≤ k ∧ RowKit.Hid (sread (f + 1) (l.drop i) = sloop (sread f) k acc (l.drop (j + 1)))) (fun iv _ => l.length - (intOf iv).toNat)
  case atStart => exact ⟨i, (l.drop i).length + 1, .nl, hlt, Nat.le_refl _, Nat.zero_le _, rfl, ⟨none, 0, [], hb1, ⟨rfl, .inl ⟨rfl, rfl⟩⟩, rfl, rfl, fun d hd => by cases hd⟩, hb0, hgh.out, by rw [List.length_drop]; omega, hSh.out⟩
  case round =>
    obtain ⟨wi, hwi⟩ : ∃ wo, wo = wr := ⟨_, rfl⟩
    subst hwi
    obtain ⟨j, k, acc, hj, hij, hpl, rfl, hI, hB, hgr, hk, hP⟩ := hrel
    have hcl := Lib.hid (hihh.out j wi hj)
    rw [show ((j + 1 : Nat) : Int) = (j : Int) + 1 by omega] at hcl
    clear hb0 hb1
    go_wp2_with fail
    refine hcl.out.mono ?_
    rintro e w2 ⟨hg2, hm⟩
    obtain ⟨A, cap, L, hbBi, howni, hL, hat, hs⟩ := hI.out
    have hbB := hbBi.grown0 hg2
    have hown := own2_keepS howni hg2 (by simp)
    have hownih := Lib.hid howni
    have hbR := Blk.grown0 hB.out hg2
    have b0 := hbB.cell 0
    have b1 := hbB.cell 1
    have bf := hbB.free 1
    have blt := hbB.lt
    have r0 := hbR.cell 0
    have r1 := hbR.cell 1
    have rf0 := hbR.free 0
    have rf1 := hbR.free 1
    have rlt := hbR.lt
    simp only [List.getElem?_toArray, List.getElem?_cons_zero, List.getElem?_cons_succ] at b0 b1 r0 r1
    have hgr2 := gr_trans hgr hg2
    obtain ⟨k, rfl⟩ : ∃ m, k = m + 1 := ⟨k - 1, by omega⟩
    have hLl : L.length ≤ j := by have := congrArg List.length hL; simp at this; omega
    cases hr : sread f (l.drop (j + 1)) with
    | none =>
      rw [hr] at hm
      obtain ⟨a, A2, n2, c2, rfl⟩ := hm
      have hPn := Lib.hid (show sread (f + 1) (l.drop i) = none by rw [hP.out]; unfold sloop; rw [hr])
      have hbF := Blk.alloc (Blk.set (Blk.set hbR 0 (.string ⟨#[]⟩)) 1 (.slice A L.length cap)) (.cells #[.string a, .slice A2 n2 c2] 37)
      have z0 := hbF.cell 0
      have z1 := hbF.cell 1
      simp only [List.setIfInBounds_toArray, List.set_cons_zero, List.set_cons_succ, List.getElem?_toArray, List.getElem?_cons_zero, List.getElem?_cons_succ] at z0 z1
      have hgF := gr_alloc (gr_set (gr_set hgr2 (p := ⟨w.heap.size, 0, none⟩) (.inr (Nat.le_refl _)) (.string ⟨#[]⟩)) (p := ⟨w.heap.size, 1, none⟩) (.inr (Nat.le_refl _)) (.slice A L.length cap)) (.cells #[.string a, .slice A2 n2 c2] 37)
      clear hr hown hs hbR hbB howni hbBi
      go_wp2_with fail
      exact bodyPost_ret (v := .tuple #[.agg #[.string ⟨#[]⟩, .slice A L.length cap], .int .i64 (-1)]) (by simp [results, Try.results30, go_sem, z0, z1]) rfl (SxPost.no hPn.out hgF)
    | some v =>
      obtain ⟨x, r⟩ := v
      rw [hr] at hm
      obtain ⟨A2, c2, j2, hj2, hjj2, rfl, rfl, hx⟩ := hm
      have hP2 : sread (f + 1) (l.drop i) = if pre [41] (l.drop j2) then some (acc.sn x, cut [41] (l.drop j2)) else if pre [32] (l.drop j2) then sloop (sread f) k (acc.sn x) (cut [32] (l.drop j2)) else none := by
        rw [hP.out]
        conv => lhs; unfold sloop
        rw [hr]
      have hP2h := Lib.hid hP2
      have hxh := Lib.hid hx
      have hownh := Lib.hid hown
      have hsh := Lib.hid hs
      have hLh := Lib.hid hL
      have hj2I : ¬ ((j2 : Int) < 0) := by omega
      clear hr hP2 hx hs hL
      by_cases hjl : l.length ≤ j2
      · have hPn := Lib.hid (show sread (f + 1) (l.drop i) = none by rw [hP2h.out, List.drop_eq_nil_of_le hjl]; rfl)
        have hbF := Blk.alloc (Blk.set (Blk.set hbR 0 (.string ⟨#[]⟩)) 1 (.slice A L.length cap)) (.cells #[.string ⟨x.atom.toArray⟩, .slice A2 x.parts.length c2] 37)
        have z0 := hbF.cell 0
        have z1 := hbF.cell 1
        simp only [List.setIfInBounds_toArray, List.set_cons_zero, List.set_cons_succ, List.getElem?_toArray, List.getElem?_cons_zero, List.getElem?_cons_succ] at z0 z1
        have hgF := gr_alloc (gr_set (gr_set hgr2 (p := ⟨w.heap.size, 0, none⟩) (.inr (Nat.le_refl _)) (.string ⟨#[]⟩)) (p := ⟨w.heap.size, 1, none⟩) (.inr (Nat.le_refl _)) (.slice A L.length cap)) (.cells #[.string ⟨x.atom.toArray⟩, .slice A2 x.parts.length c2] 37)
        clear hown hbR hbB howni hbBi
        go_wp2_with fail
        exact bodyPost_ret (v := .tuple #[.agg #[.string ⟨#[]⟩, .slice A L.length cap], .int .i64 (-1)]) (by simp [results, Try.results30, go_sem, z0, z1]) rfl (SxPost.no hPn.out hgF)
      · have hjlt : j2 < l.length := by omega
        have hjlt' : j2 < (⟨l.toArray⟩ : ByteArray).size := by simpa [ByteArray.size] using hjlt
        have hq1 := hby.out j2 hjlt hjlt' 41 41 rfl
        have hq2 := hbn.out j2 hjlt hjlt' 32 32 rfl
        have hbP := Blk.new w2 37 #[.string ⟨x.atom.toArray⟩, .slice A2 x.parts.length c2]
        have hgP := World.grownBy_alloc w2 (.cells #[.string ⟨x.atom.toArray⟩, .slice A2 x.parts.length c2] 37) none
        have hgX : w2.grownBy ((w2.alloc (.cells #[.string ⟨x.atom.toArray⟩, .slice A2 x.parts.length c2] 37)).alloc (.cells #[.string ⟨x.atom.toArray⟩, .slice A2 x.parts.length c2] 37)) none := gr_alloc hgP _
        have hownX := own2_keepS hown hgX (by simp)
        have hbX := Blk.new (w2.alloc (.cells #[.string ⟨x.atom.toArray⟩, .slice A2 x.parts.length c2] 37)) 37 #[.string ⟨x.atom.toArray⟩, .slice A2 x.parts.length c2]
        rw [World.size_alloc] at hbX
        have hszX := hgX.size
        go_wp2_with (at_builtin; refine RowKit.Hid.out ?_)
        refine Lib.hid ?_
        refine wpList_app2 rfl _ _ 35 rfl (w.heap.size + 1 + 1) 37 (.agg #[.string ⟨#[]⟩, .slice none 0 0]) 40 Try.underlying35 info_sx rfl _ _ _ _ rfl hownX _ _ _ rfl hbX rfl rfl (by unfold maxLen; omega) (by omega) (Nat.le_trans (by omega : w.heap.size + 1 + 1 ≤ w2.heap.size) hgX.size) ?_
        intro A' cap' w4 hown4 hg4 hat4
        have hgX4 : w2.grownBy w4 (Value.slice A L.length cap).ownBlock := gr_trans (gr_weak hgX _) hg4
        have hge : ∀ g, (Value.slice A L.length cap).ownBlock = some g → w.heap.size + 1 + 1 ≤ g := fun g hg => (own2_ltS hown hg).1
        have hb4 := hbB.grown hgX4 (fun e => by have := hge _ e.symm; omega)
        have hR4 := hbR.grown hgX4 (fun e => by have := hge _ e.symm; omega)
        have c1 := hb4.cell 1
        have f1 := hb4.free 1
        have lt4 := hb4.lt
        simp only [List.getElem?_toArray, List.getElem?_cons_zero, List.getElem?_cons_succ] at c1
        have hgrF : w.grownBy w4 none := ⟨hgX4.os.trans hgr2.os, hgX4.tape.trans hgr2.tape, hgX4.output.trans hgr2.output, Nat.le_trans hgr2.size hgX4.size, fun b hb _ => (hgX4.block b (Nat.lt_of_lt_of_le hb hgr2.size) (fun e => by have := hge b e.symm; omega)).trans (hgr2.block b hb (by simp))⟩
        have hgF := gr_set hgrF (p := ⟨w.heap.size + 1, 1, none⟩) (.inr (by show w.heap.size ≤ w.heap.size + 1; omega)) (.slice A' (L.length + 1) cap')
        have hbBlt : w.heap.size + 1 < wi.heap.size := hbBi.lt
        have hst := Lib.hid (smi_step (o := .cells #[.string ⟨x.atom.toArray⟩, .slice A2 x.parts.length c2] 37) rfl (gr_trans hg2 hgP) hbBlt hownih.out hLh.out hsh.out (hxh.out.grown0 hgP) hown4 hg4 (by rw [World.size_alloc]; rw [World.size_alloc] at hat4; exact hat4) hb4)
        have hRs := Blk.other hR4 (p := ⟨w.heap.size + 1, 1, none⟩) (by show w.heap.size ≠ w.heap.size + 1; omega) (.slice A' (L.length + 1) cap')
        have hRsh := Lib.hid hRs
        have hpl2 := Lib.hid (show L.length = acc.parts.length by have := congrArg List.length hLh.out; simpa using this)
        have hb5 := Blk.set hb4 1 (.slice A' (L.length + 1) cap')
        have hb5h := Lib.hid hb5
        have p0 := hb5.cell 0
        have p1 := hb5.cell 1
        have p5 := hb5.lt
        have s0 := hRs.cell 0
        have s1 := hRs.cell 1
        have sf0 := hRs.free 0
        have sf1 := hRs.free 1
        have s5 := hRs.lt
        simp only [List.setIfInBounds_toArray, List.set_cons_zero, List.set_cons_succ, List.getElem?_toArray, List.getElem?_cons_zero, List.getElem?_cons_succ] at p0 p1 s0 s1
        have hbF := Blk.set (Blk.set hRs 0 (.string ⟨#[]⟩)) 1 (.slice A' (L.length + 1) cap')
        have z0 := hbF.cell 0
        have z1 := hbF.cell 1
        simp only [List.setIfInBounds_toArray, List.set_cons_zero, List.set_cons_succ, List.getElem?_toArray, List.getElem?_cons_zero, List.getElem?_cons_succ] at z0 z1
        have hgF2 := gr_set (gr_set hgF (p := ⟨w.heap.size, 0, none⟩) (.inr (Nat.le_refl _)) (.string ⟨#[]⟩)) (p := ⟨w.heap.size, 1, none⟩) (.inr (Nat.le_refl _)) (.slice A' (L.length + 1) cap')
        clear hown hownX hbX hbP hb5 hRs hbF hb4 hR4 hbR hbB hbBi howni hown4 hg4 hat4 hgX hgX4 b0 b1 bf r0 r1 rf0 rf1
        cases h41 : pre [41] (l.drop j2) with
        | true =>
          rw [h41] at hq1
          have hP3 := hP2h.out
          rw [h41] at hP3
          simp only [if_true] at hP3
          rw [cut_drop h41, show j2 + ([41] : List UInt8).length = j2 + 1 from rfl] at hP3
          have hP3h := Lib.hid hP3
          clear hP3 h41
          have hSx : SxV (((w4.setCell ⟨w.heap.size + 1, 1, none⟩ (.slice A' (L.length + 1) cap')).setCell ⟨w.heap.size, 0, none⟩ (.string ⟨#[]⟩)).setCell ⟨w.heap.size, 1, none⟩ (.slice A' (L.length + 1) cap')) (Fr w.heap.size) A' cap' (acc.sn x) := by
            obtain ⟨A1, cap1, L1, k1, k2, k3, k4, k5⟩ := hst.out
            have hbb : Blk _ _ _ _ := hb5h.out
            unfold Blk at hbb k1
            rw [hbb] at k1
            simp only [List.setIfInBounds_toArray, List.set_cons_zero, List.set_cons_succ, Option.some.injEq, Obj.cells.injEq, Array.mk.injEq, List.cons.injEq, Value.slice.injEq, and_true, true_and] at k1
            obtain ⟨rfl, e2, rfl⟩ := k1
            have := smi_final (lo := w.heap.size + 1) k2 k3 k5 (Nat.le_refl _)
            exact (this.keep fun b hb _ => by
              have hb' : w.heap.size + 1 ≤ b := hb
              rw [heap_setCell_other _ _ _ _ (by show b ≠ w.heap.size; omega), heap_setCell_other _ _ _ _ (by show b ≠ w.heap.size; omega)]).fr (Nat.le_succ _)
          have hnn : (acc.sn x).parts.length = L.length + 1 := by simp [Sx.parts, hpl2.out]
          have hfin := SxPost.yes (i := i) hP3h.out hgF2 (by omega) (by omega) hSx
          rw [hnn] at hfin
          have hfinh := Lib.hid hfin
          clear hfin hSx hnn hst
          go_wp2_with fail
          exact bodyPost_ret (v := .tuple #[.agg #[.string ⟨#[]⟩, .slice A' (L.length + 1) cap'], .int .i64 ((j2 + 1 : Nat) : Int)]) (by simp [results, Try.results30, go_sem, z0, z1]) rfl hfinh.out
        | false =>
          rw [h41] at hq1
          cases h32 : pre [32] (l.drop j2) with
          | false =>
            rw [h32] at hq2
            have hPn := Lib.hid (show sread (f + 1) (l.drop i) = none by rw [hP2h.out, h41, h32]; rfl)
            clear h41 h32
            go_wp2_with fail
            exact bodyPost_ret (v := .tuple #[.agg #[.string ⟨#[]⟩, .slice A' (L.length + 1) cap'], .int .i64 (-1)]) (by simp [results, Try.results30, go_sem, z0, z1]) rfl (SxPost.no hPn.out hgF2)
          | true =>
            rw [h32] at hq2
            have hP3 := hP2h.out
            rw [h41, h32] at hP3
            simp only [Bool.false_eq_true, if_false, if_true] at hP3
            rw [cut_drop h32, show j2 + ([32] : List UInt8).length = j2 + 1 from rfl] at hP3
            have hP3h := Lib.hid hP3
            clear hP3 h41 h32
            go_wp2_with fail
            go_roundw
            case rel => exact ⟨j2, k, acc.sn x, hjlt, by omega, by have := hpl2.out; simp [Sx.parts]; omega, rfl, hst, hRsh, hgF, by omega, hP3h⟩
            case measure => simp [intOf]; omega
end Go.Proofs.Ytiaafacmfflfiaa
