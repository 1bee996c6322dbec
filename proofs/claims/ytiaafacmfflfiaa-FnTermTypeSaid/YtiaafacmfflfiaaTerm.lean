/- The program's reader of terms. -/
import Derived.Test.YtiaafacmfflfiaaName
import Derived.Test.YtiaafacmfflfiaaKind2
import Derived.Test.YtiaafacmfflfiaaStr
import Derived.Test.YtiaafacmfflfiaaOwn
import Derived.Maps.OwnOps
import Derived.Maps.Keyed
import Derived.Maps.Views
namespace Go.Proofs.Ytiaafacmfflfiaa
open Go.RowKit

def ptrv (q : Nat) : Value := .pointer (some ⟨q, 0, none⟩)
/-- The program's term behind a pointer to block q. -/
inductive TermP (w : World) (F : Nat → Prop) : Nat → Tm → Prop
  | w (q : Nat) (c : List UInt8) (hq : F q) (hb : Blk w q 63 #[.string ⟨c.toArray⟩, .string ⟨#[]⟩, .pointer none, .slice none 0 0]) : TermP w F q (.w c)
  | nm (q : Nat) (x : List UInt8) (hq : F q) (hb : Blk w q 63 #[.string ⟨#[]⟩, .string ⟨x.toArray⟩, .pointer none, .slice none 0 0]) : TermP w F q (.nm x)
  | lam (q : Nat) (x : List UInt8) (k : Ty) (b : Tm) (qk q0 : Nat) (A : Option Addr) (cp : Nat) (hq : F q) (hb : Blk w q 63 #[.string ⟨#[108, 97, 109]⟩, .string ⟨x.toArray⟩, ptrv qk, .slice A 1 cp])
      (hA : Sl w F A 1 (fun _ => ptrv q0)) (hk : KindP w F qk k) (h0 : TermP w F q0 b) : TermP w F q (.lam x k b)
  | app (q : Nat) (m n : Tm) (q0 q1 : Nat) (A : Option Addr) (cp : Nat) (hq : F q) (hb : Blk w q 63 #[.string ⟨#[97, 112, 112]⟩, .string ⟨#[]⟩, .pointer none, .slice A 2 cp])
      (hA : Sl w F A 2 (fun i => ptrv (if i = 0 then q0 else q1))) (h0 : TermP w F q0 m) (h1 : TermP w F q1 n) : TermP w F q (.app m n)
  | ite (q : Nat) (l m n : Tm) (q0 q1 q2 : Nat) (A : Option Addr) (cp : Nat) (hq : F q) (hb : Blk w q 63 #[.string ⟨#[105, 102]⟩, .string ⟨#[]⟩, .pointer none, .slice A 3 cp])
      (hA : Sl w F A 3 (fun i => ptrv (if i = 0 then q0 else if i = 1 then q1 else q2))) (h0 : TermP w F q0 l) (h1 : TermP w F q1 m) (h2 : TermP w F q2 n) : TermP w F q (.ite l m n)
section
variable {w w' : World} {F G : Nat → Prop} {q : Nat} {t : Tm}
theorem TermP.keep (h : TermP w F q t) (hk : ∀ b, F b → b < w.heap.size → w'.heap[b]? = w.heap[b]?) : TermP w' F q t := by
  induction h with
  | w q c hq hb => exact .w q c hq ((hk q hq hb.lt).trans hb)
  | nm q x hq hb => exact .nm q x hq ((hk q hq hb.lt).trans hb)
  | lam q x k b qk q0 A cp hq hb hA hkk _ ih => exact .lam q x k b qk q0 A cp hq ((hk q hq hb.lt).trans hb) (hA.keep hk) (hkk.keep hk) ih
  | app q m n q0 q1 A cp hq hb hA _ _ ih0 ih1 => exact .app q m n q0 q1 A cp hq ((hk q hq hb.lt).trans hb) (hA.keep hk) ih0 ih1
  | ite q l m n q0 q1 q2 A cp hq hb hA _ _ _ ih0 ih1 ih2 => exact .ite q l m n q0 q1 q2 A cp hq ((hk q hq hb.lt).trans hb) (hA.keep hk) ih0 ih1 ih2
theorem TermP.mono (h : TermP w F q t) (hm : ∀ b, F b → b < w.heap.size → G b) : TermP w G q t := by
  induction h with
  | w q c hq hb => exact .w q c (hm q hq hb.lt) hb
  | nm q x hq hb => exact .nm q x (hm q hq hb.lt) hb
  | lam q x k b qk q0 A cp hq hb hA hkk _ ih => exact .lam q x k b qk q0 A cp (hm q hq hb.lt) hb (hA.mono hm) (hkk.mono hm) ih
  | app q m n q0 q1 A cp hq hb hA _ _ ih0 ih1 => exact .app q m n q0 q1 A cp (hm q hq hb.lt) hb (hA.mono hm) ih0 ih1
  | ite q l m n q0 q1 q2 A cp hq hb hA _ _ _ ih0 ih1 ih2 => exact .ite q l m n q0 q1 q2 A cp (hm q hq hb.lt) hb (hA.mono hm) ih0 ih1 ih2
theorem TermP.fr {lo hi : Nat} (h : TermP w (Fr hi) q t) (hl : lo ≤ hi) : TermP w (Fr lo) q t := h.mono fun _ h1 _ => Nat.le_trans hl h1
theorem TermP.grown0 (h : TermP w F q t) (hg : w.grownBy w' none) : TermP w' F q t := h.keep fun b _ hl => hg.block b hl (by simp)
theorem TermP.grown {lo g : Nat} (h : TermP w (Fr lo) q t) (hg : w.grownBy w' (some g)) (hl : g < lo) : TermP w' (Fr lo) q t :=
  h.keep fun b hb hl' => hg.block b hl' (by rintro e; cases e; unfold Fr at hb; omega)
end
/-- What the reader of terms leaves. -/
def TermPost (p n : Nat) (r : List UInt8) (w : World) (e : Ending) (w' : World) : Prop :=
  ∃ r', Scan w' p r' ∧ r'.length ≤ r.length ∧ w.grownBy w' (some p) ∧
    match tparse n r with
    | none => e = .returned (.pointer none)
    | some (t, rest) => r' = rest ∧ ∃ q, e = .returned (.pointer (some ⟨q, 0, none⟩)) ∧ TermP w' (Fr w.heap.size) q t
theorem TermPost.no {p n : Nat} {r r' : List UInt8} {w w' : World} (h : tparse n r = none) (hs : Scan w' p r') (hl : r'.length ≤ r.length) (hg : w.grownBy w' (some p)) : TermPost p n r w (.returned (.pointer none)) w' :=
  ⟨r', hs, hl, hg, by rw [h]⟩
theorem TermPost.yes {p n : Nat} {r r' : List UInt8} {w w' : World} {t : Tm} {q : Nat} (h : tparse n r = some (t, r')) (hs : Scan w' p r') (hl : r'.length ≤ r.length) (hg : w.grownBy w' (some p)) (hk : TermP w' (Fr w.heap.size) q t) :
    TermPost p n r w (.returned (.pointer (some ⟨q, 0, none⟩))) w' :=
  ⟨r', hs, hl, hg, by rw [h]; exact ⟨rfl, q, rfl, hk⟩⟩

theorem tparse_word {n : Nat} {r : List UInt8} (h : pre [40] r = false) : tparse n r = tword r := by cases n <;> (unfold tparse; rw [h]; rfl)
theorem word_str3 (l : List UInt8) : ((⟨l.toArray⟩ : ByteArray).toList == [108, 97, 109]) = (l == lamW) := by rw [ByteArray.toList_eq]; rfl
theorem word_str (l : List UInt8) (c : UInt8) : ((⟨l.toArray⟩ : ByteArray).toList == [c]) = (l == [c]) := by rw [ByteArray.toList_eq]

set_option maxRecDepth 100000 in
set_option maxHeartbeats 1000000 in
/-- A word alone. -/
theorem term_word (n p : Nat) (r : List UInt8) (w : World) (hs : Scan w p r) (hr : r.length ≤ 4000000000) (hb : pre [40] r = false) :
    Calls Try.prog 28 #[.pointer (some ⟨p, 0, none⟩), .int .i64 (n : Int)] w (TermPost p n r w) := by
  have hP := Lib.hid (tparse_word (n := n) hb)
  have hwl := wlen_le r
  go_enter Try.func28, Try.ntmps28
  go_wp2_with fail
  refine (take_any p r [40] w hs (by omega) (by simp)).mono ?_
  rintro e w1 ⟨rfl, hs1, hg1⟩
  rw [cut_no hb] at hs1
  go_wp2_with fail
  refine (word_any p 59 [] r w1 hs1 hr).mono ?_
  rintro e w2 ⟨rfl, hs2, hg2⟩
  have hs2' : Scan w2 p (r.drop (wlen r)) := hs2
  have hsh := Lib.hid hs2'
  have hld : (r.drop (wlen r)).length ≤ r.length := by simp
  have hg02 := gr_trans hg1 hg2
  have hN := Lib.hid (fun W => isName_any (r.take (wlen r)) W (by rw [List.length_take]; omega))
  have hT : tword r = if isNm (r.take (wlen r)) then some (.nm (r.take (wlen r)), r.drop (wlen r)) else if isWd (r.take (wlen r)) then some (.w (r.take (wlen r)), r.drop (wlen r)) else none := rfl
  have hTh := Lib.hid hT
  have wd1 := word_str (r.take (wlen r))
  clear hT hs2 hs2'
  generalize r.take (wlen r) = x at *
  generalize r.drop (wlen r) = d at *
  go_wp2_with fail
  refine (hN.out _).mono ?_
  rintro e w3 ⟨rfl, hg3⟩
  have hg03 := gr_trans hg02 (gr_weak hg3 _)
  cases hn : isNm x with
  | true =>
    have hT := hTh.out
    rw [hn] at hT
    have hTh2 := Lib.hid hT
    clear hT hn
    go_wp2_with fail
    go_ret
    exact TermPost.yes (hP.out.trans hTh2.out) ((hsh.out.grown0 hg3).alloc _) hld (gr_alloc hg03 _) (.nm _ x hg03.size (Blk.new _ _ _))
  | false =>
    have hT := hTh.out
    rw [hn] at hT
    simp only [Bool.false_eq_true, if_false] at hT
    by_cases hw : isWd x = true
    · rw [hw] at hT
      have hTh2 := Lib.hid hT
      clear hT hn
      rcases isWd_iff.1 hw with rfl | rfl | rfl
      all_goals
        clear hw wd1
        go_wp2_with fail
        go_ret
        exact TermPost.yes (hP.out.trans hTh2.out) ((hsh.out.grown0 hg3).alloc _) hld (gr_alloc hg03 _) (.w _ _ hg03.size (Blk.new _ _ _))
    · have hw2 : isWd x = false := by cases h : isWd x <;> simp_all
      rw [hw2] at hT
      have hTh2 := Lib.hid hT
      have n1 : (x == [116]) = false := by rw [beq_eq_false_iff_ne]; rintro rfl; exact hw rfl
      have n2 : (x == [102]) = false := by rw [beq_eq_false_iff_ne]; rintro rfl; exact hw rfl
      have n3 : (x == [117]) = false := by rw [beq_eq_false_iff_ne]; rintro rfl; exact hw rfl
      have m1 : ((⟨x.toArray⟩ : ByteArray).toList != [116]) = true := by rw [bne, wd1, n1]; rfl
      have m2 : ((⟨x.toArray⟩ : ByteArray).toList != [102]) = true := by rw [bne, wd1, n2]; rfl
      have m3 : ((⟨x.toArray⟩ : ByteArray).toList != [117]) = true := by rw [bne, wd1, n3]; rfl
      clear hT hn hw hw2 wd1
      go_wp2_with fail
      go_ret
      exact TermPost.no (hP.out.trans hTh2.out) (hsh.out.grown0 hg3) hld hg03

open Go.Maps in
theorem keyS : Keyed Try.prog 9 := string_keyed Try.underlying9
theorem keyOfS (l : List UInt8) (h : l.length ≤ maxLen) : keyOf Try.prog 9 (.string ⟨l.toArray⟩) = some (.string l) := by
  have := WideMaps.keyOf_string_mk (P := Try.prog) Try.underlying9 (s := ⟨l.toArray⟩) h
  simpa using this
/-- the map of the words. -/
def manyD : DataW Unit := (((DataW.map []).put (.string lamW) (.lit (.int .i64 1))).put (.string appW) (.lit (.int .i64 2))).put (.string ifW) (.lit (.int .i64 3))
open Go.Maps in
theorem many_at (wd : List UInt8) : manyD.atKey (.string wd) (.lit (.int .i64 0)) = .lit (.int .i64 (many wd : Int)) := by
  have h1 : IsMap ((DataW.map []).put (.string lamW) (.lit (.int .i64 1)) : DataW Unit) := isMap_empty.put _ _
  have h2 := h1.put (.string appW) (.lit (.int .i64 2))
  unfold manyD many
  by_cases e3 : wd = ifW
  · subst e3
    rw [atKey_put_same h2 (by simp [WideAt.IsKeyLit])]
    rfl
  · rw [atKey_put_other (by intro e; cases e; exact e3 rfl)]
    by_cases e2 : wd = appW
    · subst e2
      rw [atKey_put_same h1 (by simp [WideAt.IsKeyLit])]
      rfl
    · rw [atKey_put_other (by intro e; cases e; exact e2 rfl)]
      by_cases e1 : wd = lamW
      · subst e1
        rw [atKey_put_same isMap_empty (by simp [WideAt.IsKeyLit])]
        rfl
      · rw [atKey_put_other (by intro e; cases e; exact e1 rfl), if_neg e1, if_neg e2, if_neg e3]
        rfl
theorem lit_int_inj {a b : Int} (h : (DataW.lit (.int .i64 a) : DataW Unit) = .lit (.int .i64 b)) : a = b := by cases h; rfl
theorem zeroI (w : World) : (zeroValue 3).run Try.prog w = .ok (.int .i64 0) w := by kernel_rfl

theorem info_pterm : (Try.prog.info? 32).map (fun i => (i.zero, i.size, i.bytes)) = some (some (.pointer none), 1, 8) := by kernel_rfl
/-- Blocks behind q but the one of a row. -/
def OffT (q : Nat) (v : Value) : Nat → Prop := fun b => q < b ∧ v.ownBlock ≠ some b
/-- The term under construction. -/
def TMI (wr : World) (q N : Nat) (a b c : Value) (ts : List Tm) : Prop :=
  ∃ (A : Option Addr) (cap : Nat) (qs : Nat → Nat), Blk wr q 63 #[a, b, c, .slice A ts.length cap] ∧
    wr.ownsRow N 32 1 (.slice A ts.length cap) ts.length ((List.range ts.length).map fun i => ptrv (qs i)) ∧ ∀ i u, ts[i]? = some u → TermP wr (OffT q (.slice A ts.length cap)) (qs i) u
theorem tmi_step {wr w3 w4 : World} {q N n p : Nat} {a b c : Value} {ts : List Tm} {Ak A' : Option Addr} {ck cap' : Nat} {qs : Nat → Nat} {q' : Nat} {t : Tm} {o : Obj} (hn : ts.length = n) (hpq : p < q) (hqN : q < N) (hN : N ≤ wr.heap.size) (hg : wr.grownBy w3 (some p))
    (hown : wr.ownsRow N 32 1 (.slice Ak n ck) n ((List.range n).map fun i => ptrv (qs i)))
    (hks : ∀ i u, ts[i]? = some u → TermP wr (OffT q (.slice Ak n ck)) (qs i) u) (hkq : TermP w3 (Fr wr.heap.size) q' t)
    (hown4 : w4.ownsRow N 32 1 (.slice A' (n + 1) cap') (n + 1) ((List.range n).map (fun i => ptrv (qs i)) ++ [ptrv q']))
    (hg3 : (w3.alloc o).grownBy w4 (Value.slice Ak n ck).ownBlock)
    (hat : (Value.slice A' (n + 1) cap').ownBlock = (Value.slice Ak n ck).ownBlock ∨ (Value.slice A' (n + 1) cap').ownBlock = some (w3.alloc o).heap.size)
    (hb : Blk w4 q 63 #[a, b, c, .slice Ak n ck]) : TMI (w4.setCell ⟨q, 3, none⟩ (.slice A' (n + 1) cap')) q N a b c (ts ++ [t]) := by
  subst hn
  have hs2 := hg.size
  have hl : (ts ++ [t]).length = ts.length + 1 := by simp
  have hsz : (w3.alloc o).heap.size = w3.heap.size + 1 := World.size_alloc _ _
  have hlt : ∀ g, (Value.slice Ak ts.length ck).ownBlock = some g → g < wr.heap.size := fun g hg => (hown.lt g hg).2
  refine ⟨A', cap', fun i => if i < ts.length then qs i else q', ?_, ?_, ?_⟩
  · rw [hl]
    have := Blk.set hb 3 (.slice A' (ts.length + 1) cap')
    simpa using this
  · rw [hl]
    have h1 := ownsRow_setCell_below hown4 (a := ⟨q, 3, none⟩) hqN (.slice A' (ts.length + 1) cap')
    have e : ((List.range ts.length).map (fun i => ptrv (qs i)) ++ [ptrv q']) = (List.range (ts.length + 1)).map (fun i => ptrv (if i < ts.length then qs i else q')) := by
      rw [List.range_succ, List.map_append]
      congr 1
      · refine List.map_congr_left fun i hi => ?_
        rw [if_pos (by simpa using hi)]
      · simp
    rw [← e]
    exact h1
  · intro i u hu
    rw [hl]
    by_cases hi : i < ts.length
    · rw [List.getElem?_append_left hi] at hu
      dsimp only
      rw [if_pos hi]
      have h1 := (hks i u hu).mono (G := fun b => b < wr.heap.size ∧ OffT q (.slice Ak ts.length ck) b) (fun b h1 h2 => ⟨h2, h1⟩)
      refine (h1.keep (w' := w4.setCell ⟨q, 3, none⟩ (.slice A' (ts.length + 1) cap')) fun b hb _ => ?_).mono fun b hb _ => ⟨hb.2.1, fun he => ?_⟩
      · rw [heap_setCell_other _ _ _ _ (by have := hb.2.1; show b ≠ q; omega), hg3.block b (by have := hb.1; omega) (fun e => hb.2.2 e.symm), (gr_alloc hg o).block b hb.1 (fun e => by injection e with e; have := hb.2.1; omega)]
      · rcases hat with h | h
        · exact hb.2.2 (h.symm.trans he)
        · rw [h] at he
          have := hb.1
          cases he
          omega
    · have hi2 : i = ts.length := by
        have := (List.getElem?_eq_some_iff.1 hu).1
        omega
      subst hi2
      obtain rfl : t = u := by simpa using hu
      dsimp only
      rw [if_neg (by omega)]
      have h1 := hkq.mono (G := fun b => b < w3.heap.size ∧ wr.heap.size ≤ b) (fun b h1 h2 => ⟨h2, h1⟩)
      refine (h1.keep (w' := w4.setCell ⟨q, 3, none⟩ (.slice A' (ts.length + 1) cap')) fun b hb _ => ?_).mono fun b hb _ => ⟨by have := hb.2; omega, fun he => ?_⟩
      · rw [heap_setCell_other _ _ _ _ (by have := hb.2; show b ≠ q; omega), hg3.block b (by have := hb.1; omega) (fun e => by have := hlt b e.symm; have := hb.2; omega), (World.grownBy_alloc w3 o none).block b hb.1 (by simp)]
      · rcases hat with h | h
        · have := hlt b (h.symm.trans he)
          have := hb.2
          omega
        · rw [h] at he
          have := hb.1
          cases he
          omega
theorem own_keepT {w w' : World} {base : Nat} {e : TypeId} {v : Value} {n : Nat} {xs : List Value} {x : Option Nat} (h : w.ownsRow base e 1 v n xs) (hg : w.grownBy w' x) (hx : ∀ g, v.ownBlock = some g → some g ≠ x) : w'.ownsRow base e 1 v n xs := by
  obtain ⟨hl, ⟨rfl, rfl⟩ | ⟨g, cap, cur, rfl, hb, hr, h1, h2, h3, h4⟩⟩ := h
  · exact ⟨hl, .inl ⟨rfl, rfl⟩⟩
  · have hlt := (Array.getElem?_eq_some_iff.1 hr).1
    exact ⟨hl, .inr ⟨g, cap, cur, rfl, hb, (hg.block g hlt (hx g rfl)).trans hr, h1, h2, h3, h4⟩⟩
theorem TMI.grown {w w' : World} {q N p : Nat} {a b c : Value} {ts : List Tm} (h : TMI w q N a b c ts) (hg : w.grownBy w' (some p)) (hp : p < q) (hN : q < N) : TMI w' q N a b c ts := by
  obtain ⟨A, cap, qs, h1, h2, h3⟩ := h
  exact ⟨A, cap, qs, h1.grown hg (fun e => by injection e; omega), own_keepT h2 hg (fun g hg' e => by have := own_base h2 hg'; injection e; omega), fun i u hu => (h3 i u hu).keep fun b hb hl => hg.block b hl (fun e => by injection e with e; have := hb.1; omega)⟩
/-- The word, the name and the type that stand ahead of the parts. -/
def THead (w : World) (q N : Nat) (wd x : List UInt8) (k : Ty) (c : Value) (m : Nat) : Prop :=
  (wd = lamW ∧ m = 1 ∧ ∃ qk, c = ptrv qk ∧ KindP w (fun b => q < b ∧ b < N) qk k) ∨ (wd = appW ∧ m = 2 ∧ x = [] ∧ c = .pointer none) ∨ (wd = ifW ∧ m = 3 ∧ x = [] ∧ c = .pointer none)
theorem termP_end {w : World} {q N m : Nat} {wd x : List UInt8} {k : Ty} {c : Value} {ts : List Tm} {F : Nat → Prop} (hh : THead w q N wd x k c m) (h : TMI w q N (.string ⟨wd.toArray⟩) (.string ⟨x.toArray⟩) c ts) (hl : ts.length = m) (hF : ∀ b, q ≤ b → F b) (hqN : q < N) :
    TermP w F q (mkTm x k ts) := by
  obtain ⟨A, cap, qs, h1, h2, h3⟩ := h
  have hp : ∀ i u, ts[i]? = some u → TermP w F (qs i) u := fun i u hu => (h3 i u hu).mono fun b hb _ => hF b (Nat.le_of_lt hb.1)
  obtain ⟨A', cap', e, hS⟩ := own_form h2
  cases e
  have hS := hS F fun g hg => hF g (Nat.le_of_lt (Nat.lt_of_lt_of_le hqN (own_base h2 hg)))
  have hS2 : ∀ f : Nat → Value, (∀ i, i < ts.length → f i = ptrv (qs i)) → Sl w F A ts.length f := fun f hf hn => by
    obtain ⟨g, o, e1, e2, e3⟩ := hS hn
    refine ⟨g, o, e1, e2, fun i hi => ?_⟩
    rw [e3 i hi, hf i hi]
    simp [hi]
  rcases hh with ⟨rfl, rfl, qk, rfl, hk⟩ | ⟨rfl, rfl, rfl, rfl⟩ | ⟨rfl, rfl, rfl, rfl⟩
  · obtain ⟨b, rfl⟩ := List.length_eq_one_iff.1 hl
    have hs := hS2 (fun _ => ptrv (qs 0)) fun i hi => by
      obtain rfl : i = 0 := by simpa using hi
      rfl
    exact .lam q x k b qk (qs 0) A cap (hF q (Nat.le_refl _)) h1 hs (hk.mono fun b hb _ => hF b (Nat.le_of_lt hb.1)) (hp 0 b rfl)
  · obtain ⟨m, n, rfl⟩ := len2 hl
    have hs := hS2 (fun i => ptrv (if i = 0 then qs 0 else qs 1)) fun i hi => by
      have : i = 0 ∨ i = 1 := by simp at hi; omega
      rcases this with rfl | rfl <;> rfl
    exact .app q m n (qs 0) (qs 1) A cap (hF q (Nat.le_refl _)) h1 hs (hp 0 m rfl) (hp 1 n rfl)
  · obtain ⟨l, m, n, rfl⟩ := len3 hl
    have hs := hS2 (fun i => ptrv (if i = 0 then qs 0 else if i = 1 then qs 1 else qs 2)) fun i hi => by
      have : i = 0 ∨ i = 1 ∨ i = 2 := by simp at hi; omega
      rcases this with rfl | rfl | rfl <;> rfl
    exact .ite q l m n (qs 0) (qs 1) (qs 2) A cap (hF q (Nat.le_refl _)) h1 hs (hp 0 l rfl) (hp 1 m rfl) (hp 2 n rfl)

theorem gr_own_x {a b c : World} {x y : Option Nat} (h : a.grownBy b x) (k : b.grownBy c y) (hy : ∀ g, y = some g → a.heap.size ≤ g) : a.grownBy c x :=
  ⟨k.os.trans h.os, k.tape.trans h.tape, k.output.trans h.output, Nat.le_trans h.size k.size, fun i hi hx => (k.block i (Nat.lt_of_lt_of_le hi h.size) (fun e => by have := hy i e.symm; omega)).trans (h.block i hi hx)⟩
theorem THead.keep {w w' : World} {q N m : Nat} {wd x : List UInt8} {k : Ty} {c : Value} (h : THead w q N wd x k c m) (hk : ∀ b, q < b → b < N → w'.heap[b]? = w.heap[b]?) : THead w' q N wd x k c m := by
  rcases h with ⟨h1, h2, qk, h3, h4⟩ | h | h
  · exact .inl ⟨h1, h2, qk, h3, h4.keep fun b hb _ => hk b hb.1 hb.2⟩
  · exact .inr (.inl h)
  · exact .inr (.inr h)
/-- What is read ahead, and what is read now. -/
def joinP (ts : List Tm) (o : Option (List Tm × List UInt8)) : Option (List Tm × List UInt8) := match o with
  | some (us, r) => some (ts ++ us, r)
  | none => none
theorem joinP_join (ts : List Tm) (t : Tm) (o : Option (List Tm × List UInt8)) : joinP ts (joinP [t] o) = joinP (ts ++ [t]) o := by
  cases o with
  | none => rfl
  | some v => simp [joinP]
theorem tparts_sp {p : List UInt8 → Option (Tm × List UInt8)} {j : Nat} {l : List UInt8} (h : pre [32] l = false) : tparts p (j + 1) l = none := by unfold tparts; rw [h]; rfl
theorem tparts_no {p : List UInt8 → Option (Tm × List UInt8)} {j : Nat} {l : List UInt8} (h : pre [32] l = true) (h2 : p (cut [32] l) = none) : tparts p (j + 1) l = none := by unfold tparts; rw [h, h2]; rfl
theorem tparts_yes {p : List UInt8 → Option (Tm × List UInt8)} {j : Nat} {l r : List UInt8} {t : Tm} (h : pre [32] l = true) (h2 : p (cut [32] l) = some (t, r)) : tparts p (j + 1) l = joinP [t] (tparts p j r) := by
  conv => lhs; unfold tparts
  rw [h, h2]
  simp only [if_true]
  cases tparts p j r with
  | none => rfl
  | some v => rfl

/-- All that is known ahead of the loop. -/
def TLoop (w wL : World) (p q n m : Nat) (r dL wd x : List UInt8) (k : Ty) (c : Value) : Prop :=
  Scan wL p dL ∧ dL.length ≤ r.length ∧ Blk wL q 63 #[.string ⟨wd.toArray⟩, .string ⟨x.toArray⟩, c, .slice none 0 0] ∧ w.grownBy wL (some p) ∧ THead wL q wL.heap.size wd x k c m ∧ tparse (n + 1) r = tend x k (tparts (tparse n) m dL)
/-- .. and in it. -/
def TRound (w wL wr : World) (p q n m j : Nat) (r wd x : List UInt8) (k : Ty) (c : Value) (ts : List Tm) (rj : List UInt8) : Prop :=
  ts.length = j ∧ Scan wr p rj ∧ rj.length ≤ r.length ∧ TMI wr q wL.heap.size (.string ⟨wd.toArray⟩) (.string ⟨x.toArray⟩) c ts ∧ wL.heap.size ≤ wr.heap.size ∧ (∀ b, q < b → b < wL.heap.size → wr.heap[b]? = wL.heap[b]?) ∧
    THead wL q wL.heap.size wd x k c m ∧ tparse (n + 1) r = tend x k (joinP ts (tparts (tparse n) (m - j) rj)) ∧ w.grownBy wr (some p)
theorem TLoop.round {w wL : World} {p q n m : Nat} {r dL wd x : List UInt8} {k : Ty} {c : Value} (h : TLoop w wL p q n m r dL wd x k c) : TRound w wL wL p q n m 0 r wd x k c [] dL := by
  obtain ⟨h1, h2, h3, h4, h5, h6⟩ := h
  refine ⟨rfl, h1, h2, ⟨none, 0, fun _ => 0, h3, ⟨rfl, .inl ⟨rfl, rfl⟩⟩, fun i u hu => by simp at hu⟩, Nat.le_refl _, fun _ _ _ => rfl, h5, ?_, h4⟩
  rw [h6, Nat.sub_zero]
  cases tparts (tparse n) m dL with
  | none => rfl
  | some v => rfl

set_option maxRecDepth 100000 in
set_option maxHeartbeats 4000000 in
theorem term_any (n : Nat) : ∀ (p : Nat) (r : List UInt8) (w : World), Scan w p r → r.length ≤ 4000000000 → n ≤ 1000 →
    Calls Try.prog 28 #[.pointer (some ⟨p, 0, none⟩), .int .i64 (n : Int)] w (TermPost p n r w) := by
  induction n with
  | zero =>
    intro p r w hs hr hn
    cases hb : pre [40] r with
    | false => exact term_word 0 p r w hs hr hb
    | true =>
      have hPh := Lib.hid (show tparse 0 r = none by unfold tparse; rw [hb]; rfl)
      have e1 : ((0 : Nat) : Int) = 0 := rfl
      rw [e1]
      clear e1
      go_enter Try.func28, Try.ntmps28
      go_wp2_with fail
      refine (take_any p r [40] w hs (by omega) (by simp)).mono ?_
      rintro e w1 ⟨rfl, hs1, hg1⟩
      have hl1 : (cut [40] r).length ≤ r.length := pre_length
      generalize hr1 : cut [40] r = r1 at *
      have hwl := wlen_le r1
      go_wp2_with fail
      refine (word_any p 59 [] r1 w1 hs1 (by omega)).mono ?_
      rintro e w2 ⟨rfl, hs2, hg2⟩
      have hs2' : Scan w2 p (r1.drop (wlen r1)) := hs2
      have hl2 : (r1.drop (wlen r1)).length ≤ r1.length := by simp
      have hkey := keyOfS (r1.take (wlen r1)) (by rw [List.length_take]; unfold maxLen; omega)
      have hmm := @run_makeMap Try.prog
      generalize hwd : r1.take (wlen r1) = wd at *
      generalize hdd : r1.drop (wlen r1) = d at *
      have hg12 := gr_trans hg1 hg2
      have hbo := Blk.new w2 63 #[.string ⟨wd.toArray⟩, .string ⟨#[]⟩, .pointer none, .slice none 0 0]
      have hgo := World.grownBy_alloc w2 (.cells #[.string ⟨wd.toArray⟩, .string ⟨#[]⟩, .pointer none, .slice none 0 0] 63) none
      have hom := World.ownsMap_made (w2.alloc (.cells #[.string ⟨wd.toArray⟩, .string ⟨#[]⟩, .pointer none, .slice none 0 0] 63)) Try.prog 9 (plainElem (H := Unit) Try.prog 3)
      have hgm := World.grownBy_alloc (w2.alloc (.cells #[.string ⟨wd.toArray⟩, .string ⟨#[]⟩, .pointer none, .slice none 0 0] 63)) (.map #[] 0) none
      rw [World.size_alloc] at hom
      have hkl : keyOf Try.prog 9 (.string ⟨#[108, 97, 109]⟩) = some (.string lamW) := keyOfS lamW (by decide)
      have hka : keyOf Try.prog 9 (.string ⟨#[97, 112, 112]⟩) = some (.string appW) := keyOfS appW (by decide)
      have hki : keyOf Try.prog 9 (.string ⟨#[105, 102]⟩) = some (.string ifW) := keyOfS ifW (by decide)
      obtain ⟨w3, hr3, hom3, hg3⟩ := hom.update keyS Try.underlying85 (by unfold maxLen; omega) hkl (plainElem_int Try.underlying3 (a := 1) (by decide))
      obtain ⟨w4, hr4, hom4, hg4⟩ := hom3.update keyS Try.underlying85 (by unfold maxLen; omega) hka (plainElem_int Try.underlying3 (a := 2) (by decide))
      obtain ⟨w5, hr5, hom5, hg5⟩ := hom4.update keyS Try.underlying85 (by unfold maxLen; omega) hki (plainElem_int Try.underlying3 (a := 3) (by decide))
      obtain ⟨c, hr6, hat, _⟩ := hom5.lookup_int keyS Try.underlying85 Try.underlying3 (zeroI w5) hkey
      obtain rfl : (many wd : Int) = c := lit_int_inj ((many_at wd).symm.trans hat)
      have hgq5 : (w2.alloc (.cells #[.string ⟨wd.toArray⟩, .string ⟨#[]⟩, .pointer none, .slice none 0 0] 63)).grownBy w5 none :=
        gr_trans_new (gr_trans_new (gr_trans_new hgm hg3 (by rw [World.size_alloc]; exact Nat.le_refl _)) hg4 (by rw [World.size_alloc]; exact Nat.le_refl _)) hg5 (by rw [World.size_alloc]; exact Nat.le_refl _)
      have hgo5 : w2.grownBy w5 none := gr_trans hgo hgq5
      have hbo5 := hbo.grown0 hgq5
      have hs5 : Scan w5 p d := Blk.grown0 hs2' hgo5
      have hg05 := gr_trans hg12 (gr_weak hgo5 _)
      have hpl := hs.lt
      have hsz12 := hg12.size
      have hsz5 := hgo5.size
      have hq5 := hbo5.lt
      have hHid := Lib.hid hs5
      have hd5 : d.length ≤ r.length := by omega
      have hHid := Lib.hid hs5
      have o0 := hbo5.cell 0
      simp only [List.getElem?_toArray, List.getElem?_cons_zero] at o0
      clear hkl hka hki hom hom3 hom4 hom5 hat hbo hs2 hs2' hs5 hbo5 hkey hwd hdd hr1 hs1 hs hb
      generalize (many wd : Int) = mi at *
      cases hz : (mi == 0)
      all_goals
        go_wp2_with fail
        go_ret
        exact TermPost.no hPh.out hHid.out hd5 hg05
  | succ n ih =>
    intro p r w hs hr hn
    have ih := Lib.hid ih
    cases hb : pre [40] r with
    | false => exact term_word _ p r w hs hr hb
    | true =>
      have hbh := Lib.hid hb
      have e1 : ((n + 1 : Nat) : Int) = (n : Int) + 1 := by omega
      have n0 : (((n : Int) + 1) == 0) = false := by simp; omega
      rw [e1]
      clear e1
      go_enter Try.func28, Try.ntmps28
      go_wp2_with fail
      refine (take_any p r [40] w hs (by omega) (by simp)).mono ?_
      rintro e w1 ⟨rfl, hs1, hg1⟩
      have hl1 : (cut [40] r).length ≤ r.length := pre_length
      generalize hr1 : cut [40] r = r1 at *
      have hwl := wlen_le r1
      go_wp2_with fail
      refine (word_any p 59 [] r1 w1 hs1 (by omega)).mono ?_
      rintro e w2 ⟨rfl, hs2, hg2⟩
      have hs2' : Scan w2 p (r1.drop (wlen r1)) := hs2
      have hl2 : (r1.drop (wlen r1)).length ≤ r1.length := by simp
      have hkey := keyOfS (r1.take (wlen r1)) (by rw [List.length_take]; unfold maxLen; omega)
      have hmm := @run_makeMap Try.prog
      generalize hwd : r1.take (wlen r1) = wd at *
      generalize hdd : r1.drop (wlen r1) = d at *
      have hg12 := gr_trans hg1 hg2
      have hbo := Blk.new w2 63 #[.string ⟨wd.toArray⟩, .string ⟨#[]⟩, .pointer none, .slice none 0 0]
      have hgo := World.grownBy_alloc w2 (.cells #[.string ⟨wd.toArray⟩, .string ⟨#[]⟩, .pointer none, .slice none 0 0] 63) none
      have hom := World.ownsMap_made (w2.alloc (.cells #[.string ⟨wd.toArray⟩, .string ⟨#[]⟩, .pointer none, .slice none 0 0] 63)) Try.prog 9 (plainElem (H := Unit) Try.prog 3)
      have hgm := World.grownBy_alloc (w2.alloc (.cells #[.string ⟨wd.toArray⟩, .string ⟨#[]⟩, .pointer none, .slice none 0 0] 63)) (.map #[] 0) none
      rw [World.size_alloc] at hom
      have hkl : keyOf Try.prog 9 (.string ⟨#[108, 97, 109]⟩) = some (.string lamW) := keyOfS lamW (by decide)
      have hka : keyOf Try.prog 9 (.string ⟨#[97, 112, 112]⟩) = some (.string appW) := keyOfS appW (by decide)
      have hki : keyOf Try.prog 9 (.string ⟨#[105, 102]⟩) = some (.string ifW) := keyOfS ifW (by decide)
      obtain ⟨w3, hr3, hom3, hg3⟩ := hom.update keyS Try.underlying85 (by unfold maxLen; omega) hkl (plainElem_int Try.underlying3 (a := 1) (by decide))
      obtain ⟨w4, hr4, hom4, hg4⟩ := hom3.update keyS Try.underlying85 (by unfold maxLen; omega) hka (plainElem_int Try.underlying3 (a := 2) (by decide))
      obtain ⟨w5, hr5, hom5, hg5⟩ := hom4.update keyS Try.underlying85 (by unfold maxLen; omega) hki (plainElem_int Try.underlying3 (a := 3) (by decide))
      obtain ⟨c, hr6, hat, _⟩ := hom5.lookup_int keyS Try.underlying85 Try.underlying3 (zeroI w5) hkey
      obtain rfl : (many wd : Int) = c := lit_int_inj ((many_at wd).symm.trans hat)
      have hgq5 : (w2.alloc (.cells #[.string ⟨wd.toArray⟩, .string ⟨#[]⟩, .pointer none, .slice none 0 0] 63)).grownBy w5 none :=
        gr_trans_new (gr_trans_new (gr_trans_new hgm hg3 (by rw [World.size_alloc]; exact Nat.le_refl _)) hg4 (by rw [World.size_alloc]; exact Nat.le_refl _)) hg5 (by rw [World.size_alloc]; exact Nat.le_refl _)
      have hgo5 : w2.grownBy w5 none := gr_trans hgo hgq5
      have hbo5 := hbo.grown0 hgq5
      have hs5 : Scan w5 p d := Blk.grown0 hs2' hgo5
      have hg05 := gr_trans hg12 (gr_weak hgo5 _)
      have hpl := hs.lt
      have hsz12 := hg12.size
      have hsz5 := hgo5.size
      have hq5 := hbo5.lt
      have hHid := Lib.hid hs5
      have hd5 : d.length ≤ r.length := by omega
      have hP : tparse (n + 1) r = if many wd = 0 then none else if wd = lamW then (match tbind d with | some (x, k, r2) => tend x k (tparts (tparse n) 1 r2) | none => none) else tend [] .b (tparts (tparse n) (many wd) d) := by
        rw [← hwd, ← hdd, ← hr1]
        unfold tparse
        rw [hb]
        rfl
      have hPh := Lib.hid hP
      have hb5h := Lib.hid hbo5
      have hpq : p < w2.heap.size := by omega
      have hwq : w.heap.size ≤ w2.heap.size := by omega
      have hll := word_str3 wd
      have hmc := Lib.hid (many_cases (wd := wd))
      clear hP hkl hka hki hom hom3 hom4 hom5 hat hbo hs2 hs2' hs5 hbo5 hkey hwd hdd hr1 hs1 hs hb
      clear hgo hgm hg3 hg4 hg5 hgq5 hgo5 hg12 hg1 hg2 hwl hl1 hl2
      have o0 := hb5h.out.cell 0
      have o1 := hb5h.out.cell 1
      have o2 := hb5h.out.cell 2
      have o3 := hb5h.out.cell 3
      have f1 := hb5h.out.free 1
      have f2 := hb5h.out.free 2
      have f3 := hb5h.out.free 3
      simp only [List.getElem?_toArray, List.getElem?_cons_zero, List.getElem?_cons_succ] at o0 o1 o2 o3
      by_cases hm0 : many wd = 0
      · have hP := hPh.out
        rw [if_pos hm0] at hP
        have hPh2 := Lib.hid hP
        rw [hm0] at hr6
        clear hP hm0
        go_wp2_with fail
        go_ret
        exact TermPost.no hPh2.out hHid.out hd5 hg05
      · have hm1 : (((many wd : Nat) : Int) == 0) = false := by rw [beq_eq_false_iff_ne]; omega
        have hP := hPh.out
        rw [if_neg hm0] at hP
        have hM := Lib.hid (hmc.out hm0)
        have hm3 : many wd ≤ 3 := by rcases hM.out with h | h | h <;> omega
        clear hm0 hPh hmc
        by_cases hw : wd = lamW
        case' pos =>
          rw [if_pos hw] at hP
          have hPh := Lib.hid hP
          have hL : ((⟨wd.toArray⟩ : ByteArray).toList == [108, 97, 109]) = true := by rw [hll, hw]; rfl
          have hL2 : (wd == ([108, 97, 109] : List UInt8)) = true := by rw [hw]; rfl
          have hTk := Lib.hid (take_any p d [32] w5 hHid.out (by omega) (by simp))
          have hwh := Lib.hid hw
          clear hP hw hll
          go_wp2_with fail
          refine hTk.out.mono ?_
          rintro e w6 ⟨rfl, hs6, hg6⟩
          have hb6 := hb5h.out.grown hg6 (fun e => by injection e; omega)
          have hg06 := gr_trans hg05 hg6
          rcases Bool.eq_false_or_eq_true (pre [32] d) with hp | hp
          rotate_left
          · have hP := hPh.out
            have : tbind d = none := by unfold tbind; rw [hp]; rfl
            rw [this] at hP
            have hPh2 := Lib.hid hP
            clear hP this
            go_wp2_with fail
            go_ret
            exact TermPost.no hPh2.out hs6 (Nat.le_trans pre_length hd5) hg06
          have hd6 : (cut [32] d).length ≤ r.length := Nat.le_trans pre_length hd5
          have hB : tbind d = if isNm ((cut [32] d).take (wlen (cut [32] d))) && pre [32] ((cut [32] d).drop (wlen (cut [32] d))) then (match Ty.parse 60 (cut [32] ((cut [32] d).drop (wlen (cut [32] d)))) with | some (k, l4) => some ((cut [32] d).take (wlen (cut [32] d)), k, l4) | none => none) else none := by
            unfold tbind; rw [hp]; rfl
          rw [hB] at hPh
          clear hB
          generalize cut [32] d = d2 at *
          have hwl := wlen_le d2
          have hWd := Lib.hid (word_any p 59 [] d2 w6 hs6 (by omega))
          go_wp2_with fail
          refine hWd.out.mono ?_
          rintro e w7 ⟨rfl, hs7, hg7⟩
          have hs7' : Scan w7 p (d2.drop (wlen d2)) := hs7
          have hb7 := hb6.grown hg7 (fun e => by injection e; omega)
          have hld : (d2.drop (wlen d2)).length ≤ r.length := by rw [List.length_drop]; omega
          have hlx : (d2.take (wlen d2)).length ≤ 4000000000 := by rw [List.length_take]; omega
          clear hs7 hWd hTk o0 o1 o2 o3 f1 f2 f3
          generalize d2.take (wlen d2) = x at *
          generalize d2.drop (wlen d2) = d3 at *
          have hg07 := gr_trans hg06 hg7
          have o1 := hb7.cell 1
          have f1 := hb7.free 1
          simp only [List.getElem?_toArray, List.getElem?_cons_zero, List.getElem?_cons_succ] at o1
          have lt7 := hb7.lt
          have hb8 := Blk.set hb7 1 (.string ⟨x.toArray⟩)
          have hs8 : Scan (w7.setCell ⟨w2.heap.size, 1, none⟩ (.string ⟨x.toArray⟩)) p d3 := Blk.other hs7' (p := ⟨w2.heap.size, 1, none⟩) (by show p ≠ w2.heap.size; omega) _
          have hg08 := gr_set hg07 (p := ⟨w2.heap.size, 1, none⟩) (.inr hwq) (.string ⟨x.toArray⟩)
          have hNm := Lib.hid (fun W => isName_any x W hlx)
          go_wp2_with fail
          refine (hNm.out _).mono ?_
          rintro e w9 ⟨rfl, hg9⟩
          have hg09 := gr_trans hg08 (gr_weak hg9 _)
          have hs9 : Scan w9 p d3 := Blk.grown0 hs8 hg9
          have hb9 := Blk.grown0 hb8 hg9
          rcases Bool.eq_false_or_eq_true (isNm x) with hn | hn
          rotate_left
          · rw [hn] at hPh
            have hPh2 := Lib.hid (show tparse (n + 1) r = none from hPh.out)
            clear hPh
            go_wp2_with fail
            go_ret
            exact TermPost.no hPh2.out hs9 hld hg09
          have hTk := Lib.hid (take_any p d3 [32] w9 hs9 (by omega) (by simp))
          have hnh := Lib.hid hn
          rw [hn, Bool.true_and] at hPh
          go_wp2_with fail
          refine hTk.out.mono ?_
          rintro e w10 ⟨rfl, hs10, hg10⟩
          have hb10 := Blk.grown hb9 hg10 (fun e => by injection e; omega)
          have hg010 := gr_trans hg09 hg10
          rcases Bool.eq_false_or_eq_true (pre [32] d3) with hp3 | hp3
          rotate_left
          · rw [hp3] at hPh
            have hPh2 := Lib.hid (show tparse (n + 1) r = none from hPh.out)
            clear hPh
            go_wp2_with fail
            go_ret
            exact TermPost.no hPh2.out hs10 (Nat.le_trans pre_length hld) hg010
          rw [hp3] at hPh
          simp only [if_true] at hPh
          have hd4 : (cut [32] d3).length ≤ r.length := Nat.le_trans pre_length hld
          generalize cut [32] d3 = d4 at *
          have hKd := Lib.hid (kind_any 60 p d4 w10 hs10 (by omega) (by omega))
          go_wp2_with fail
          refine hKd.out.mono ?_
          rintro e w11 ⟨r5, hs11, hl11, hg11, hmm2⟩
          have hb11 := Blk.grown hb10 hg11 (fun e => by injection e; omega)
          have hg011 := gr_trans hg010 hg11
          have o2 := Blk.cell hb11 2
          have f2 := Blk.free hb11 2
          have lt11 := Blk.lt hb11
          cases hk : Ty.parse 60 d4
          · rw [hk] at hmm2 hPh
            subst hmm2
            have hPh2 := Lib.hid (show tparse (n + 1) r = none from hPh.out)
            have hb12 := Blk.set hb11 2 (.pointer none)
            have hs12 : Scan (w11.setCell ⟨w2.heap.size, 2, none⟩ (.pointer none)) p r5 := Blk.other hs11 (p := ⟨w2.heap.size, 2, none⟩) (by show p ≠ w2.heap.size; omega) _
            have hg012 := gr_set hg011 (p := ⟨w2.heap.size, 2, none⟩) (.inr hwq) (.pointer none)
            clear hPh hk
            go_wp2_with fail
            go_ret
            exact TermPost.no hPh2.out hs12 (by omega) hg012
          rename_i v
          obtain ⟨k, r6⟩ := v
          rw [hk] at hmm2 hPh
          obtain ⟨rfl, qk, rfl, hkp⟩ := hmm2
          simp only at hPh
          have hPL := Lib.hid (show tparse (n + 1) r = tend x k (tparts (tparse n) (many wd) r5) by rw [hwh.out, show many lamW = 1 from rfl]; exact hPh.out)
          have hbL := Blk.set hb11 2 (ptrv qk)
          have hsL : Scan (w11.setCell ⟨w2.heap.size, 2, none⟩ (ptrv qk)) p r5 := Blk.other hs11 (p := ⟨w2.heap.size, 2, none⟩) (by show p ≠ w2.heap.size; omega) _
          have hgL := gr_set hg011 (p := ⟨w2.heap.size, 2, none⟩) (.inr hwq) (ptrv qk)
          have hdL : r5.length ≤ r.length := by omega
          have hszL : w2.heap.size < (w11.setCell ⟨w2.heap.size, 2, none⟩ (ptrv qk)).heap.size := Blk.lt hbL
          have hHd := Lib.hid (show THead (w11.setCell ⟨w2.heap.size, 2, none⟩ (ptrv qk)) w2.heap.size (w11.setCell ⟨w2.heap.size, 2, none⟩ (ptrv qk)).heap.size wd x k (ptrv qk) (many wd) from .inl ⟨hwh.out, by rw [hwh.out]; rfl, qk, rfl, by
            have hlt10 := Blk.lt hb10
            have h1 := hkp.mono (G := fun b => w2.heap.size < b ∧ b < w11.heap.size) (fun b h1 h2 => ⟨Nat.lt_of_lt_of_le hlt10 h1, h2⟩)
            rw [World.size_setCell]
            exact h1.keep fun b hb _ => heap_setCell_other _ _ _ _ (by have := hb.1; show b ≠ w2.heap.size; omega)⟩)
          clear hPh hk hkp hb6 hb7 hb8 hb9 hb10 hb11 hs8 hs9 hs10 hs11 hg05 hg06 hg07 hg08 hg09 hg010 hg011 hg6 hg7 hg9 hg10 hg11 hKd hTk hNm hHid hs6 hs7' hl11
          have hTL := Lib.hid (show TLoop w (w11.setCell ⟨w2.heap.size, 2, none⟩ (ptrv qk)) p w2.heap.size n (many wd) r r5 wd x k (ptrv qk) from ⟨hsL, hdL, hbL, hgL, hHd.out, hPL.out⟩)
          clear hsL hdL hbL hgL hHd hPL
          go_wp2_with fail
          change Code.wp _ _ _ _ (w11.setCell ⟨w2.heap.size, 2, none⟩ (ptrv qk))
          generalize w11.setCell ⟨w2.heap.size, 2, none⟩ (ptrv qk) = wL at *
          generalize ptrv qk = c at *
          generalize hdLe : r5 = dL at *
        case' neg =>
          rw [if_neg hw] at hP
          have hL2 : (wd == ([108, 97, 109] : List UInt8)) = false := by rw [beq_eq_false_iff_ne]; exact hw
          have hL : ((⟨wd.toArray⟩ : ByteArray).toList == [108, 97, 109]) = false := by rw [hll]; exact hL2
          have hTL := Lib.hid (show TLoop w w5 p w2.heap.size n (many wd) r d wd [] .b (.pointer none) from ⟨hHid.out, hd5, hb5h.out, hg05, by
            rcases hM.out with h | h | h
            · exact absurd h.1 hw
            · exact .inr (.inl ⟨h.1, h.2, rfl, rfl⟩)
            · exact .inr (.inr ⟨h.1, h.2, rfl, rfl⟩), hP⟩)
          have hszL : w2.heap.size < w5.heap.size := Blk.lt hb5h.out
          clear hP hw hll hHid
          go_wp2_with fail
          clear o0 o1 o2 o3 f1 f2 f3 hb5h hg05
          generalize hwLe : w5 = wL at *
          generalize hdLe : d = dL at *
          obtain ⟨c, hc⟩ : ∃ c, c = Value.pointer none := ⟨_, rfl⟩
          obtain ⟨x, hx⟩ : ∃ x, x = ([] : List UInt8) := ⟨_, rfl⟩
          obtain ⟨k, hk⟩ : ∃ k, k = Ty.b := ⟨_, rfl⟩
          rw [← hc, ← hx, ← hk] at hTL
          clear hc hx hk
        all_goals
          go_loopw [84] (fun i wr => ∃ (j : Nat) (ts : List Tm) (rj : List UInt8), j ≤ many wd ∧ i = .int .i64 (j : Int) ∧ TRound w wL wr p w2.heap.size n (many wd) j r wd x k c ts rj) (fun i _ => many wd - (intOf i).toNat)
          case atStart => exact ⟨0, [], dL, Nat.zero_le _, rfl, hTL.out.round⟩
          case round =>
            obtain ⟨wi, hwi⟩ : ∃ wo, wo = wr := ⟨_, rfl⟩
            subst hwi
            obtain ⟨j, ts, rj, hjl, rfl, hR⟩ := hrel
            obtain ⟨hlen, hsc, hrl, hI, hNs, hkeep, hHd, hPj, hgr⟩ := hR
            have hPjh := Lib.hid hPj
            have hTk := fun (t : UInt8) => take_any p rj [t] wi hsc (by omega) (by simp)
            have hTk1 := Lib.hid (hTk 32)
            have hTk2 := Lib.hid (hTk 41)
            have hIh := Lib.hid hI
            have hkeeph := Lib.hid hkeep
            have hHdh := Lib.hid hHd
            have hlenh := Lib.hid hlen
            have htl := hTL
            clear hTk hPj hI hkeep hHd hlen hTL
            by_cases hj : j < many wd
            · have hjI : (j : Int) < ((many wd : Nat) : Int) := by omega
              have hmj : many wd - j = (many wd - (j + 1)) + 1 := by omega
              go_wp2_with fail
              refine hTk1.out.mono ?_
              rintro e wa ⟨rfl, hsa, hga⟩
              have hIa := Lib.hid (hIh.out.grown hga hpq hszL)
              have hgra := gr_trans hgr hga
              rcases Bool.eq_false_or_eq_true (pre [32] rj) with hp | hp
              rotate_left
              · have hP := hPjh.out
                rw [hmj, tparts_sp hp] at hP
                have hPh2 := Lib.hid (show tparse (n + 1) r = none from hP)
                clear hP
                go_wp2_with fail
                go_ret
                exact TermPost.no hPh2.out hsa (Nat.le_trans pre_length hrl) hgra
              have hph := Lib.hid hp
              have hra : (cut [32] rj).length ≤ r.length := Nat.le_trans pre_length hrl
              have hTm := Lib.hid (ih.out p (cut [32] rj) wa hsa (by omega) (by omega))
              go_wp2_with fail
              refine hTm.out.mono ?_
              rintro e wb ⟨r', hsb, hlb, hgb, hmm3⟩
              have hgrb := gr_trans hgra hgb
              cases htp : tparse n (cut [32] rj)
              · rw [htp] at hmm3
                subst hmm3
                have hP := hPjh.out
                rw [hmj, tparts_no hph.out htp] at hP
                have hPh2 := Lib.hid (show tparse (n + 1) r = none from hP)
                clear hP htp
                go_wp2_with fail
                go_ret
                exact TermPost.no hPh2.out hsb (by omega) hgrb
              rename_i v
              obtain ⟨t, r2⟩ := v
              rw [htp] at hmm3
              obtain ⟨rfl, q', rfl, hkt⟩ := hmm3
              have hP := hPjh.out
              rw [hmj, tparts_yes hph.out htp, joinP_join] at hP
              have hPh2 := Lib.hid hP
              clear hP htp
              obtain ⟨A, cap, qs, hbI, hown, hks⟩ := hIh.out
              rw [hlenh.out] at hbI hown hks
              have hgab := gr_trans hga hgb
              have hown2 := own_keepT hown hgab (fun g hg' e => by have := own_base hown hg'; injection e; omega)
              have hbI2 := hbI.grown hgab (fun e => by injection e; omega)
              have p3 := hbI2.cell 3
              simp only [List.getElem?_toArray, List.getElem?_cons_zero, List.getElem?_cons_succ] at p3
              have ltb := hbI2.lt
              have hszb := hgab.size
              have hownV := own_keepT hown2 (World.grownBy_alloc wb (.cells #[.pointer (some ⟨q', 0, none⟩)] 32) none) (by simp)
              have hkth := Lib.hid hkt
              have hksh := Lib.hid hks
              have hownh := Lib.hid hown
              have hbI2h := Lib.hid hbI2
              clear hkt hks hown hbI
              go_wp2_with (at_builtin; refine wpList_app rfl _ _ 61 rfl wL.heap.size 32 (.pointer none) 8 Try.underlying61 info_pterm rfl _ _ _ _ rfl hownV _ 1 1 _ rfl _ (sl_one wb 32 (.pointer (some ⟨q', 0, none⟩))) (fun _ _ => rfl) (by unfold maxLen; omega) (by omega) (by rw [World.size_alloc]; omega) ?_; intro A' cap' w4 hown4 hg4 hat4; have hb4 := (hbI2h.out.alloc (.cells #[.pointer (some ⟨q', 0, none⟩)] 32)).grown hg4 (fun e => by have := own_base hownV e.symm; omega); have hc4 := hb4.cell 3; have hf4 := hb4.free 3; have hl4 := hb4.lt; simp only [List.getElem?_toArray, List.getElem?_cons_zero, List.getElem?_cons_succ] at hc4)
              go_roundw
              case rel =>
                have hb4' := hb4
                have e1 : ((List.range j).map (fun i => ptrv (qs i)) ++ (List.range 1).map fun _ => Value.pointer (some ⟨q', 0, none⟩)) = (List.range j).map (fun i => ptrv (qs i)) ++ [ptrv q'] := rfl
                rw [e1] at hown4
                have hst := tmi_step (o := .cells #[.pointer (some ⟨q', 0, none⟩)] 32) hlenh.out hpq hszL hNs hgab hownh.out hksh.out (hkth.out.fr hga.size) hown4 hg4 hat4 hb4'
                have hgx : wb.grownBy w4 (Value.slice A j cap).ownBlock := gr_trans (gr_weak (World.grownBy_alloc wb _ none) _) hg4
                have hown_ge : ∀ g, (Value.slice A j cap).ownBlock = some g → wL.heap.size ≤ g := fun g hg => own_base hownh.out hg
                have hg5 : w.grownBy w4 (some p) := gr_own_x hgrb hgx (fun g hg => by have := hown_ge g hg; omega)
                refine ⟨j + 1, ts ++ [t], r', by omega, by go_num, by simp [hlenh.out], ?_, by omega, hst, ?_, ?_, hHdh.out, hPh2.out, gr_set hg5 (.inr hwq) _⟩
                · exact Blk.other (Blk.grown hsb hgx (fun e => by have := hown_ge p e.symm; omega)) (p := ⟨w2.heap.size, 3, none⟩) (by show p ≠ w2.heap.size; omega) _
                · rw [World.size_setCell]
                  have := hgx.size
                  omega
                · intro b h1 h2
                  rw [heap_setCell_other _ _ _ _ (by show b ≠ w2.heap.size; omega), hgx.block b (by omega) (fun e => by have := hown_ge b e.symm; omega), hgab.block b (by omega) (fun e => by injection e; omega)]
                  exact hkeeph.out b h1 h2
              case measure => simp [intOf]; omega
            · obtain rfl : j = many wd := by omega
              have hP := hPjh.out
              rw [Nat.sub_self] at hP
              have hPh := Lib.hid (show tparse (n + 1) r = tend x k (some (ts, rj)) by rw [hP]; simp [tparts, joinP])
              clear hP
              go_wp2_with fail
              refine hTk2.out.mono ?_
              rintro e wa ⟨rfl, hsa, hga⟩
              have hIa := hIh.out.grown hga hpq hszL
              have hgra := gr_trans hgr hga
              have hra : (cut [41] rj).length ≤ r.length := Nat.le_trans pre_length hrl
              rcases Bool.eq_false_or_eq_true (pre [41] rj) with hp | hp
              rotate_left
              · have hPh2 := Lib.hid (show tparse (n + 1) r = none by rw [hPh.out]; unfold tend; simp only [hp]; rfl)
                go_wp2_with fail
                go_ret
                exact TermPost.no hPh2.out hsa hra hgra
              have hPh2 := Lib.hid (show tparse (n + 1) r = some (mkTm x k ts, cut [41] rj) by rw [hPh.out]; unfold tend; simp only [hp, if_true])
              have hfin := Lib.hid (termP_end (F := Fr w.heap.size) (hHdh.out.keep (w' := wa) (fun b h1 h2 => (hga.block b (by omega) (fun e => by injection e; omega)).trans (hkeeph.out b h1 h2))) hIa hlenh.out (fun b hb => Nat.le_trans hwq hb) hszL)
              clear hIa
              go_wp2_with fail
              go_ret
              exact TermPost.yes hPh2.out hsa hra hgra hfin.out
end Go.Proofs.Ytiaafacmfflfiaa
