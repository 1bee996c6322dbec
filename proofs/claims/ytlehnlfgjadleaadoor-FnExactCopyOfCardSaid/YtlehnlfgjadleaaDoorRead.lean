/- The reference's reader of types. -/
import Derived.Test.YtlehnlfgjadleaaDoorKind2
namespace Go.Proofs.YtlehnlfgjadleaaDoor
open Go.RowKit

theorem info_tree : (Tryd.prog.info? 29).map (fun i => (i.zero, i.size, i.bytes)) = some (some (.agg #[.slice none 0 0]), 1, 24) := by kernel_rfl

/-- With so many levels left, none for 0. -/
def Ty.parseF : Nat → List UInt8 → Option (Ty × List UInt8)
  | 0, _ => none
  | f + 1, l => Ty.parse f l

theorem args_leF {n : Nat} {r r' : List UInt8} {t : Ty} (h : Ty.parseF n r = some (t, r')) : t.args.length ≤ r.length := by
  cases n with
  | zero => cases h
  | succ n => exact args_le h

theorem Ty.parseF_step {f : Nat} {r : List UInt8} (h2 : pre [40, 62, 32] r = true) :
    Ty.parseF (f + 1) r = match Ty.parseF f (cut [40, 62, 32] r) with
      | some (a, r1) => if pre [32] r1 then (match Ty.parseF f (cut [32] r1) with
        | some (c, r2) => if pre [41] r2 then some (.arr a c, cut [41] r2) else none
        | none => none) else none
      | none => none := by
  cases f with
  | zero =>
    show Ty.parse 0 r = none
    apply parse_zero
    cases r with
    | nil => rfl
    | cons c r =>
      have h3 : 40 = c := by
        simp [pre] at h2
        exact h2.1
      subst h3
      rfl
  | succ f => exact parse_step h2

theorem byte_is (l : List UInt8) (i : Nat) (h : i < l.length) (h' : i < (⟨l.toArray⟩ : ByteArray).size) (c : UInt8) (k : Int) (hk : (c.toNat : Int) = k) :
    (((((⟨l.toArray⟩ : ByteArray)[i]'h').toNat : Int)) == k) = pre [c] (l.drop i) := by
  subst hk
  have e : ((⟨l.toArray⟩ : ByteArray)[i]'h') = l[i] := by
    show (l.toArray)[i]'(by simpa using h) = l[i]
    simp
  rw [e, List.drop_eq_getElem_cons h]
  simp only [pre, List.isPrefixOf, Bool.and_true]
  rw [Bool.eq_iff_iff]
  simp only [beq_iff_eq]
  constructor
  · intro h1
    have : c.toNat = l[i].toNat := by omega
    exact UInt8.toNat_inj.1 this
  · intro h1
    rw [h1]

theorem byte_ne (l : List UInt8) (i : Nat) (h : i < l.length) (h' : i < (⟨l.toArray⟩ : ByteArray).size) (c : UInt8) (k : Int) (hk : (c.toNat : Int) = k) :
    (((((⟨l.toArray⟩ : ByteArray)[i]'h').toNat : Int)) != k) = !pre [c] (l.drop i) := by
  rw [bne, byte_is l i h h' c k hk]

theorem ext_is (l t : List UInt8) (i j : Nat) (hj : j = i + t.length) (hl : j ≤ l.length) : (((⟨l.toArray⟩ : ByteArray).extract i j).toList == t) = pre t (l.drop i) := by
  subst hj
  rw [toList_extract, pre_eq]
  have : t.length ≤ (l.drop i).length := by rw [List.length_drop]; omega
  simp only [this, decide_true, Bool.true_and]
  congr 1
  rw [List.drop_take]
  congr 1
  omega

theorem pre_long {t l : List UInt8} {i : Nat} (h : l.length < i + t.length) (ht : 0 < t.length) : pre t (l.drop i) = false := by
  rw [pre_eq]
  have : ¬ t.length ≤ (l.drop i).length := by rw [List.length_drop]; omega
  rw [decide_eq_false this, Bool.false_and]

theorem cut_drop {t l : List UInt8} {i : Nat} (h : pre t (l.drop i) = true) : cut t (l.drop i) = l.drop (i + t.length) := by
  rw [cut_yes h, List.drop_drop]

/-- What the reference's reader leaves. -/
def ReadSPost (f : Nat) (l : List UInt8) (i : Nat) (w : World) (e : Ending) (w' : World) : Prop :=
  w.grownBy w' none ∧
    match Ty.parseF f (l.drop i) with
    | none => e = .returned (.tuple #[.agg #[.slice none 0 0], .int .i64 (-1)])
    | some (t, r) => ∃ A c j, j ≤ l.length ∧ i < j ∧ r = l.drop j ∧ e = .returned (.tuple #[.agg #[.slice A t.args.length c], .int .i64 ((j : Nat) : Int)]) ∧ TreeV w' (Fr w.heap.size) (.slice A t.args.length c) t

theorem ReadSPost.no {f : Nat} {l : List UInt8} {i : Nat} {w w' : World} (h : Ty.parseF f (l.drop i) = none) (hg : w.grownBy w' none) :
    ReadSPost f l i w (.returned (.tuple #[.agg #[.slice none 0 0], .int .i64 (-1)])) w' := ⟨hg, by rw [h]⟩

theorem ReadSPost.yes {f : Nat} {l : List UInt8} {i j c : Nat} {w w' : World} {t : Ty} {A : Option Addr} (h : Ty.parseF f (l.drop i) = some (t, l.drop j)) (hg : w.grownBy w' none) (hj : j ≤ l.length) (hij : i < j)
    (ht : TreeV w' (Fr w.heap.size) (.slice A t.args.length c) t) :
    ReadSPost f l i w (.returned (.tuple #[.agg #[.slice A t.args.length c], .int .i64 ((j : Nat) : Int)])) w' :=
  ⟨hg, by rw [h]; exact ⟨A, c, j, hj, hij, rfl, rfl, ht⟩⟩

set_option maxHeartbeats 1000000 in
/-- It fails at once. -/
theorem l1Read_no (f : Nat) (l : List UInt8) (i : Nat) (d : Int) (w : World) (_hl : l.length ≤ 1099511627776) (_hi : i ≤ l.length + 10) (hd : d > 20 ∨ l.length ≤ i) (h : Ty.parseF f (l.drop i) = none) :
    Calls Tryd.prog 26 #[.string ⟨l.toArray⟩, .int .i64 (i : Int), .int .i64 d] w (ReadSPost f l i w) := by
  have h := Lib.hid h
  have hg := World.grownBy_alloc w (.cells #[.slice none 0 0] 29) none
  by_cases hd1 : d > 20
  · go_enter Tryd.func26, Tryd.ntmps26
    go_wp2_with fail
    exact bodyPost_ret (v := .tuple #[.agg #[.slice none 0 0], .int .i64 (-1)]) (by simp [results, Tryd.results26, go_sem]) rfl (ReadSPost.no h.out hg)
  · have hd2 : l.length ≤ i := by omega
    go_enter Tryd.func26, Tryd.ntmps26
    go_wp2_with fail
    exact bodyPost_ret (v := .tuple #[.agg #[.slice none 0 0], .int .i64 (-1)]) (by simp [results, Tryd.results26, go_sem]) rfl (ReadSPost.no h.out hg)

theorem treeV_b {w : World} {F : Nat → Prop} : TreeV w F (.slice none 0 0) .b := .mk .b none 0 (fun _ => .nilIface) (fun h => absurd h (by simp [Ty.args])) (fun i u hu => by simp [Ty.args] at hu) (Nat.le_refl _)

/-- A function type out of its parts. -/
theorem treeV_arr {w : World} {F : Nat → Prop} {base : Nat} {a c : Ty} {A1 A' : Option Addr} {n1 cp1 cap : Nat} {vs2 : Nat → Value}
    (hown : w.ownsRow base 29 1 (.slice A' (1 + c.args.length) cap) (1 + c.args.length) ([.slice A1 n1 cp1] ++ (List.range c.args.length).map vs2)) (hF : ∀ b, base ≤ b → F b)
    (h1 : TreeV w F (.slice A1 n1 cp1) a) (h2 : ∀ i u, c.args[i]? = some u → TreeV w F (vs2 i) u) : TreeV w F (.slice A' (Ty.arr a c).args.length cap) (.arr a c) := by
  obtain ⟨A'', cap'', e2, hsl⟩ := own_form hown
  cases e2
  have hsl := hsl F fun g hg => hF g (own_base hown hg)
  have hn : (Ty.arr a c).args.length = 1 + c.args.length := by simp [Ty.args]; omega
  have hcap : (Ty.arr a c).args.length ≤ cap := by
    rcases hown.2 with ⟨h0, _⟩ | ⟨g, cp, cur, e1, _, _, hnc, _⟩
    · omega
    · cases e1
      omega
  refine .mk (.arr a c) A' cap (fun i => if i = 0 then .slice A1 n1 cp1 else vs2 (i - 1)) ?_ ?_ hcap
  · rw [hn]
    intro h0
    obtain ⟨g, o, e1, hne, hcell⟩ := hsl h0
    refine ⟨g, o, e1, hne, fun i hi => ?_⟩
    rw [hcell i hi]
    cases i with
    | zero => rfl
    | succ i =>
      have hi' : i < c.args.length := by omega
      simp [List.getD, hi']
  · intro i u hu
    cases i with
    | zero =>
      obtain rfl : a = u := by simpa [Ty.args] using hu
      exact h1
    | succ i => exact h2 i u (by simpa [Ty.args] using hu)

/-- What the induction gives. -/
def ReadIH (f : Nat) : Prop := ∀ (l : List UInt8) (i : Nat) (d : Int) (w : World), l.length ≤ 1099511627776 → i ≤ l.length + 10 → d = 21 - (f : Int) → f ≤ 21 →
    Calls Tryd.prog 26 #[.string ⟨l.toArray⟩, .int .i64 (i : Int), .int .i64 d] w (ReadSPost f l i w)

set_option maxHeartbeats 1000000 in
theorem l1Read_b (f : Nat) (l : List UInt8) (i : Nat) (d : Int) (w : World) (_hl : l.length ≤ 1099511627776) (hlt : i < l.length) (_hd : d ≤ 20 ∧ 0 ≤ d) (hb : pre [98] (l.drop i) = true) :
    Calls Tryd.prog 26 #[.string ⟨l.toArray⟩, .int .i64 (i : Int), .int .i64 d] w (ReadSPost (f + 1) l i w) := by
  have hlt' : i < (⟨l.toArray⟩ : ByteArray).size := by simpa [ByteArray.size] using hlt
  have hg := World.grownBy_alloc w (.cells #[.slice none 0 0] 29) none
  have hb98 := byte_is l i hlt hlt' 98 98 rfl
  rw [hb] at hb98
  have hP := Lib.hid (parse_b (n := f) hb)
  have hcd := Lib.hid (cut_drop hb)
  clear hb
  go_enter Tryd.func26, Tryd.ntmps26
  go_wp2_with fail
  refine bodyPost_ret (v := .tuple #[.agg #[.slice none 0 0], .int .i64 ((i + 1 : Nat) : Int)]) (by simp [results, Tryd.results26, go_sem]) rfl (ReadSPost.yes (t := .b) ?_ hg (by omega) (by omega) treeV_b)
  exact hP.out.trans (by rw [hcd.out]; rfl)

set_option maxHeartbeats 1000000 in
theorem l1Read_short (f : Nat) (l : List UInt8) (i : Nat) (d : Int) (w : World) (_hl : l.length ≤ 1099511627776) (hlt : i < l.length) (_hd : d ≤ 20 ∧ 0 ≤ d) (hb : pre [98] (l.drop i) = false) (hl3 : l.length < i + 3) :
    Calls Tryd.prog 26 #[.string ⟨l.toArray⟩, .int .i64 (i : Int), .int .i64 d] w (ReadSPost (f + 1) l i w) := by
  have hlt' : i < (⟨l.toArray⟩ : ByteArray).size := by simpa [ByteArray.size] using hlt
  have hg := World.grownBy_alloc w (.cells #[.slice none 0 0] 29) none
  have hb98 := byte_is l i hlt hlt' 98 98 rfl
  rw [hb] at hb98
  have hP := Lib.hid (parse_no (n := f) hb (pre_long (t := [40, 62, 32]) hl3 (by simp)))
  clear hb
  go_enter Tryd.func26, Tryd.ntmps26
  go_wp2_with fail
  exact bodyPost_ret (v := .tuple #[.agg #[.slice none 0 0], .int .i64 (-1)]) (by simp [results, Tryd.results26, go_sem]) rfl (ReadSPost.no hP.out hg)

set_option maxHeartbeats 1000000 in
theorem l1Read_else (f : Nat) (l : List UInt8) (i : Nat) (d : Int) (w : World) (_hl : l.length ≤ 1099511627776) (hlt : i < l.length) (_hd : d ≤ 20 ∧ 0 ≤ d) (hb : pre [98] (l.drop i) = false) (hl3 : ¬ l.length < i + 3) (hp : pre [40, 62, 32] (l.drop i) = false) :
    Calls Tryd.prog 26 #[.string ⟨l.toArray⟩, .int .i64 (i : Int), .int .i64 d] w (ReadSPost (f + 1) l i w) := by
  have hlt' : i < (⟨l.toArray⟩ : ByteArray).size := by simpa [ByteArray.size] using hlt
  have hg := World.grownBy_alloc w (.cells #[.slice none 0 0] 29) none
  have hb98 := byte_is l i hlt hlt' 98 98 rfl
  rw [hb] at hb98
  have hx3 := ext_is l [40, 62, 32] i (i + 3) rfl (by omega)
  have hP := Lib.hid (parse_no (n := f) hb hp)
  rw [hp] at hx3
  clear hb hp
  go_enter Tryd.func26, Tryd.ntmps26
  go_wp2_with fail
  exact bodyPost_ret (v := .tuple #[.agg #[.slice none 0 0], .int .i64 (-1)]) (by simp [results, Tryd.results26, go_sem]) rfl (ReadSPost.no hP.out hg)
end Go.Proofs.YtlehnlfgjadleaaDoor
