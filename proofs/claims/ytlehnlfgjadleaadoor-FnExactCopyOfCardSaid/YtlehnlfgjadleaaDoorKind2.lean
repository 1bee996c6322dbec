/- Counting atoms, the order, the whole reader. -/
import Derived.Test.YtlehnlfgjadleaaDoorKind
namespace Go.Proofs.YtlehnlfgjadleaaDoor
open Go.RowKit

theorem ret_int {k : IntKind} {a b : Int} (h : a = b) : Ending.returned (.int k a) = .returned (.int k b) := by rw [h]

namespace Ty
def sumA : List Ty → Nat
  | [] => 0
  | a :: l => 1 + a.atoms + sumA l
def maxO : List Ty → Nat
  | [] => 0
  | a :: l => max (1 + a.order) (maxO l)
theorem atoms_args (t : Ty) : t.atoms = 1 + sumA t.args := by
  induction t with
  | b => rfl
  | arr a c _ ihc => simp only [atoms, args, sumA]; omega
theorem order_args (t : Ty) : t.order = maxO t.args := by
  induction t with
  | b => rfl
  | arr a c _ ihc => simp only [order, args, maxO, ihc]
theorem sumA_snoc (l : List Ty) (a : Ty) : sumA (l ++ [a]) = sumA l + (1 + a.atoms) := by
  induction l with
  | nil => simp [sumA]
  | cons y l ih => simp only [List.cons_append, sumA, ih]; omega
theorem maxO_snoc (l : List Ty) (a : Ty) : maxO (l ++ [a]) = max (maxO l) (1 + a.order) := by
  induction l with
  | nil => simp [maxO]
  | cons y l ih => simp only [List.cons_append, maxO, ih]; omega
theorem take_snoc {α : Type} {l : List α} {k : Nat} {a : α} (h : l[k]? = some a) : l.take (k + 1) = l.take k ++ [a] := by
  rw [List.take_add_one, h]
  rfl
theorem sumA_take_le (l : List Ty) (k : Nat) : sumA (l.take k) ≤ sumA l := by
  induction l generalizing k with
  | nil => simp
  | cons a l ih =>
    cases k with
    | zero => simp [sumA]
    | succ k => have := ih k; simp only [List.take_succ_cons, sumA]; omega
theorem order_atoms (t : Ty) : t.order ≤ t.atoms := by
  induction t with
  | b => simp [order]
  | arr a c iha ihc => simp only [order, atoms]; omega
theorem maxO_le (l : List Ty) : maxO l ≤ sumA l := by
  induction l with
  | nil => simp [maxO]
  | cons a l ih => have := order_atoms a; simp only [maxO, sumA]; omega
end Ty

set_option maxHeartbeats 1000000 in
theorem atoms_any (m : Nat) : ∀ (t : Ty) (q : Nat) (F : Nat → Prop) (w : World), t.atoms ≤ m → t.atoms ≤ 1099511627776 → KindP w F q t →
    Calls Tryd.prog 18 #[.pointer (some ⟨q, 0, none⟩)] w fun e w' => e = .returned (.int .i64 (t.atoms : Int)) ∧ w = w' := by
  induction m with
  | zero => intro t q F w h; have := t.atoms_pos; omega
  | succ m ih =>
    intro t q F w hm hb hk
    have ih := Lib.hid ih
    obtain ⟨A, cp, qs, hblk, hA, hs⟩ := hk.open_
    have hc := hblk.cell 0
    simp only [List.getElem?_toArray, List.getElem?_cons_zero] at hc
    have hs := Lib.hid hs
    have hat := Lib.hid t.atoms_args
    have hla := t.length_args
    have hla2 : t.args.length ≤ 1099511627776 := by omega
    have hle := Lib.hid (Ty.sumA_take_le t.args)
    go_enter Tryd.func18, Tryd.ntmps18
    go_wp2_with fail
    go_loop [3, 11] (fun n i => ∃ k : Nat, k ≤ t.args.length ∧ i = .int .i64 (k : Int) ∧ n = .int .i64 (1 + (Ty.sumA (t.args.take k) : Int))) (fun _ i => t.args.length - (intOf i).toNat)
    case atStart => exact ⟨0, Nat.zero_le _, rfl, rfl⟩
    case round =>
      obtain ⟨k, hkl, rfl, rfl⟩ := hrel
      have hl1 := hle.out k
      by_cases hlt : k < t.args.length
      · obtain ⟨g, o, rfl, _, hcell⟩ := hA (by omega)
        have hck := hcell k hlt
        have hkk : t.args[k]? = some t.args[k] := List.getElem?_eq_getElem hlt
        have hch := hs.out k _ hkk
        have hl2 := hle.out (k + 1)
        have hsn := Ty.take_snoc hkk
        rw [hsn, Ty.sumA_snoc] at hl2
        have hsn := Lib.hid hsn
        clear hkk hcell
        have hb2 := hat.out
        rw [hb2] at hm hb
        clear hb2
        go_wp2_with fail
        refine (ih.out t.args[k] (qs k) F w (by omega) (by omega) hch).mono ?_
        rintro e w' ⟨rfl, rfl⟩
        go_wp2_with fail
        go_round
        case rel => exact ⟨k + 1, by omega, by go_num, by rw [hsn.out, Ty.sumA_snoc]; go_num⟩
        case measure => simp [intOf]; omega
      · go_wp2_with fail
        go_ret
        refine ⟨ret_int ?_, rfl⟩
        rw [hat.out, List.take_of_length_le (by omega)]
        go_num

theorem Ty.maxO_take_le (l : List Ty) (k : Nat) : Ty.maxO (l.take k) ≤ Ty.maxO l := by
  induction l generalizing k with
  | nil => simp
  | cons a l ih =>
    cases k with
    | zero => simp [maxO]
    | succ k => have := ih k; simp only [List.take_succ_cons, maxO]; omega


/-- What the whole reader leaves. -/
def ReadPost (r : List UInt8) (w : World) (e : Ending) (w' : World) : Prop :=
  w.grownBy w' none ∧
    match Ty.read r with
    | none => e = .returned (.pointer none)
    | some t => ∃ q, e = .returned (.pointer (some ⟨q, 0, none⟩)) ∧ KindP w' (Fr w.heap.size) q t

theorem ReadPost.no {r : List UInt8} {w w' : World} (h : Ty.read r = none) (hg : w.grownBy w' none) : ReadPost r w (.returned (.pointer none)) w' := ⟨hg, by rw [h]⟩
theorem ReadPost.yes {r : List UInt8} {w w' : World} {t : Ty} {q : Nat} (h : Ty.read r = some t) (hg : w.grownBy w' none) (hk : KindP w' (Fr w.heap.size) q t) : ReadPost r w (.returned (.pointer (some ⟨q, 0, none⟩))) w' :=
  ⟨hg, by rw [h]; exact ⟨q, rfl, hk⟩⟩

theorem gr_scan {w w1 w2 : World} {o : Obj} (hw : w1 = w.alloc o) (h : w1.grownBy w2 (some w.heap.size)) : w.grownBy w2 none := by
  subst hw
  exact gr_trans_new (World.grownBy_alloc w o none) h (Nat.le_refl _)

set_option maxHeartbeats 1000000 in
theorem readKind_any (r : List UInt8) (w : World) (hr : r.length ≤ 1099511627776) : Calls Tryd.prog 16 #[.string ⟨r.toArray⟩] w (ReadPost r w) := by
  have hk := kind_any 15 w.heap.size r (w.alloc (.cells #[.string ⟨r.toArray⟩] 57)) (Blk.new _ _ _) hr (by omega)
  have hk := Lib.hid hk
  go_enter Tryd.func16, Tryd.ntmps16
  go_wp2_with fail
  refine hk.out.mono ?_
  rintro e w1 ⟨r1, hs1, hl1, hg1, hm⟩
  have hg0 := gr_scan rfl hg1
  cases hp : Ty.parse 15 r with
  | none =>
    rw [hp] at hm
    subst hm
    have hR := Lib.hid (show Ty.read r = none by unfold Ty.read; rw [hp])
    clear hp hk
    go_wp2_with fail
    go_ret
    exact ReadPost.no hR.out hg0
  | some v =>
    obtain ⟨t, r2⟩ := v
    rw [hp] at hm
    obtain ⟨rfl, q, rfl, hkp⟩ := hm
    have hs := hs1.cell 0
    simp only [List.getElem?_toArray, List.getElem?_cons_zero] at hs
    have htl : t.atoms ≤ 1099511627776 := by
      have h1 := Ty.parse_sound _ _ _ _ hp
      have h2 := Ty.length_text t
      rw [h1, List.length_append] at hr
      omega
    cases r1 with
    | cons c r3 =>
      have hR := Lib.hid (show Ty.read r = none by unfold Ty.read; rw [hp])
      clear hp hk
      go_wp2_with fail
      go_ret
      exact ReadPost.no hR.out hg0
    | nil =>
      have hR := Lib.hid (show Ty.read r = if t.atoms ≤ 15 then some t else none by unfold Ty.read; rw [hp])
      clear hp hk
      go_wp2_with fail
      refine (atoms_any _ t q _ w1 (Nat.le_refl _) htl hkp).mono ?_
      rintro e w2 ⟨rfl, rfl⟩
      by_cases h15 : t.atoms ≤ 15
      · have hR2 := hR.out
        rw [if_pos h15] at hR2
        have hR2 := Lib.hid hR2
        go_wp2_with fail
        go_ret
        exact ReadPost.yes hR2.out hg0 (hkp.fr (by simp))
      · have hR2 := hR.out
        rw [if_neg h15] at hR2
        have hR2 := Lib.hid hR2
        go_wp2_with fail
        go_ret
        exact ReadPost.no hR2.out hg0

end Go.Proofs.YtlehnlfgjadleaaDoor
