/- The reference's text of a type (where the program's own text of types is not reached). -/
import Derived.Test.YtlehnlfgjadleaaDoorType
import Derived.Test.YtlehnlfgjadleaaDoorStr
namespace Go.Proofs.YtlehnlfgjadleaaDoor
open Go.RowKit

def dn (len : Nat) : (k : Nat) → k ≤ len → List (Fin len)
  | 0, _ => []
  | k + 1, h => dn len k (by omega) ++ [⟨len - 1 - k, by omega⟩]

theorem dn_length (len : Nat) : ∀ (k : Nat) (h : k ≤ len), (dn len k h).length = k
  | 0, _ => rfl
  | k + 1, h => by rw [dn, List.length_append, dn_length len k]; rfl

def sufT : List Ty → List UInt8
  | [] => [98]
  | a :: l => 40 :: 62 :: 32 :: (a.text ++ 32 :: (sufT l ++ [41]))
theorem text_args (t : Ty) : t.text = sufT t.args := by
  induction t with
  | b => rfl
  | arr a c _ ihc => simp only [Ty.text, Ty.args, sufT, ihc]

/-- What 'out' holds when these have come. -/
def outF (ts : List Ty) (l : List (Fin ts.length)) : List UInt8 := l.foldl (fun o i => 40 :: 62 :: 32 :: ((ts[i.1]).text ++ 32 :: (o ++ [41]))) [98]
theorem outF_snoc (ts : List Ty) (l : List (Fin ts.length)) (i : Fin ts.length) : outF ts (l ++ [i]) = 40 :: 62 :: 32 :: ((ts[i.1]).text ++ 32 :: (outF ts l ++ [41])) := by simp [outF]
theorem outF_dn (ts : List Ty) : ∀ (k : Nat) (h : k ≤ ts.length), outF ts (dn ts.length k h) = sufT (ts.drop (ts.length - k))
  | 0, _ => by rw [Nat.sub_zero, List.drop_length]; rfl
  | k + 1, h => by
    rw [dn, outF_snoc, outF_dn ts k]
    have e : ts.length - (k + 1) = ts.length - 1 - k := by omega
    have e2 : ts.length - k = ts.length - 1 - k + 1 := by omega
    rw [e, List.drop_eq_getElem_cons (by omega : ts.length - 1 - k < ts.length), sufT, e2]

theorem outF_length (ts : List Ty) (B : Nat) (h : ∀ i : Fin ts.length, (ts[i.1]).text.length ≤ B) : ∀ l : List (Fin ts.length), (outF ts l).length ≤ 1 + l.length * (B + 5) := by
  intro l
  suffices H : ∀ (l : List (Fin ts.length)) (o : List UInt8), (l.foldl (fun o i => 40 :: 62 :: 32 :: ((ts[i.1]).text ++ 32 :: (o ++ [41]))) o).length ≤ o.length + l.length * (B + 5) from H l [98]
  intro l
  induction l with
  | nil => intro o; simp
  | cons i l ih =>
    intro o
    rw [List.foldl_cons]
    refine Nat.le_trans (ih _) ?_
    have := h i
    simp only [List.length_cons, List.length_append, List.length_nil, Nat.add_mul]
    omega

set_option maxRecDepth 100000 in
set_option maxHeartbeats 4000000 in
theorem l1Text_any (m : Nat) : ∀ (t : Ty) (A : Option Addr) (c : Nat) (F : Nat → Prop) (w : World), t.atoms ≤ m → t.atoms ≤ 1000000 → TreeV w F (.slice A t.args.length c) t →
    Calls Tryd.prog 28 #[.agg #[.slice A t.args.length c]] w fun e w' => e = .returned (.string ⟨t.text.toArray⟩) ∧ w.grownBy w' none := by
  induction m with
  | zero => intro t A c F w h; have := t.atoms_pos; omega
  | succ m ih =>
    intro t A c F w hm hb hk
    have ihh := Lib.hid ih
    clear ih
    obtain ⟨A', cp, vs, e, hA, hs⟩ := hk.open_
    cases e
    have hsh := Lib.hid hs
    clear hs
    have hla := t.length_args
    have hla2 : t.args.length ≤ 1000000 := by omega
    have hg0 := World.grownBy_alloc w (.cells #[.slice A t.args.length c] 29) none
    have hbx := Blk.new w 29 #[.slice A t.args.length c]
    have hout := Lib.hid (fun l => outF_length t.args 3000000 (fun i => by
        have h1 := Ty.length_text (t.args[i.1])
        have h2 := Ty.atoms_of_args (List.getElem_mem i.2)
        omega) l)
    go_enter Tryd.func28, Tryd.ntmps28
    go_wp2_with fail
    go_loopw [3, 4] (fun o i wr => ∃ (k : Nat) (h : k ≤ t.args.length), i = .int .i64 ((t.args.length : Int) - 1 - (k : Int)) ∧ o = .string ⟨(outF t.args (dn t.args.length k h)).toArray⟩ ∧ (w.alloc (.cells #[.slice A t.args.length c] 29)).grownBy wr none) (fun _ i _ => (intOf i + 1).toNat)
    case atStart => exact ⟨0, Nat.zero_le _, by simp, rfl, gr_refl _ _⟩
    case round =>
      obtain ⟨k, hkl, rfl, rfl, hgw⟩ := hrel
      have hol : (outF t.args (dn t.args.length k hkl)).length ≤ 1000000000000000 := by
        have h := hout.out (dn t.args.length k hkl)
        rw [dn_length] at h
        have h3 : k * (3000000 + 5) ≤ 1000000 * (3000000 + 5) := Nat.mul_le_mul_right _ (by omega)
        omega
      have hbw := hbx.grown0 hgw
      have hcw := hbw.cell 0
      simp only [List.getElem?_toArray, List.getElem?_cons_zero] at hcw
      by_cases hlt : k < t.args.length
      · obtain ⟨i, hil, hik⟩ : ∃ i, ∃ _ : i < t.args.length, i = t.args.length - 1 - k := ⟨_, by omega, rfl⟩
        have e1 : ((t.args.length : Int) - 1 - (k : Int)) = (i : Int) := by omega
        obtain ⟨g, o, rfl, _, hcell⟩ := (hA.grown0 (gr_trans hg0 hgw)) (by omega)
        have hck := hcell i hil
        have hkk : t.args[i]? = some t.args[i] := List.getElem?_eq_getElem hil
        have hch := (hsh.out i _ hkk).grown0 (gr_trans hg0 hgw)
        obtain ⟨A2, c2, vs2, e2, hA2, hs2⟩ := hch.open_
        rw [e2] at hck hch
        clear hs2 hA2
        have hxa := Ty.atoms_of_args (List.getElem_mem hil)
        have hxt : (t.args[i]).text.length ≤ 3000000 := by
          have h1 := Ty.length_text (t.args[i])
          omega
        have eS : (⟨#[40, 62, 32]⟩ : ByteArray) ++ ⟨(t.args[i]).text.toArray⟩ ++ ⟨#[32]⟩ ++ ⟨(outF t.args (dn t.args.length k hkl)).toArray⟩ ++ ⟨#[41]⟩ = ⟨(outF t.args (dn t.args.length (k + 1) hlt)).toArray⟩ := by
          rw [show (⟨#[40, 62, 32]⟩ : ByteArray) = ⟨([40, 62, 32] : List UInt8).toArray⟩ from rfl, show (⟨#[32]⟩ : ByteArray) = ⟨([32] : List UInt8).toArray⟩ from rfl, show (⟨#[41]⟩ : ByteArray) = ⟨([41] : List UInt8).toArray⟩ from rfl, ba_app, ba_app, ba_app, ba_app, dn, outF_snoc]
          subst hik
          simp
        have eSh := Lib.hid eS
        have e1h := Lib.hid e1
        rw [e1]
        clear hkk hcell e2 eS e1 hik
        go_wp2_with fail
        refine (ihh.out t.args[i] A2 c2 F _ (by omega) (by omega) hch).mono ?_
        rintro e w' ⟨rfl, hg2⟩
        go_wp2_with fail
        rw [eSh.out]
        go_roundw
        case rel => exact ⟨k + 1, by omega, by rw [← e1h.out]; go_num, rfl, gr_trans hgw hg2⟩
        case measure => rw [← e1h.out]; simp [intOf]; omega
      · obtain rfl : k = t.args.length := by omega
        have hO := Lib.hid (outF_dn t.args t.args.length (Nat.le_refl _))
        go_wp2_with fail
        go_ret
        refine ⟨?_, gr_trans hg0 hgw⟩
        rw [text_args]
        have h := hO.out
        rw [Nat.sub_self, List.drop_zero] at h
        rw [← h]
        rfl
end Go.Proofs.YtlehnlfgjadleaaDoor
