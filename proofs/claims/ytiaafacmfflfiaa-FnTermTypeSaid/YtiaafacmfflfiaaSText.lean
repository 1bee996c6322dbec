/- The reference's text of a type. -/
import Derived.Test.YtiaafacmfflfiaaText
import Derived.Test.YtiaafacmfflfiaaType
namespace Go.Proofs.Ytiaafacmfflfiaa
open Go.RowKit

set_option maxRecDepth 100000 in
set_option maxHeartbeats 4000000 in
theorem l1Text_any (m : Nat) : ∀ (t : Ty) (A : Option Addr) (c : Nat) (F : Nat → Prop) (w : World), t.atoms ≤ m → t.atoms ≤ 1000000 → TreeV w F (.slice A t.args.length c) t →
    Calls Try.prog 20 #[.agg #[.slice A t.args.length c]] w fun e w' => e = .returned (.string ⟨t.text.toArray⟩) ∧ w.grownBy w' none := by
  induction m with
  | zero => intro t A c F w h; have := t.atoms_pos; omega
  | succ m ih =>
    intro t A c F w hm hb hk
    have ihh := Lib.hid ih
    clear ih
    obtain ⟨A', cp, vs, e, hA, hs⟩ := hk.open_
    cases e
    have hsh := Lib.hid hs
    clear hs
    have hla := t.length_args
    have hla2 : t.args.length ≤ 1000000 := by omega
    have hg0 := World.grownBy_alloc w (.cells #[.slice A t.args.length c] 43) none
    have hbx := Blk.new w 43 #[.slice A t.args.length c]
    have hout := Lib.hid (fun l => outF_length t.args 3000000 (fun i => by
        have h1 := Ty.length_text (t.args[i.1])
        have h2 := Ty.atoms_of_args (List.getElem_mem i.2)
        omega) l)
    go_enter Try.func20, Try.ntmps20
    go_wp2_with fail
    go_loopw [3, 4] (fun o i wr => ∃ (k : Nat) (h : k ≤ t.args.length), i = .int .i64 ((t.args.length : Int) - 1 - (k : Int)) ∧ o = .string ⟨(outF t.args (dn t.args.length k h)).toArray⟩ ∧ (w.alloc (.cells #[.slice A t.args.length c] 43)).grownBy wr none) (fun _ i _ => (intOf i + 1).toNat)
    case atStart => exact ⟨0, Nat.zero_le _, by simp, rfl, gr_refl _ _⟩
    case round =>
      obtain ⟨k, hkl, rfl, rfl, hgw⟩ := hrel
      have hol : (outF t.args (dn t.args.length k hkl)).length ≤ 1000000000000000 := by
        have h := hout.out (dn t.args.length k hkl)
        rw [dn_length] at h
        have h3 : k * (3000000 + 5) ≤ 1000000 * (3000000 + 5) := Nat.mul_le_mul_right _ (by omega)
        omega
      have hbw := hbx.grown0 hgw
      have hcw := hbw.cell 0
      simp only [List.getElem?_toArray, List.getElem?_cons_zero] at hcw
      by_cases hlt : k < t.args.length
      · obtain ⟨i, hil, hik⟩ : ∃ i, ∃ _ : i < t.args.length, i = t.args.length - 1 - k := ⟨_, by omega, rfl⟩
        have e1 : ((t.args.length : Int) - 1 - (k : Int)) = (i : Int) := by omega
        obtain ⟨g, o, rfl, _, hcell⟩ := (hA.grown0 (gr_trans hg0 hgw)) (by omega)
        have hck := hcell i hil
        have hkk : t.args[i]? = some t.args[i] := List.getElem?_eq_getElem hil
        have hch := (hsh.out i _ hkk).grown0 (gr_trans hg0 hgw)
        obtain ⟨A2, c2, vs2, e2, hA2, hs2⟩ := hch.open_
        rw [e2] at hck hch
        clear hs2 hA2
        have hxa := Ty.atoms_of_args (List.getElem_mem hil)
        have hxt : (t.args[i]).text.length ≤ 3000000 := by
          have h1 := Ty.length_text (t.args[i])
          omega
        have eS : (⟨#[40, 62, 32]⟩ : ByteArray) ++ ⟨(t.args[i]).text.toArray⟩ ++ ⟨#[32]⟩ ++ ⟨(outF t.args (dn t.args.length k hkl)).toArray⟩ ++ ⟨#[41]⟩ = ⟨(outF t.args (dn t.args.length (k + 1) hlt)).toArray⟩ := by
          rw [show (⟨#[40, 62, 32]⟩ : ByteArray) = ⟨([40, 62, 32] : List UInt8).toArray⟩ from rfl, show (⟨#[32]⟩ : ByteArray) = ⟨([32] : List UInt8).toArray⟩ from rfl, show (⟨#[41]⟩ : ByteArray) = ⟨([41] : List UInt8).toArray⟩ from rfl, ba_app, ba_app, ba_app, ba_app, dn, outF_snoc]
          subst hik
          simp
        have eSh := Lib.hid eS
        have e1h := Lib.hid e1
        rw [e1]
        clear hkk hcell e2 eS e1 hik
        go_wp2_with fail
        refine (ihh.out t.args[i] A2 c2 F _ (by omega) (by omega) hch).mono ?_
        rintro e w' ⟨rfl, hg2⟩
        go_wp2_with fail
        rw [eSh.out]
        go_roundw
        case rel => exact ⟨k + 1, by omega, by rw [← e1h.out]; go_num, rfl, gr_trans hgw hg2⟩
        case measure => rw [← e1h.out]; simp [intOf]; omega
      · obtain rfl : k = t.args.length := by omega
        have hO := Lib.hid (outF_dn t.args t.args.length (Nat.le_refl _))
        go_wp2_with fail
        go_ret
        refine ⟨?_, gr_trans hg0 hgw⟩
        rw [text_args]
        have h := hO.out
        rw [Nat.sub_self, List.drop_zero] at h
        rw [← h]
        rfl
end Go.Proofs.Ytiaafacmfflfiaa
