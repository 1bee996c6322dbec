/- The program's CopyOf. -/
import Derived.Test.YtlehnlfgjadleaaDoorICopy
namespace Go.Proofs.YtlehnlfgjadleaaDoor
open Go.RowKit

/-- The copying strategy of a text, where its type is small enough. -/
def cpy (s : List UInt8) : Option Bo := match Ty.read s with
  | some t => if (Ty.arr t t).atoms ≤ 15 then some (eta t 0 1) else none
  | none => none
def CRet (x : Option Bo) (e : Ending) : Prop := match x with
  | some b => e = .returned (.tuple #[.string ⟨b.text.toArray⟩, .bool true])
  | none => e = .returned (.tuple #[.string ⟨#[]⟩, .bool false])
set_option maxHeartbeats 2000000 in
theorem copyOfS_any (s : List UInt8) (w : World) (hs : s.length ≤ 2000000) :
    Calls Tryd.prog 7 #[.string ⟨s.toArray⟩] w fun e w' => w.grownBy w' none ∧ CRet (cpy s) e := by
  have hK := Lib.hid (readKind_any s w (by omega))
  generalize hX : cpy s = X
  go_enter Tryd.func7, Tryd.ntmps7
  go_wp2_with fail
  refine hK.out.mono ?_
  rintro e w1 ⟨hg1, hm⟩
  clear hK
  cases hp : Ty.read s with
  | none =>
    rw [hp] at hm
    obtain rfl := hm
    have hXn := Lib.hid (show X = none by rw [← hX]; unfold cpy; rw [hp])
    clear hp hX
    go_wp2_with fail
    go_ret2
    exact ⟨hg1, by rw [hXn.out]; rfl⟩
  | some t =>
    rw [hp] at hm
    obtain ⟨q, rfl, hk⟩ := hm
    have h15 := (Ty.read_some hp).2
    have hla := t.length_args
    have hkA := hk.all
    have hAr := Lib.hid (arrow_any q q t t Al w1 hkA hkA (fun _ _ => trivial) (by omega))
    have hXe := Lib.hid (show X = if (Ty.arr t t).atoms ≤ 15 then some (eta t 0 1) else none by rw [← hX]; unfold cpy; rw [hp])
    have hkh := Lib.hid hkA
    clear hp hX hk hkA
    go_wp2_with fail
    refine hAr.out.mono ?_
    rintro e w2 ⟨q2, rfl, hk2, hg2⟩
    have hAt := Lib.hid (atoms_any _ (Ty.arr t t) q2 Al w2 (Nat.le_refl _) (by simp only [Ty.atoms]; omega) hk2)
    have hg12 := gr_trans hg1 hg2
    clear hAr hk2
    go_wp2_with fail
    refine hAt.out.mono ?_
    rintro e w3 ⟨rfl, rfl⟩
    clear hAt
    generalize hn : (Ty.arr t t).atoms = n at *
    by_cases h : n ≤ 15
    · have hX2 := Lib.hid (show X = some (eta t 0 1) by rw [hXe.out, if_pos h])
      have hC := Lib.hid (copyOf_any _ t q 0 1 Al w2 (Nat.le_refl _) (by omega) (by omega) (by omega) (hkh.out.grown0 hg2))
      have hes := eta_size t 0 1
      have hed := eta_dep t 0 1
      have htd := Lib.hid (eta_tidy t (by omega))
      have hnI : ¬ (15 : Int) < (n : Int) := by omega
      generalize eta t 0 1 = b at *
      go_wp2_with fail
      refine hC.out.mono ?_
      rintro e w4 ⟨q4, rfl, hb4, hg4⟩
      have hF := Lib.hid (fits_any b q4 _ w4 (by omega) (by omega) hb4)
      have hTx := Lib.hid (fun W (hW : w4.grownBy W none) => textB_any _ b q4 _ W (Nat.le_refl _) (by omega) htd.out (hb4.grown0 hW))
      clear hC hb4
      go_wp2_with fail
      refine hF.out.mono ?_
      rintro e w5 ⟨rfl, hg5⟩
      clear hF
      go_wp2_with fail
      refine (hTx.out w5 hg5).mono ?_
      rintro e w6 ⟨rfl, hg6⟩
      go_wp2_with fail
      go_ret2
      exact ⟨gr_trans (gr_trans hg12 hg4) (gr_trans hg5 hg6), by rw [hX2.out]; rfl⟩
    · have hX2 := Lib.hid (show X = none by rw [hXe.out, if_neg h])
      have hnI : (15 : Int) < (n : Int) := by omega
      go_wp2_with fail
      go_ret2
      exact ⟨hg12, by rw [hX2.out]; rfl⟩
end Go.Proofs.YtlehnlfgjadleaaDoor
