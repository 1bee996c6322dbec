/- Which trees are terms: the reference. -/
import Derived.Test.YtiaafacmfflfiaaSRead2
namespace Go.Proofs.Ytiaafacmfflfiaa
open Go.RowKit

def hdOf (x : Sx) : List UInt8 := match x.parts with
  | [] => []
  | h :: _ => h.atom
theorem isTf_lam {m : Nat} {x h a b c : Sx} (hat : x.atom = []) (hp : x.parts = [h, a, b, c]) (hh : h.atom = lamW) : isTf (m + 1) x = (isNm a.atom && ((Ty.read b.text).isSome && isTf m c)) := by
  rw [isTf, if_pos hat, hp]
  simp only [hh, if_true]
theorem isTf_if {m : Nat} {x h a b c : Sx} (hat : x.atom = []) (hp : x.parts = [h, a, b, c]) (hh : h.atom = ifW) : isTf (m + 1) x = (isTf m a && (isTf m b && isTf m c)) := by
  rw [isTf, if_pos hat, hp]
  simp only [hh, if_true]
  rw [if_neg (by decide)]
theorem isTf_app {m : Nat} {x h a b : Sx} (hat : x.atom = []) (hp : x.parts = [h, a, b]) (hh : h.atom = appW) : isTf (m + 1) x = (isTf m a && isTf m b) := by
  rw [isTf, if_pos hat, hp]
  simp only [hh, if_true]
theorem isTf_no {m : Nat} {x : Sx} (hat : x.atom = []) (h1 : hdOf x = lamW → x.parts.length ≠ 4) (h2 : hdOf x = appW → x.parts.length ≠ 3) (h3 : hdOf x = ifW → x.parts.length ≠ 4) : isTf (m + 1) x = false := by
  rw [isTf, if_pos hat]
  unfold hdOf at h1 h2 h3
  split
  · rename_i h a b c hp
    rw [hp] at h1 h3
    rw [if_neg (fun e => h1 e rfl), if_neg (fun e => h3 e rfl)]
  · rename_i h a b hp
    rw [hp] at h2
    rw [if_neg (fun e => h2 e rfl)]
  · rfl
theorem isTf_leaf {m : Nat} {x : Sx} (hat : x.atom ≠ []) : isTf (m + 1) x = (isWd x.atom || isNm x.atom) := by
  rw [isTf, if_neg hat]
theorem cell_grown {w W : World} {g i : Nat} {v : Value} (h : w.cell? ⟨g, i, none⟩ = some v) (hg : w.grownBy W none) : W.cell? ⟨g, i, none⟩ = some v :=
  (World.cell?_of_block (w := w) (a := ⟨g, i, none⟩) (hg.block g (World.block_lt_of_cell? w ⟨g, i, none⟩ h) (by simp))).trans h
theorem part_text {x u : Sx} (hu : u ∈ x.parts) (hok : x.ok) : u.text.length ≤ x.text.length := by
  have hl : x.isLi = true := by cases x with | lf a => cases hu | nl => rfl | sn a b => rfl
  have h1 := body_jtext hok hl
  rw [text_li hl, h1]
  generalize x.parts = l at hu
  have : u.text.length ≤ (jtext l).length := by
    induction l with
    | nil => cases hu
    | cons a l ih =>
      cases l with
      | nil => obtain rfl := List.mem_singleton.1 hu; exact Nat.le_refl _
      | cons b l =>
        show _ ≤ (a.text ++ 32 :: jtext (b :: l)).length
        rw [List.length_append, List.length_cons]
        rcases List.mem_cons.1 hu with rfl | hu
        · omega
        · have := ih hu; omega
  simp
  omega
theorem parts_text {x : Sx} (hok : x.ok) : x.parts.length ≤ 1 + x.text.length := by
  have h1 := parts_size hok
  have h2 := size_count x hok
  have h3 : x.body.count 32 = x.text.count 32 := (wrap_count x x.body).symm
  have h4 := List.count_le_length (a := (32 : UInt8)) (l := x.text)
  omega

theorem atom_text (x : Sx) : x.atom.length ≤ x.text.length := by cases x <;> simp [Sx.atom, Sx.text, Sx.wrap, Sx.body]
theorem len4 {α : Type} {l : List α} (h : l.length = 4) : ∃ a b c d, l = [a, b, c, d] := by
  match l, h with
  | [a, b, c, d], _ => exact ⟨a, b, c, d, rfl⟩
theorem l5Head_any (x : Sx) (A : Option Addr) (c : Nat) (F : Nat → Prop) (w : World) (hk : SxV w F A c x) (hpl : x.parts.length ≤ 100001) :
    Calls Try.prog 43 #[.agg #[.string ⟨#[]⟩, .slice A x.parts.length c]] w fun e w' => e = .returned (.string ⟨(hdOf x).toArray⟩) ∧ w.grownBy w' none := by
  have hg0 := World.grownBy_alloc w (.cells #[.string ⟨#[]⟩, .slice A x.parts.length c] 37) none
  cases hp : x.parts with
  | nil =>
    have hh : hdOf x = [] := by unfold hdOf; rw [hp]
    rw [hh]
    rw [hp] at hg0
    clear hp hk hh hpl
    go_enter Try.func43, Try.ntmps43
    go_wp2_with fail
    go_ret
    exact ⟨rfl, hg0⟩
  | cons h l =>
    obtain ⟨g, o, A', c', rfl, q0, q1, hch⟩ := hk.part (i := 0) (u := h) (by rw [hp]; rfl)
    have hh : hdOf x = h.atom := by unfold hdOf; rw [hp]
    rw [hh]
    rw [hp] at hg0 hpl
    have z0 := cell_grown q0 hg0
    have z1 := cell_grown q1 hg0
    have hl0 : (((h :: l).length : Int) == 0) = false := by rw [beq_eq_false_iff_ne, List.length_cons]; omega
    have hl1 : (0 : Int) < ((h :: l).length : Int) := by rw [List.length_cons]; omega
    rw [Nat.mul_zero, Nat.add_zero] at z0 z1
    generalize (h :: l).length = n at *
    clear hp hk hh q0 q1 hch
    go_enter Try.func43, Try.ntmps43
    go_wp2_with fail
    go_ret
    exact ⟨rfl, hg0⟩
set_option maxRecDepth 100000 in
set_option maxHeartbeats 4000000 in
theorem l5Is_any (m : Nat) : ∀ (x : Sx) (A : Option Addr) (c : Nat) (F : Nat → Prop) (w : World), x.dep ≤ m → m ≤ 1000 → x.ok → x.text.length ≤ 99999 → SxV w F A c x →
    Calls Try.prog 31 #[.agg #[.string ⟨x.atom.toArray⟩, .slice A x.parts.length c]] w fun e w' => e = .returned (.bool (isTf m x)) ∧ w.grownBy w' none := by
  induction m with
  | zero => intro x A c F w h; have := x.dep_pos; omega
  | succ m ih =>
    intro x A c F w hm hm2 hok hsz hk
    have ihh := Lib.hid ih
    clear ih
    have hg0 := World.grownBy_alloc w (.cells #[.string ⟨x.atom.toArray⟩, .slice A x.parts.length c] 37) none
    have hbx := Blk.new w 37 #[.string ⟨x.atom.toArray⟩, .slice A x.parts.length c]
    have hpl := parts_text hok
    by_cases hat : x.atom = []
    · have hHd := Lib.hid (fun (W : World) (hW : w.grownBy W none) => l5Head_any x A c F W (hk.grown0 hW) (by omega))
      have hwl : ((⟨(hdOf x).toArray⟩ : ByteArray).toList == [108, 97, 109]) = (hdOf x == lamW) := by rw [ByteArray.toList_eq]; rfl
      have hbk := Lib.hid (fun (W : World) (hW : (w.alloc (.cells #[.string ⟨x.atom.toArray⟩, .slice A x.parts.length c] 37)).grownBy W none) => (⟨(hbx.grown0 hW).cell 1, (hbx.grown0 hW).cell 0, (hbx.grown0 hW).lt⟩ : W.cell? ⟨w.heap.size, 1, none⟩ = some (.slice A x.parts.length c) ∧ W.cell? ⟨w.heap.size, 0, none⟩ = some (.string ⟨x.atom.toArray⟩) ∧ w.heap.size < W.heap.size))
      have hno := Lib.hid (fun h1 h2 h3 => isTf_no (m := m) hat h1 h2 h3)
      have hlam := Lib.hid (fun h a b c hp hh => isTf_lam (m := m) (x := x) (h := h) (a := a) (b := b) (c := c) hat hp hh)
      have happ := Lib.hid (fun h a b hp hh => isTf_app (m := m) (x := x) (h := h) (a := a) (b := b) hat hp hh)
      have hif := Lib.hid (fun h a b c hp hh => isTf_if (m := m) (x := x) (h := h) (a := a) (b := b) (c := c) hat hp hh)
      have hpt := Lib.hid (fun i u (h : x.parts[i]? = some u) => hk.part h)
      have hmem := Lib.hid (fun u (h : u ∈ x.parts) => (⟨Sx.dep_parts h, ok_parts hok h, part_text h hok⟩ : u.dep < x.dep ∧ u.ok ∧ u.text.length ≤ x.text.length))
      have hdo := Lib.hid (rfl : hdOf x = match x.parts with | [] => [] | h :: _ => h.atom)
      have hath := Lib.hid hat
      rw [hat] at hg0 hbx hbk ⊢
      clear hk hat
      have e0 : ((⟨([] : List UInt8).toArray⟩ : ByteArray)) = ⟨#[]⟩ := rfl
      rw [e0] at hg0 hbk ⊢
      clear hbx
      generalize hHe : hdOf x = H at *
      have hHeh := Lib.hid hHe
      clear hHe
      generalize hB : isTf (m + 1) x = b at *
      clear hB
      have hmb := hm2
      clear hm2
      by_cases hL : H = lamW
      · skip
        have m1 : (H == ([108, 97, 109] : List UInt8)) = true := by rw [hL]; rfl
        by_cases hn : x.parts.length = 4
        case neg =>
          have hb := Lib.hid (hno.out (fun _ => hn) (fun e => absurd (hL.symm.trans e) (by decide)) (fun e => absurd (hL.symm.trans e) (by decide)))
          have hnI : ((x.parts.length : Int) == 4) = false := by rw [beq_eq_false_iff_ne]; omega
          clear hL hn
          go_enter Try.func31, Try.ntmps31
          go_wp2_with fail
          refine (hHd.out _ hg0).mono ?_
          rintro e w1 ⟨rfl, hg1⟩
          obtain ⟨k1, k0, klt⟩ := hbk.out w1 hg1
          go_wp2_with fail
          go_ret
          exact ⟨by rw [hb.out]; rfl, gr_trans hg0 hg1⟩
        case pos =>
            obtain ⟨h, a, bb, cc, hp⟩ := len4 hn
            have hh : h.atom = lamW := by rw [← hL, ← hHeh.out]; unfold hdOf; rw [hp]
            have hb := Lib.hid (hlam.out h a bb cc hp hh)
            obtain ⟨g1, o1, A1, c1, eA1, q10, q11, hv1⟩ := hpt.out 1 a (by rw [hp]; rfl)
            obtain ⟨g2, o2, A2, c2, eA2, q20, q21, hv2⟩ := hpt.out 2 bb (by rw [hp]; rfl)
            obtain ⟨g3, o3, A3, c3, eA3, q30, q31, hv3⟩ := hpt.out 3 cc (by rw [hp]; rfl)
            subst eA1
            injection eA2 with eA2
            injection eA2 with eg2 eo2
            subst eg2 eo2
            injection eA3 with eA3
            injection eA3 with eg3 eo3
            subst eg3 eo3
            have hE := Lib.hid (fun (W : World) (hW : w.grownBy W none) => (⟨cell_grown q10 hW, cell_grown q11 hW, cell_grown q20 hW, cell_grown q21 hW, cell_grown q30 hW, cell_grown q31 hW⟩ : W.cell? ⟨g1, o1 + 2, none⟩ = some (.string ⟨a.atom.toArray⟩) ∧ W.cell? ⟨g1, o1 + 3, none⟩ = some (.slice A1 a.parts.length c1) ∧ W.cell? ⟨g1, o1 + 4, none⟩ = some (.string ⟨bb.atom.toArray⟩) ∧ W.cell? ⟨g1, o1 + 5, none⟩ = some (.slice A2 bb.parts.length c2) ∧ W.cell? ⟨g1, o1 + 6, none⟩ = some (.string ⟨cc.atom.toArray⟩) ∧ W.cell? ⟨g1, o1 + 7, none⟩ = some (.slice A3 cc.parts.length c3)))
            have hm1 := hmem.out a (by rw [hp]; simp)
            have hV1 := Lib.hid (fun (W : World) (hW : w.grownBy W none) => hv1.grown0 hW)
            have hm2 := hmem.out bb (by rw [hp]; simp)
            have hV2 := Lib.hid (fun (W : World) (hW : w.grownBy W none) => hv2.grown0 hW)
            have hm3 := hmem.out cc (by rw [hp]; simp)
            have hV3 := Lib.hid (fun (W : World) (hW : w.grownBy W none) => hv3.grown0 hW)
            clear q10 q11 hv1 q20 q21 hv2 q30 q31 hv3
            rw [hn] at hbk hg0 hHd ⊢
            have hla := atom_text a
            have hNm := Lib.hid (fun W => l5Name_any a.atom W (by omega))
            have hTx := Lib.hid (fun (W : World) (hW : w.grownBy W none) => l5Text_any bb.dep bb A2 c2 F W (Nat.le_refl _) hm2.2.1 (by omega) (hV2.out W hW))
            have hTv := Lib.hid (fun W => sTypeValid_any bb.text W (by omega))
            have hIs := Lib.hid (fun (W : World) (hW : w.grownBy W none) => ihh.out cc A3 c3 F W (by omega) (by omega) hm3.2.1 (by omega) (hV3.out W hW))
            clear hL hn hp hh hm1 hm2 hm3 hdo
            go_enter Try.func31, Try.ntmps31
            go_wp2_with fail
            refine (hHd.out _ hg0).mono ?_
            rintro e w1 ⟨rfl, hg1⟩
            obtain ⟨e10, e11, e20, e21, e30, e31⟩ := hE.out w1 (gr_trans hg0 hg1)
            obtain ⟨k1, k0, klt⟩ := hbk.out w1 hg1
            go_wp2_with fail
            refine (hNm.out w1).mono ?_
            rintro e w2 ⟨rfl, hs2⟩
            have hg2 := gr_trans hg1 hs2
            clear e10 e11 e20 e21 e30 e31 k1 k0 klt
            obtain ⟨e10, e11, e20, e21, e30, e31⟩ := hE.out w2 (gr_trans hg0 hg2)
            obtain ⟨k1, k0, klt⟩ := hbk.out w2 hg2
            rcases Bool.eq_false_or_eq_true (isNm a.atom) with hq2 | hq2
            rotate_left
            · have hbq := Lib.hid (hb.out.trans (show _ = false by rw [hq2]; rfl))
              go_wp2_with fail
              go_ret
              exact ⟨congrArg (fun z => Ending.returned (.bool z)) hbq.out.symm, gr_trans hg0 hg2⟩
            go_wp2_with fail
            refine (hTx.out w2 (gr_trans hg0 hg2)).mono ?_
            rintro e w3 ⟨rfl, hs3⟩
            have hg3 := gr_trans hg2 hs3
            clear e10 e11 e20 e21 e30 e31 k1 k0 klt
            obtain ⟨e10, e11, e20, e21, e30, e31⟩ := hE.out w3 (gr_trans hg0 hg3)
            obtain ⟨k1, k0, klt⟩ := hbk.out w3 hg3
            go_wp2_with fail
            refine (hTv.out w3).mono ?_
            rintro e w4 ⟨rfl, hs4⟩
            have hg4 := gr_trans hg3 hs4
            clear e10 e11 e20 e21 e30 e31 k1 k0 klt
            obtain ⟨e10, e11, e20, e21, e30, e31⟩ := hE.out w4 (gr_trans hg0 hg4)
            obtain ⟨k1, k0, klt⟩ := hbk.out w4 hg4
            rcases Bool.eq_false_or_eq_true ((Ty.read bb.text).isSome) with hq4 | hq4
            rotate_left
            · have hbq := Lib.hid (hb.out.trans (show _ = false by rw [hq2, hq4]; rfl))
              go_wp2_with fail
              go_ret
              exact ⟨congrArg (fun z => Ending.returned (.bool z)) hbq.out.symm, gr_trans hg0 hg4⟩
            go_wp2_with fail
            refine (hIs.out w4 (gr_trans hg0 hg4)).mono ?_
            rintro e w5 ⟨rfl, hs5⟩
            have hg5 := gr_trans hg4 hs5
            clear e10 e11 e20 e21 e30 e31 k1 k0 klt
            obtain ⟨e10, e11, e20, e21, e30, e31⟩ := hE.out w5 (gr_trans hg0 hg5)
            obtain ⟨k1, k0, klt⟩ := hbk.out w5 hg5
            have hbq := Lib.hid (hb.out.trans (show _ = isTf m cc by rw [hq2, hq4]; rfl))
            generalize isTf m cc = z at *
            go_wp2_with fail
            go_ret
            exact ⟨congrArg (fun z => Ending.returned (.bool z)) hbq.out.symm, gr_trans hg0 hg5⟩
      · by_cases hAp : H = appW
        · skip
          have m1 : (H == ([108, 97, 109] : List UInt8)) = false := by rw [beq_eq_false_iff_ne, hAp]; decide
          have m2 : (H == ([97, 112, 112] : List UInt8)) = true := by rw [hAp]; rfl
          by_cases hn : x.parts.length = 3
          case neg =>
            have hb := Lib.hid (hno.out (fun e => absurd e hL) (fun _ => hn) (fun e => absurd (hAp.symm.trans e) (by decide)))
            have hnI : ((x.parts.length : Int) == 3) = false := by rw [beq_eq_false_iff_ne]; omega
            clear hL hAp hn
            go_enter Try.func31, Try.ntmps31
            go_wp2_with fail
            refine (hHd.out _ hg0).mono ?_
            rintro e w1 ⟨rfl, hg1⟩
            obtain ⟨k1, k0, klt⟩ := hbk.out w1 hg1
            go_wp2_with fail
            go_ret
            exact ⟨by rw [hb.out]; rfl, gr_trans hg0 hg1⟩
          case pos =>
              obtain ⟨h, a, bb, hp⟩ := len3 hn
              have hh : h.atom = appW := by rw [← hAp, ← hHeh.out]; unfold hdOf; rw [hp]
              have hb := Lib.hid (happ.out h a bb hp hh)
              obtain ⟨g1, o1, A1, c1, eA1, q10, q11, hv1⟩ := hpt.out 1 a (by rw [hp]; rfl)
              obtain ⟨g2, o2, A2, c2, eA2, q20, q21, hv2⟩ := hpt.out 2 bb (by rw [hp]; rfl)
              subst eA1
              injection eA2 with eA2
              injection eA2 with eg2 eo2
              subst eg2 eo2
              have hE := Lib.hid (fun (W : World) (hW : w.grownBy W none) => (⟨cell_grown q10 hW, cell_grown q11 hW, cell_grown q20 hW, cell_grown q21 hW⟩ : W.cell? ⟨g1, o1 + 2, none⟩ = some (.string ⟨a.atom.toArray⟩) ∧ W.cell? ⟨g1, o1 + 3, none⟩ = some (.slice A1 a.parts.length c1) ∧ W.cell? ⟨g1, o1 + 4, none⟩ = some (.string ⟨bb.atom.toArray⟩) ∧ W.cell? ⟨g1, o1 + 5, none⟩ = some (.slice A2 bb.parts.length c2)))
              have hm1 := hmem.out a (by rw [hp]; simp)
              have hV1 := Lib.hid (fun (W : World) (hW : w.grownBy W none) => hv1.grown0 hW)
              have hm2 := hmem.out bb (by rw [hp]; simp)
              have hV2 := Lib.hid (fun (W : World) (hW : w.grownBy W none) => hv2.grown0 hW)
              clear q10 q11 hv1 q20 q21 hv2
              rw [hn] at hbk hg0 hHd ⊢
              have hI1 := Lib.hid (fun (W : World) (hW : w.grownBy W none) => ihh.out a A1 c1 F W (by omega) (by omega) hm1.2.1 (by omega) (hV1.out W hW))
              have hI2 := Lib.hid (fun (W : World) (hW : w.grownBy W none) => ihh.out bb A2 c2 F W (by omega) (by omega) hm2.2.1 (by omega) (hV2.out W hW))
              clear hL hAp hn hp hh hm1 hm2 hdo
              go_enter Try.func31, Try.ntmps31
              go_wp2_with fail
              refine (hHd.out _ hg0).mono ?_
              rintro e w1 ⟨rfl, hg1⟩
              obtain ⟨e10, e11, e20, e21⟩ := hE.out w1 (gr_trans hg0 hg1)
              obtain ⟨k1, k0, klt⟩ := hbk.out w1 hg1
              go_wp2_with fail
              refine (hI1.out w1 (gr_trans hg0 hg1)).mono ?_
              rintro e w2 ⟨rfl, hs2⟩
              have hg2 := gr_trans hg1 hs2
              clear e10 e11 e20 e21 k1 k0 klt
              obtain ⟨e10, e11, e20, e21⟩ := hE.out w2 (gr_trans hg0 hg2)
              obtain ⟨k1, k0, klt⟩ := hbk.out w2 hg2
              rcases Bool.eq_false_or_eq_true (isTf m a) with hq2 | hq2
              rotate_left
              · have hbq := Lib.hid (hb.out.trans (show _ = false by rw [hq2]; rfl))
                go_wp2_with fail
                go_ret
                exact ⟨congrArg (fun z => Ending.returned (.bool z)) hbq.out.symm, gr_trans hg0 hg2⟩
              go_wp2_with fail
              refine (hI2.out w2 (gr_trans hg0 hg2)).mono ?_
              rintro e w3 ⟨rfl, hs3⟩
              have hg3 := gr_trans hg2 hs3
              clear e10 e11 e20 e21 k1 k0 klt
              obtain ⟨e10, e11, e20, e21⟩ := hE.out w3 (gr_trans hg0 hg3)
              obtain ⟨k1, k0, klt⟩ := hbk.out w3 hg3
              have hbq := Lib.hid (hb.out.trans (show _ = isTf m bb by rw [hq2]; rfl))
              generalize isTf m bb = z at *
              go_wp2_with fail
              go_ret
              exact ⟨congrArg (fun z => Ending.returned (.bool z)) hbq.out.symm, gr_trans hg0 hg3⟩
        · by_cases hI : H = ifW
          · skip
            have m1 : (H == ([108, 97, 109] : List UInt8)) = false := by rw [beq_eq_false_iff_ne, hI]; decide
            have m2 : (H == ([97, 112, 112] : List UInt8)) = false := by rw [beq_eq_false_iff_ne, hI]; decide
            have m3 : (H == ([105, 102] : List UInt8)) = true := by rw [hI]; rfl
            by_cases hn : x.parts.length = 4
            case neg =>
              have hb := Lib.hid (hno.out (fun e => absurd e hL) (fun e => absurd e hAp) (fun _ => hn))
              have hnI : ((x.parts.length : Int) == 4) = false := by rw [beq_eq_false_iff_ne]; omega
              clear hL hAp hI hn
              go_enter Try.func31, Try.ntmps31
              go_wp2_with fail
              refine (hHd.out _ hg0).mono ?_
              rintro e w1 ⟨rfl, hg1⟩
              obtain ⟨k1, k0, klt⟩ := hbk.out w1 hg1
              go_wp2_with fail
              go_ret
              exact ⟨by rw [hb.out]; rfl, gr_trans hg0 hg1⟩
            case pos =>
                obtain ⟨h, a, bb, cc, hp⟩ := len4 hn
                have hh : h.atom = ifW := by rw [← hI, ← hHeh.out]; unfold hdOf; rw [hp]
                have hb := Lib.hid (hif.out h a bb cc hp hh)
                obtain ⟨g1, o1, A1, c1, eA1, q10, q11, hv1⟩ := hpt.out 1 a (by rw [hp]; rfl)
                obtain ⟨g2, o2, A2, c2, eA2, q20, q21, hv2⟩ := hpt.out 2 bb (by rw [hp]; rfl)
                obtain ⟨g3, o3, A3, c3, eA3, q30, q31, hv3⟩ := hpt.out 3 cc (by rw [hp]; rfl)
                subst eA1
                injection eA2 with eA2
                injection eA2 with eg2 eo2
                subst eg2 eo2
                injection eA3 with eA3
                injection eA3 with eg3 eo3
                subst eg3 eo3
                have hE := Lib.hid (fun (W : World) (hW : w.grownBy W none) => (⟨cell_grown q10 hW, cell_grown q11 hW, cell_grown q20 hW, cell_grown q21 hW, cell_grown q30 hW, cell_grown q31 hW⟩ : W.cell? ⟨g1, o1 + 2, none⟩ = some (.string ⟨a.atom.toArray⟩) ∧ W.cell? ⟨g1, o1 + 3, none⟩ = some (.slice A1 a.parts.length c1) ∧ W.cell? ⟨g1, o1 + 4, none⟩ = some (.string ⟨bb.atom.toArray⟩) ∧ W.cell? ⟨g1, o1 + 5, none⟩ = some (.slice A2 bb.parts.length c2) ∧ W.cell? ⟨g1, o1 + 6, none⟩ = some (.string ⟨cc.atom.toArray⟩) ∧ W.cell? ⟨g1, o1 + 7, none⟩ = some (.slice A3 cc.parts.length c3)))
                have hm1 := hmem.out a (by rw [hp]; simp)
                have hV1 := Lib.hid (fun (W : World) (hW : w.grownBy W none) => hv1.grown0 hW)
                have hm2 := hmem.out bb (by rw [hp]; simp)
                have hV2 := Lib.hid (fun (W : World) (hW : w.grownBy W none) => hv2.grown0 hW)
                have hm3 := hmem.out cc (by rw [hp]; simp)
                have hV3 := Lib.hid (fun (W : World) (hW : w.grownBy W none) => hv3.grown0 hW)
                clear q10 q11 hv1 q20 q21 hv2 q30 q31 hv3
                rw [hn] at hbk hg0 hHd ⊢
                have hI1 := Lib.hid (fun (W : World) (hW : w.grownBy W none) => ihh.out a A1 c1 F W (by omega) (by omega) hm1.2.1 (by omega) (hV1.out W hW))
                have hI2 := Lib.hid (fun (W : World) (hW : w.grownBy W none) => ihh.out bb A2 c2 F W (by omega) (by omega) hm2.2.1 (by omega) (hV2.out W hW))
                have hI3 := Lib.hid (fun (W : World) (hW : w.grownBy W none) => ihh.out cc A3 c3 F W (by omega) (by omega) hm3.2.1 (by omega) (hV3.out W hW))
                clear hL hAp hI hn hp hh hm1 hm2 hm3 hdo
                go_enter Try.func31, Try.ntmps31
                go_wp2_with fail
                refine (hHd.out _ hg0).mono ?_
                rintro e w1 ⟨rfl, hg1⟩
                obtain ⟨e10, e11, e20, e21, e30, e31⟩ := hE.out w1 (gr_trans hg0 hg1)
                obtain ⟨k1, k0, klt⟩ := hbk.out w1 hg1
                go_wp2_with fail
                refine (hI1.out w1 (gr_trans hg0 hg1)).mono ?_
                rintro e w2 ⟨rfl, hs2⟩
                have hg2 := gr_trans hg1 hs2
                clear e10 e11 e20 e21 e30 e31 k1 k0 klt
                obtain ⟨e10, e11, e20, e21, e30, e31⟩ := hE.out w2 (gr_trans hg0 hg2)
                obtain ⟨k1, k0, klt⟩ := hbk.out w2 hg2
                rcases Bool.eq_false_or_eq_true (isTf m a) with hq2 | hq2
                rotate_left
                · have hbq := Lib.hid (hb.out.trans (show _ = false by rw [hq2]; rfl))
                  go_wp2_with fail
                  go_ret
                  exact ⟨congrArg (fun z => Ending.returned (.bool z)) hbq.out.symm, gr_trans hg0 hg2⟩
                go_wp2_with fail
                refine (hI2.out w2 (gr_trans hg0 hg2)).mono ?_
                rintro e w3 ⟨rfl, hs3⟩
                have hg3 := gr_trans hg2 hs3
                clear e10 e11 e20 e21 e30 e31 k1 k0 klt
                obtain ⟨e10, e11, e20, e21, e30, e31⟩ := hE.out w3 (gr_trans hg0 hg3)
                obtain ⟨k1, k0, klt⟩ := hbk.out w3 hg3
                rcases Bool.eq_false_or_eq_true (isTf m bb) with hq3 | hq3
                rotate_left
                · have hbq := Lib.hid (hb.out.trans (show _ = false by rw [hq2, hq3]; rfl))
                  go_wp2_with fail
                  go_ret
                  exact ⟨congrArg (fun z => Ending.returned (.bool z)) hbq.out.symm, gr_trans hg0 hg3⟩
                go_wp2_with fail
                refine (hI3.out w3 (gr_trans hg0 hg3)).mono ?_
                rintro e w4 ⟨rfl, hs4⟩
                have hg4 := gr_trans hg3 hs4
                clear e10 e11 e20 e21 e30 e31 k1 k0 klt
                obtain ⟨e10, e11, e20, e21, e30, e31⟩ := hE.out w4 (gr_trans hg0 hg4)
                obtain ⟨k1, k0, klt⟩ := hbk.out w4 hg4
                have hbq := Lib.hid (hb.out.trans (show _ = isTf m cc by rw [hq2, hq3]; rfl))
                generalize isTf m cc = z at *
                go_wp2_with fail
                go_ret
                exact ⟨congrArg (fun z => Ending.returned (.bool z)) hbq.out.symm, gr_trans hg0 hg4⟩
          · have hb := Lib.hid (hno.out (fun e => absurd e hL) (fun e => absurd e hAp) (fun e => absurd e hI))
            have m1 : (H == ([108, 97, 109] : List UInt8)) = false := by rw [beq_eq_false_iff_ne]; exact hL
            have m2 : (H == ([97, 112, 112] : List UInt8)) = false := by rw [beq_eq_false_iff_ne]; exact hAp
            have m3 : (H == ([105, 102] : List UInt8)) = false := by rw [beq_eq_false_iff_ne]; exact hI
            clear hL hAp hI
            go_enter Try.func31, Try.ntmps31
            go_wp2_with fail
            refine (hHd.out _ hg0).mono ?_
            rintro e w1 ⟨rfl, hg1⟩
            go_wp2_with fail
            go_ret
            exact ⟨by rw [hb.out]; rfl, gr_trans hg0 hg1⟩
    · have hlf := Lib.hid (isTf_leaf (m := m) hat)
      have he : ((⟨x.atom.toArray⟩ : ByteArray).toList.isEmpty) = false := by rw [emp_iff]; cases h : x.atom with | nil => exact absurd h hat | cons c r => rfl
      have he2 : x.atom.isEmpty = false := by cases h : x.atom with | nil => exact absurd h hat | cons c r => rfl
      have hla := atom_text x
      have hNm := Lib.hid (fun W => l5Name_any x.atom W (by omega))
      have hbk := Lib.hid (fun (W : World) (hW : (w.alloc (.cells #[.string ⟨x.atom.toArray⟩, .slice A x.parts.length c] 37)).grownBy W none) => (⟨(hbx.grown0 hW).cell 0, (hbx.grown0 hW).lt⟩ : W.cell? ⟨w.heap.size, 0, none⟩ = some (.string ⟨x.atom.toArray⟩) ∧ w.heap.size < W.heap.size))
      clear hk hbx hat
      generalize isTf (m + 1) x = b at *
      generalize x.atom = a at *
      by_cases hw : isWd a = true
      · have hb := Lib.hid (hlf.out.trans (show _ = true by rw [hw]; rfl))
        rcases isWd_iff.1 hw with rfl | rfl | rfl
        all_goals
          clear hw
          go_enter Try.func31, Try.ntmps31
          go_wp2_with fail
          go_ret
          exact ⟨by rw [hb.out]; rfl, hg0⟩
      · have hw2 : isWd a = false := by cases h : isWd a <;> simp_all
        have hb := Lib.hid (hlf.out.trans (show _ = isNm a by rw [hw2]; rfl))
        have n1 : (a == [116]) = false := by rw [beq_eq_false_iff_ne]; rintro rfl; exact hw rfl
        have n2 : (a == [102]) = false := by rw [beq_eq_false_iff_ne]; rintro rfl; exact hw rfl
        have n3 : (a == [117]) = false := by rw [beq_eq_false_iff_ne]; rintro rfl; exact hw rfl
        generalize isNm a = z at *
        clear hw hw2
        go_enter Try.func31, Try.ntmps31
        go_wp2_with fail
        refine (hNm.out _).mono ?_
        rintro e w1 ⟨rfl, hg1⟩
        go_wp2_with fail
        go_ret
        exact ⟨congrArg (fun z => Ending.returned (.bool z)) hb.out.symm, gr_trans hg0 hg1⟩
end Go.Proofs.Ytiaafacmfflfiaa
