/- The program's types of choices. -/
import Derived.Test.YtiaafacmfflfiaaTyped
namespace Go.Proofs.Ytiaafacmfflfiaa
open Go.RowKit

attribute [local go_sem ↓] Go.wp_at_zero Go.wp_at_succ
set_option maxRecDepth 100000 in
set_option maxHeartbeats 4000000 in
theorem typed_ite (l m n : Tm) (ihl : TypIH l) (ihm : TypIH m) (ihn : TypIH n) : TypIH (.ite l m n) := by
  intro E q A c w ht hwf hE hok hsz hcE
  cases ht with
  | ite _ _ _ _ q0 q1 q2 A1 cp hq hb hA h0 h1 h2 =>
  have c0 := hb.cell 0
  have c3 := hb.cell 3
  have hlt := hb.lt
  simp only [List.getElem?_toArray, List.getElem?_cons_zero, List.getElem?_cons_succ] at c0 c3
  obtain ⟨gp, op, rfl, _, hcp⟩ := hA (by decide)
  have p0 := hcp 0 (by decide)
  have p1 := hcp 1 (by decide)
  have p2 := hcp 2 (by decide)
  simp only [if_true, Nat.add_zero, ptrv] at p0 p1 p2
  simp only [Tm.wf, Bool.and_eq_true] at hwf
  simp only [Tm.atoms] at hsz
  have hL := Lib.hid (fun W (hW : w.grownBy W none) => ihl E q0 A c W (h0.grown0 hW) (by simp [hwf]) (hE.grown0 hW) hok (by omega) hcE)
  have hM := Lib.hid (fun W (hW : w.grownBy W none) => ihm E q1 A c W (h1.grown0 hW) (by simp [hwf]) (hE.grown0 hW) hok (by omega) hcE)
  have hN := Lib.hid (fun W (hW : w.grownBy W none) => ihn E q2 A c W (h2.grown0 hW) (by simp [hwf]) (hE.grown0 hW) hok (by omega) hcE)
  have hlp : gp < w.heap.size := World.block_lt_of_cell? w ⟨gp, op, none⟩ p0
  have hkp := Lib.hid (fun (V : World) (hV : w.grownBy V none) => show V.cell? ⟨q, 3, none⟩ = some (.slice (some ⟨gp, op, none⟩) 3 cp) ∧ V.cell? ⟨gp, op, none⟩ = some (.pointer (some ⟨q0, 0, none⟩)) ∧ V.cell? ⟨gp, op + 1, none⟩ = some (.pointer (some ⟨q1, 0, none⟩)) ∧ V.cell? ⟨gp, op + 2, none⟩ = some (.pointer (some ⟨q2, 0, none⟩)) from
    ⟨(hb.grown0 hV).cell 3, (World.cell?_of_block (w := w) (a := ⟨gp, op, none⟩) (hV.block gp hlp (by simp))).trans p0, (World.cell?_of_block (w := w) (a := ⟨gp, op + 1, none⟩) (hV.block gp hlp (by simp))).trans p1, (World.cell?_of_block (w := w) (a := ⟨gp, op + 2, none⟩) (hV.block gp hlp (by simp))).trans p2⟩)
  have hgx : w.grownBy w.drew none := gr_drew (gr_refl _ _)
  have hokh := Lib.hid hok
  clear hA h0 h1 h2 hcp hE ihl ihm ihn hwf hsz hok
  go_enter Try.func21, Try.ntmps21
  go_wp2_with fail
  go_region_held3 (fun w' => w'.cell? ⟨q, 3, none⟩ = some (.slice (some ⟨gp, op, none⟩) 3 cp) ∧ w'.cell? ⟨gp, op, none⟩ = some (.pointer (some ⟨q0, 0, none⟩)) ∧ w'.cell? ⟨gp, op + 1, none⟩ = some (.pointer (some ⟨q1, 0, none⟩)) ∧ w'.cell? ⟨gp, op + 2, none⟩ = some (.pointer (some ⟨q2, 0, none⟩)))
    (first | exact hkp.out _ (gr_trans hgx (gr_trans hg1 (gr_trans hg2 hg3))) | exact hkp.out _ (gr_trans hgx (gr_trans hg1 hg2)) | exact hkp.out _ (gr_trans hgx hg1) | exact hkp.out _ hgx | go_keep)
    (first
      | (go_at_call 21; refine (hN.out _ (gr_trans hgx (gr_trans hg1 hg2))).mono ?_; rintro e w3 ⟨hg3, v3, rfl, hv3⟩)
      | (go_at_call 21; refine (hM.out _ (gr_trans hgx hg1)).mono ?_; rintro e w2 ⟨hg2, v2, rfl, hv2⟩)
      | (go_at_call 21; refine (hL.out _ hgx).mono ?_; rintro e w1 ⟨hg1, v1, rfl, hv1⟩))
  have hgw := gr_trans hgx (gr_trans hg1 (gr_trans hg2 hg3))
  have hv1' := hv1.grown0 (gr_trans hg2 hg3)
  have hv2' := hv2.grown0 hg3
  have hty := Lib.hid (show (Tm.ite l m n).ty E = tyIte (l.ty E) (m.ty E) (n.ty E) from rfl)
  clear hv1 hv2 hL hM hN hkp p0 p1 p2 c0 c3 hb
  cases hl : l.ty E with
  | none =>
    rw [hl] at hv1' hty
    obtain rfl := hv1'
    go_wp2_with fail
    go_ret
    exact TypedPost.no hty.out hgw
  | some kl =>
    rw [hl] at hv1' hty
    obtain ⟨ql, rfl, hkl⟩ := hv1'
    cases hm : m.ty E with
    | none =>
      rw [hm] at hv2' hty
      obtain rfl := hv2'
      have hNo := Lib.hid (show (Tm.ite l m n).ty E = none by rw [hty.out]; cases kl <;> rfl)
      go_wp2_with fail
      go_ret
      exact TypedPost.no hNo.out hgw
    | some km =>
      rw [hm] at hv2' hty
      obtain ⟨qm, rfl, hkm⟩ := hv2'
      cases hn : n.ty E with
      | none =>
        rw [hn] at hv3 hty
        obtain rfl := hv3
        have hNo := Lib.hid (show (Tm.ite l m n).ty E = none by rw [hty.out]; cases kl <;> rfl)
        go_wp2_with fail
        go_ret
        exact TypedPost.no hNo.out hgw
      | some kn =>
        rw [hn] at hv3 hty
        obtain ⟨qn, rfl, hkn⟩ := hv3
        have h15m := Tm.ty_le m E _ hokh.out hm
        have h15n := Tm.ty_le n E _ hokh.out hn
        have hSm := Lib.hid (same_any qm qn km kn Al Al w3 hkm hkn (by omega) (by omega))
        unfold ptrv at hSm
        cases kl with
        | arr a r =>
          obtain ⟨Ak, ck, qks, hbk, _, _⟩ := hkl.open_
          have k0 := hbk.cell 0
          have hln : (Ty.arr a r).args.length = r.args.length + 1 := rfl
          rw [hln] at k0
          simp only [List.getElem?_toArray, List.getElem?_cons_zero] at k0
          have klt := hbk.lt
          have hni : (((r.args.length + 1 : Nat) : Int) == 0) = false := by rw [beq_eq_false_iff_ne]; omega
          have hni2 : ((r.args.length : Int) + 1 == 0) = false := by rw [beq_eq_false_iff_ne]; omega
          clear hkm hkn hm hn hl hkl hbk
          go_wp2_with fail
          go_ret
          exact TypedPost.no hty.out hgw
        | b =>
          obtain ⟨Ak, ck, qks, hbk, _, _⟩ := hkl.open_
          have k0 := hbk.cell 0
          simp only [List.getElem?_toArray, List.getElem?_cons_zero, Ty.args, List.length_nil] at k0
          have klt := hbk.lt
          by_cases hak : km = kn
          · have hY := Lib.hid (show (Tm.ite l m n).ty E = some km by rw [hty.out]; exact if_pos hak)
            rw [decide_eq_true hak] at hSm
            have hkmh := Lib.hid hkm
            clear hkm hkn hm hn hl hkl hbk hty
            go_wp2_with fail
            refine hSm.out.mono ?_
            rintro e w4 ⟨rfl, hg4⟩
            go_wp2_with fail
            refine (atoms_any km.atoms km _ Al _ (Nat.le_refl _) (by omega) (hkmh.out.grown0 hg4)).mono ?_
            rintro e w5 ⟨rfl, rfl⟩
            have hri : ¬ (15 : Int) < (km.atoms : Int) := by omega
            go_wp2_with fail
            go_ret
            exact TypedPost.yes hY.out (gr_trans hgw hg4) (hkmh.out.grown0 hg4)
          · have hNo := Lib.hid (show (Tm.ite l m n).ty E = none by rw [hty.out]; exact if_neg hak)
            rw [decide_eq_false hak] at hSm
            clear hkm hkn hm hn hl hkl hbk hty
            go_wp2_with fail
            refine hSm.out.mono ?_
            rintro e w4 ⟨rfl, hg4⟩
            go_wp2_with fail
            go_ret
            exact TypedPost.no hNo.out (gr_trans hgw hg4)
end Go.Proofs.Ytiaafacmfflfiaa
