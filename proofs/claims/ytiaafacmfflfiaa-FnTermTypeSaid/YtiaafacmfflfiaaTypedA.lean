/- The program's types of applications. -/
import Derived.Test.YtiaafacmfflfiaaTyped
namespace Go.Proofs.Ytiaafacmfflfiaa
open Go.RowKit

attribute [local go_sem ↓] Go.wp_at_zero Go.wp_at_succ
set_option maxRecDepth 100000 in
set_option maxHeartbeats 4000000 in
theorem typed_app (m n : Tm) (ihm : TypIH m) (ihn : TypIH n) : TypIH (.app m n) := by
  intro E q A c w ht hwf hE hok hsz hcE
  cases ht with
  | app _ _ _ q0 q1 A1 cp hq hb hA h0 h1 =>
  have c0 := hb.cell 0
  have c3 := hb.cell 3
  have hlt := hb.lt
  simp only [List.getElem?_toArray, List.getElem?_cons_zero, List.getElem?_cons_succ] at c0 c3
  obtain ⟨gp, op, rfl, _, hcp⟩ := hA (by decide)
  have p0 := hcp 0 (by decide)
  have p1 := hcp 1 (by decide)
  simp only [if_true, Nat.add_zero, ptrv] at p0 p1
  simp only [Tm.wf, Bool.and_eq_true] at hwf
  simp only [Tm.atoms] at hsz
  have hM := Lib.hid (fun W (hW : w.grownBy W none) => ihm E q0 A c W (h0.grown0 hW) hwf.1 (hE.grown0 hW) hok (by omega) hcE)
  have hN := Lib.hid (fun W (hW : w.grownBy W none) => ihn E q1 A c W (h1.grown0 hW) hwf.2 (hE.grown0 hW) hok (by omega) hcE)
  have hlp : gp < w.heap.size := World.block_lt_of_cell? w ⟨gp, op, none⟩ p0
  have hkp := Lib.hid (fun (V : World) (hV : w.grownBy V none) => show V.cell? ⟨q, 3, none⟩ = some (.slice (some ⟨gp, op, none⟩) 2 cp) ∧ V.cell? ⟨gp, op, none⟩ = some (.pointer (some ⟨q0, 0, none⟩)) ∧ V.cell? ⟨gp, op + 1, none⟩ = some (.pointer (some ⟨q1, 0, none⟩)) from
    ⟨(hb.grown0 hV).cell 3, (World.cell?_of_block (w := w) (a := ⟨gp, op, none⟩) (hV.block gp hlp (by simp))).trans p0, (World.cell?_of_block (w := w) (a := ⟨gp, op + 1, none⟩) (hV.block gp hlp (by simp))).trans p1⟩)
  have hgx : w.grownBy w.drew none := gr_drew (gr_refl _ _)
  have hokh := Lib.hid hok
  clear hA h0 h1 hcp hE ihm ihn hwf hsz hok
  go_enter Try.func21, Try.ntmps21
  go_wp2_with fail
  go_region_held3 (fun w' => w'.cell? ⟨q, 3, none⟩ = some (.slice (some ⟨gp, op, none⟩) 2 cp) ∧ w'.cell? ⟨gp, op, none⟩ = some (.pointer (some ⟨q0, 0, none⟩)) ∧ w'.cell? ⟨gp, op + 1, none⟩ = some (.pointer (some ⟨q1, 0, none⟩)))
    (first | exact hkp.out _ (gr_trans hgx (gr_trans hg1 hg2)) | exact hkp.out _ (gr_trans hgx hg1) | exact hkp.out _ hgx | go_keep)
    (first
      | (go_at_call 21; refine (hN.out _ (gr_trans hgx hg1)).mono ?_; rintro e w2 ⟨hg2, v2, rfl, hv2⟩)
      | (go_at_call 21; refine (hM.out _ hgx).mono ?_; rintro e w1 ⟨hg1, v1, rfl, hv1⟩))
  have hgw := gr_trans hgx (gr_trans hg1 hg2)
  have hv1' := hv1.grown0 hg2
  have hty := Lib.hid (show (Tm.app m n).ty E = tyApp (m.ty E) (n.ty E) from rfl)
  clear hv1 hM hN hkp p0 p1 c0 c3 hb
  cases hm : m.ty E with
  | none =>
    rw [hm] at hv1' hty
    obtain rfl := hv1'
    go_wp2_with fail
    go_ret
    exact TypedPost.no hty.out hgw
  | some km =>
    rw [hm] at hv1' hty
    obtain ⟨qm, rfl, hkm⟩ := hv1'
    cases hn : n.ty E with
    | none =>
      rw [hn] at hv2 hty
      obtain rfl := hv2
      have hN := Lib.hid (show (Tm.app m n).ty E = none by rw [hty.out]; cases km <;> rfl)
      go_wp2_with fail
      go_ret
      exact TypedPost.no hN.out hgw
    | some kn =>
      rw [hn] at hv2 hty
      obtain ⟨qn, rfl, hkn⟩ := hv2
      cases km with
      | b =>
        obtain ⟨Ak, ck, qks, hbk, _, _⟩ := hkm.open_
        have k0 := hbk.cell 0
        simp only [List.getElem?_toArray, List.getElem?_cons_zero, Ty.args, List.length_nil] at k0
        have klt := hbk.lt
        go_wp2_with fail
        go_ret
        exact TypedPost.no hty.out hgw
      | arr a r =>
        obtain ⟨Ak, ck, qks, hbk, hSk, hsk, hcap⟩ := hkm.openc
        have k0 := hbk.cell 0
        have hln : (Ty.arr a r).args.length = r.args.length + 1 := rfl
        rw [hln] at k0 hSk hcap
        simp only [List.getElem?_toArray, List.getElem?_cons_zero] at k0
        have klt := hbk.lt
        obtain ⟨gk, ok, rfl, _, hck⟩ := hSk (by omega)
        have ck0 := hck 0 (by omega)
        have hka := hsk 0 a rfl
        rw [Nat.add_zero] at ck0
        clear hck
        have h15m := Tm.ty_le m E _ hokh.out hm
        have h15n := Tm.ty_le n E _ hokh.out hn
        simp only [Ty.atoms] at h15m
        have hSm := Lib.hid (same_any (qks 0) qn a kn Al Al w2 hka hkn (by omega) (by omega))
        unfold ptrv at hSm
        by_cases hak : a = kn
        · have hY := Lib.hid (show (Tm.app m n).ty E = some r by rw [hty.out]; exact if_pos hak)
          rw [decide_eq_true hak] at hSm
          have hbkh := Lib.hid (fun W (hW : w2.grownBy W none) => show W.cell? ⟨qm, 0, none⟩ = some (.slice (some ⟨gk, ok, none⟩) (r.args.length + 1) ck) from (World.cell?_of_block (w := w2) (a := ⟨qm, 0, none⟩) (hW.block qm klt (by simp))).trans k0)
          have hTl := Lib.hid (fun (W : World) (hW : w2.grownBy W none) (A' : Option Addr) (hA' : ck ≠ 1 → A' = some ⟨gk, ok + 1, none⟩) => kindP_tail (a := a) (hSk.grown0 hW) (fun i u hu => (hsk i u hu).grown0 hW) hcap A' hA')
          have hrb : r.atoms ≤ 15 := by omega
          clear hka hkn hty hm hn hbk hsk hSk
          by_cases hc1 : ck = 1
          · subst hc1
            have hr0 : r.args.length = 0 := by omega
            rw [hr0] at k0 hbkh hTl
            go_wp2_with fail
            refine hSm.out.mono ?_
            rintro e w3 ⟨rfl, hg3⟩
            have k3 := hbkh.out w3 hg3
            clear k0
            go_wp2_with fail
            have hK := fun A' => hTl.out w3 hg3 A' (fun h => absurd rfl h)
            refine (atoms_any r.atoms r _ Al _ (Nat.le_refl _) (by omega) (hK _)).mono ?_
            rintro e w4 ⟨rfl, rfl⟩
            have hri : ¬ (15 : Int) < (r.atoms : Int) := by omega
            go_wp2_with fail
            go_ret
            exact TypedPost.yes hY.out (gr_alloc (gr_trans hgw hg3) _) (hK _)
          · go_wp2_with fail
            refine hSm.out.mono ?_
            rintro e w3 ⟨rfl, hg3⟩
            have k3 := hbkh.out w3 hg3
            clear k0
            go_wp2_with fail
            have hK := hTl.out w3 hg3 _ (fun _ => rfl)
            refine (atoms_any r.atoms r _ Al _ (Nat.le_refl _) (by omega) hK).mono ?_
            rintro e w4 ⟨rfl, rfl⟩
            have hri : ¬ (15 : Int) < (r.atoms : Int) := by omega
            go_wp2_with fail
            go_ret
            exact TypedPost.yes hY.out (gr_alloc (gr_trans hgw hg3) _) hK
        · have hN := Lib.hid (show (Tm.app m n).ty E = none by rw [hty.out]; exact if_neg hak)
          rw [decide_eq_false hak] at hSm
          clear hka hkn hsk hSk hty hm hn
          go_wp2_with fail
          refine hSm.out.mono ?_
          rintro e w3 ⟨rfl, hg3⟩
          go_wp2_with fail
          go_ret
          exact TypedPost.no hN.out (gr_trans hgw hg3)
end Go.Proofs.Ytiaafacmfflfiaa
