/- The reference's reader of bodies: lists. -/
import Derived.Test.YtlehnlfgjadleaaDoorSBody
namespace Go.Proofs.YtlehnlfgjadleaaDoor
open Go.RowKit

theorem cell_grown' {w W : World} {g i : Nat} {v : Value} (h : w.cell? ⟨g, i, none⟩ = some v) (hg : w.grownBy W none) : W.cell? ⟨g, i, none⟩ = some v :=
  (World.cell?_of_block (w := w) (a := ⟨g, i, none⟩) (hg.block g (World.block_lt_of_cell? w ⟨g, i, none⟩ h) (by simp))).trans h
theorem not_word {l : List UInt8} (h40 : pre [40] l = true) : pre [116] l = false ∧ pre [102] l = false ∧ pre [117] l = false := by
  rw [pre_spl h40]
  exact ⟨pre_ne _ (by decide), pre_ne _ (by decide), pre_ne _ (by decide)⟩
theorem sbody_list {f : Nat} {hand : List Ty} {l : List UInt8} (h40 : pre [40] l = true) : sbody (f + 1) hand l = (match num4 (cut [40] l) with
      | some (v, r) => (match hand[v]? with
        | some k => bloop (sbody f) hand k.args (k.args.length + 2) (.hd v) r
        | none => none)
      | none => none) := by
  obtain ⟨n1, n2, n3⟩ := not_word h40
  have hne : ¬ (pre [116] l = true ∨ pre [102] l = true ∨ pre [117] l = true) := by
    rintro (h | h | h)
    · rw [n1] at h; cases h
    · rw [n2] at h; cases h
    · rw [n3] at h; cases h
  conv => lhs; unfold sbody
  rw [if_neg hne, if_pos h40]
  rfl
set_option maxRecDepth 100000 in
set_option maxHeartbeats 4000000 in
theorem l3Read_list (f : Nat) (ih : BIH f) (l : List UInt8) (i : Nat) (d : Int) (hand : List Ty) (A : Option Addr) (ca N : Nat) (w : World) (hl : l.length ≤ 100000) (hlt : i < l.length) (_hd : d ≤ 100 ∧ 0 ≤ d) (hdx : d + 1 = 101 - (f : Int)) (h40 : pre [40] (l.drop i) = true)
    (hh : HandV w Al A hand) (hok : HandOk hand N) (hN : N + 15 * (f + 1) ≤ 9999) :
    Calls Tryd.prog 35 #[.string ⟨l.toArray⟩, .int .i64 (i : Int), .slice A hand.length ca, .int .i64 d] w (BPost (f + 1) hand l i w) := by
  have hlt' : i < (⟨l.toArray⟩ : ByteArray).size := by simpa [ByteArray.size] using hlt
  have hg0 := World.grownBy_alloc w (.cells #[.string ⟨#[]⟩, .int .i64 0, .slice none 0 0, .slice none 0 0] 36) none
  have hbR := Blk.new w 36 #[.string ⟨#[]⟩, .int .i64 0, .slice none 0 0, .slice none 0 0]
  obtain ⟨n1, n2, n3⟩ := not_word h40
  have hb1 := byte_is l i hlt hlt' 116 116 rfl
  have hb2 := byte_is l i hlt hlt' 102 102 rfl
  have hb3 := byte_is l i hlt hlt' 117 117 rfl
  have hb4 := byte_ne l i hlt hlt' 40 40 rfl
  rw [n1] at hb1
  rw [n2] at hb2
  rw [n3] at hb3
  rw [h40] at hb4
  have hS := sbody_list (f := f) (hand := hand) h40
  rw [cut_drop h40] at hS
  have e1 : i + ([40] : List UInt8).length = i + 1 := rfl
  rw [e1] at hS
  have hsz : (⟨l.toArray⟩ : ByteArray).size = l.length := by simp [ByteArray.size]
  have hnl : ¬ l.length ≤ i := by omega
  have hnd : ¬ (100 : Int) < d := by omega
  have hNum := Lib.hid (fun W => l3Number_any l (i + 1) W hl (by omega))
  have hSh := Lib.hid hS
  have hf101 := Lib.hid (show f ≤ 101 by omega)
  have hdh := Lib.hid hdx
  clear n1 n2 n3 h40 hS e1 hdx
  cases hn : num4 (l.drop (i + 1)) with
  | none =>
    have hNo := Lib.hid (show sbody (f + 1) hand (l.drop i) = none by rw [hSh.out, hn])
    have hr : numRes l (i + 1) = .tuple #[.int .i64 0, .int .i64 (-1)] := by unfold numRes; rw [hn]
    rw [hr] at hNum
    clear hn hr hbR
    go_enter Tryd.func35, Tryd.ntmps35
    go_wp2_with fail
    refine (hNum.out _).mono ?_
    rintro e w1 ⟨rfl, rfl⟩
    go_wp2_with fail
    exact bodyPost_ret (v := noneV) (by simp [results, Tryd.results35, go_sem, noneV]) rfl (BPost.no hNo.out hg0)
  | some vr =>
    obtain ⟨v, r⟩ := vr
    have hr : numRes l (i + 1) = .tuple #[.int .i64 (v : Int), .int .i64 ((i + 1 + (digs (l.drop (i + 1))).length : Nat) : Int)] := by unfold numRes; rw [hn]
    have hrl : r = l.drop (i + 1 + (digs (l.drop (i + 1))).length) := by
      unfold num4 at hn
      split at hn
      · cases hn
      · split at hn
        · cases hn
        · cases hn; rw [List.drop_drop]
    have hdl := (digs_len (l.drop (i + 1))).2
    rw [List.length_drop] at hdl
    rw [hr] at hNum
    rw [hn, hrl] at hSh
    clear hn hr hrl
    generalize hj0 : i + 1 + (digs (l.drop (i + 1))).length = j0 at *
    have hj0l : j0 ≤ l.length := by omega
    have hij0 : i < j0 := by omega
    have hj0i : ¬ (j0 : Int) < 0 := by omega
    clear hdl hj0
    by_cases hv : v < hand.length
    · have hk : hand[v]? = some hand[v] := List.getElem?_eq_getElem hv
      have hSh2 := Lib.hid (show sbody (f + 1) hand (l.drop i) = bloop (sbody f) hand hand[v].args (hand[v].args.length + 2) (.hd v) (l.drop j0) by rw [hSh.out]; simp only [hk])
      have hag : Bo.argsOf hand v = hand[v].args := by unfold Bo.argsOf; rw [hk]
      obtain ⟨vs, hs1, hs2⟩ := hh
      obtain ⟨Bk, ck, us, hvk, hu1, hu2⟩ := (hs2 v _ hk).open_
      have hk15 := hok.2 _ (List.mem_of_getElem? hk)
      have hkl := (hand[v]).length_args
      have hhv := Lib.hid (show ∀ W, w.grownBy W none → HandV W Al A hand from fun W hW => HandV.grown0 ⟨vs, hs1, hs2⟩ hW)
      have hvI : ¬ (hand.length : Int) ≤ (v : Int) := by omega
      have hvI2 : (v : Int) < (hand.length : Int) := by omega
      have hvI0 : (0 : Int) ≤ (v : Int) := by omega
      have hvd : decide (hand.length ≤ v) = false := decide_eq_false (by omega)
      have hvN : ¬ hand.length ≤ v := by omega
      have hj0d : decide ((j0 : Int) < 0) = false := decide_eq_false (by omega)
      obtain ⟨gh, oh, rfl, _, hch⟩ := hs1 (by omega)
      have hcv := hch v hv
      rw [hvk] at hcv
      have hcvd := Lib.hid (fun W (hW : w.grownBy W none) => cell_grown' hcv hW)
      clear hSh hk
      go_enter Tryd.func35, Tryd.ntmps35
      go_wp2_with fail
      refine (hNum.out _).mono ?_
      rintro e w1 ⟨rfl, rfl⟩
      have hg1 := gr_alloc hg0 (.cells #[.string ⟨#[]⟩, .int .i64 (v : Int), .slice none 0 0, .slice none 0 0] 36)
      have hcv1 := hcvd.out _ hg1
      have hbO := Blk.new (w.alloc (.cells #[.string ⟨#[]⟩, .int .i64 0, .slice none 0 0, .slice none 0 0] 36)) 36 #[.string ⟨#[]⟩, .int .i64 (v : Int), .slice none 0 0, .slice none 0 0]
      rw [World.size_alloc] at hbO
      have hbR1 := hbR.alloc (.cells #[.string ⟨#[]⟩, .int .i64 (v : Int), .slice none 0 0, .slice none 0 0] 36)
      have hR0 := Lib.hid (show Rows2 ((w.alloc (.cells #[.string ⟨#[]⟩, .int .i64 0, .slice none 0 0, .slice none 0 0] 36)).alloc (.cells #[.string ⟨#[]⟩, .int .i64 (v : Int), .slice none 0 0, .slice none 0 0] 36)) (w.heap.size + 1) (.slice none 0 0) (.slice none 0 0) [] [] from
        ⟨⟨rfl, .inl ⟨rfl, rfl⟩⟩, ⟨rfl, .inl ⟨rfl, rfl⟩⟩, (fun g h => by cases h), (fun d hd => by cases hd)⟩)
      have hbOh := Lib.hid hbO
      have hbRh := Lib.hid hbR1
      have hu1h := Lib.hid (fun W (hW : w.grownBy W none) => hu1.grown0 hW)
      have hu2h := Lib.hid (fun W (hW : w.grownBy W none) i u h => (hu2 i u h).grown0 hW)
      have hg1h := Lib.hid hg1
      go_wp2_with fail
      clear hcv1 hcv hch hs1 hs2 hu1 hu2 hvk hbO hbR1 hbR hvI hvI2 hvI0 hb1 hb2 hb3 hb4 hg0 hg1
      generalize hand[v] = k at *
      go_loopw [11, 14] (fun ev kv wr => ∃ (kk j : Nat) (acc : Bo) (KA YB : Option Addr) (kc yc : Nat) (K Y : List ND), kk ≤ k.args.length + 2 ∧ j ≤ l.length ∧ i < j ∧ ev = .int .i64 (j : Int) ∧ kv = .int .i64 (kk : Int) ∧ acc.isLi = true ∧ acc.np = kk ∧ acc.level = v ∧
        RowKit.Hid (Blk wr (w.heap.size + 1) 36 #[.string ⟨#[]⟩, .int .i64 (v : Int), .slice KA K.length kc, .slice YB Y.length yc]) ∧ RowKit.Hid (Rows2 wr (w.heap.size + 1) (.slice KA K.length kc) (.slice YB Y.length yc) K Y) ∧ RowKit.Hid ((K ++ Y).map ND.x = acc.parts) ∧ RowKit.Hid (K.length = min kk k.args.length) ∧
        RowKit.Hid (Blk wr w.heap.size 36 #[.string ⟨#[]⟩, .int .i64 0, .slice none 0 0, .slice none 0 0]) ∧ w.grownBy wr none ∧ RowKit.Hid (sbody (f + 1) hand (l.drop i) = bloop (sbody f) hand k.args (k.args.length + 2 - kk) acc (l.drop j))) (fun _ kv _ => k.args.length + 3 - (intOf kv).toNat)
      case atStart => exact ⟨0, j0, .hd v, none, none, 0, 0, [], [], Nat.zero_le _, hj0l, hij0, rfl, rfl, rfl, rfl, rfl, hbOh, hR0, Lib.hid rfl, Lib.hid (by simp), hbRh, hg1h.out, hSh2⟩
      case round =>
        obtain ⟨wi, hwi⟩ : ∃ wo, wo = wr := ⟨_, rfl⟩
        subst hwi
        obtain ⟨kk, j, acc, KA, YB, kc, yc, K, Y, hkk, hj, hij, rfl, rfl, hli, hnp, hlv, hbB, hRR, hmp, hKl, hbZ, hgr, hP⟩ := hrel
        have r0 := hbZ.out.cell 0
        have r1 := hbZ.out.cell 1
        have r2 := hbZ.out.cell 2
        have r3 := hbZ.out.cell 3
        have rf0 := hbZ.out.free 0
        have rf1 := hbZ.out.free 1
        have rf2 := hbZ.out.free 2
        have rf3 := hbZ.out.free 3
        have rlt := hbZ.out.lt
        simp only [List.getElem?_toArray, List.getElem?_cons_zero, List.getElem?_cons_succ] at r0 r1 r2 r3
        by_cases hlast : kk < k.args.length + 2
        · have hkI : (kk : Int) < (k.args.length : Int) + 2 := by omega
          obtain ⟨m, hm⟩ : ∃ m, k.args.length + 2 - kk = m + 1 := ⟨k.args.length + 1 - kk, by omega⟩
          have hP1 := Lib.hid (show sbody (f + 1) hand (l.drop i) = if pre [32] (l.drop j) then (match sbody f (Bo.handAt hand k.args kk) (cut [32] (l.drop j)) with | some (x, r) => bloop (sbody f) hand k.args m (.sn acc x) r | none => none) else none by
            rw [hP.out, hm]
            conv => lhs; unfold bloop
            rw [hnp]
            rfl)
          by_cases hjl : j < l.length
          · have hjl' : j < (⟨l.toArray⟩ : ByteArray).size := by simpa [ByteArray.size] using hjl
            have hjI : ¬ (l.length : Int) ≤ (j : Int) := by omega
            have hq := byte_ne l j hjl hjl' 32 32 rfl
            cases h32 : pre [32] (l.drop j) with
            | false =>
              rw [h32] at hq
              have hNo := Lib.hid (show sbody (f + 1) hand (l.drop i) = none by rw [hP1.out, h32]; rfl)
              clear h32
              have hbF := Blk.set (Blk.set (Blk.set (Blk.set hbZ.out 0 (.string ⟨#[]⟩)) 1 (.int .i64 0)) 2 (.slice none 0 0)) 3 (.slice none 0 0)
              have z0 := hbF.cell 0
              have z1 := hbF.cell 1
              have z2 := hbF.cell 2
              have z3 := hbF.cell 3
              simp only [List.setIfInBounds_toArray, List.set_cons_zero, List.set_cons_succ, List.getElem?_toArray, List.getElem?_cons_zero, List.getElem?_cons_succ] at z0 z1 z2 z3
              have hgF := gr_set (gr_set (gr_set (gr_set hgr (p := ⟨w.heap.size, 0, none⟩) (.inr (Nat.le_refl _)) (.string ⟨#[]⟩)) (p := ⟨w.heap.size, 1, none⟩) (.inr (Nat.le_refl _)) (.int .i64 0)) (p := ⟨w.heap.size, 2, none⟩) (.inr (Nat.le_refl _)) (.slice none 0 0)) (p := ⟨w.heap.size, 3, none⟩) (.inr (Nat.le_refl _)) (.slice none 0 0)
              clear hbF
              go_wp2_with fail
              exact bodyPost_ret (v := noneV) (by simp [results, Tryd.results35, go_sem, noneV, z0, z1, z2, z3]) rfl (BPost.no hNo.out hgF)
            | true =>
              rw [h32] at hq
              have hP2 := hP1.out
              rw [h32, cut_drop h32, show j + ([32] : List UInt8).length = j + 1 from rfl] at hP2
              simp only [if_true] at hP2
              have hP2h := Lib.hid hP2
              clear h32 hP2
              by_cases hka : kk < k.args.length
              · have hkaI : (kk : Int) < (k.args.length : Int) := by omega
                have hKkh := Lib.hid (show K.length = kk by rw [hKl.out]; omega)
                obtain ⟨gb, ob, rfl, _, hcb⟩ := hu1h.out _ hgr (by omega)
                have hkk2 : k.args[kk]? = some k.args[kk] := List.getElem?_eq_getElem hka
                have htk := hu2h.out _ hgr kk _ hkk2
                obtain ⟨Bt, ct, ut, hukk, _, _⟩ := htk.open_
                have hca := hcb kk hka
                rw [hukk] at hca htk
                have hl3 := (k.args[kk]).length_args
                have hl4 := args_atoms (List.getElem_mem hka)
                have hcah := Lib.hid hca
                clear hcb hca
                have hsl := Lib.hid (l3Hand_any hand k.args[kk] _ Bt ca ct Al wi (fun b hb => trivial) (hhv.out _ hgr) htk (by have := hok.1; omega) (by omega))
                have hat := Lib.hid (show Bo.handAt hand k.args kk = hand ++ (k.args[kk]).args by unfold Bo.handAt; rw [hkk2])
                have hok2 := Lib.hid (show HandOk (hand ++ (k.args[kk]).args) (N + 15) by rw [← hat.out, ← hag]; exact hok.at_ v kk)
                have hca := hcah.out
                clear hukk htk hkk2 hl3 hl4
                go_wp2_with fail
                refine (hsl.out).mono ?_
                rintro e w2 ⟨A2, c2, rfl, hh2, hg2⟩
                clear hsl
                generalize hand ++ (k.args[kk]).args = H at *
                have hcl := Lib.hid (ih l (j + 1) (d + 1) _ A2 c2 (N + 15) w2 hl (by omega) hdh.out hf101.out hh2 hok2.out (by omega))
                rw [show ((j + 1 : Nat) : Int) = (j : Int) + 1 by omega] at hcl
                have hg2h := Lib.hid hg2
                clear hh2 hca hg2
                go_wp2_with fail
                refine hcl.out.mono ?_
                rintro e w3 ⟨hg3, hm⟩
                have hgi3 := gr_trans hg2h.out hg3
                have hgi3w := Lib.hid hg2h.out.size
                clear hcl hok2 hg3
                have hgr3 := gr_trans hgr hgi3
                have hj0c := hj0i
                cases hr : sbody f H (l.drop (j + 1)) with
                | none =>
                  rw [hr] at hm
                  subst hm
                  have hNo := Lib.hid (show sbody (f + 1) hand (l.drop i) = none by rw [hP2h.out, hat.out, hr])
                  have hbZ3 := (Blk.grown0 hbZ.out hgi3)
                  have hbF := (Blk.set (Blk.set (Blk.set (Blk.set hbZ3 0 (.string ⟨#[]⟩)) 1 (.int .i64 0)) 2 (.slice none 0 0)) 3 (.slice none 0 0)).alloc (.cells #[.string ⟨#[]⟩, .int .i64 0, .slice none 0 0, .slice none 0 0] 36)
                  have z0 := hbF.cell 0
                  have z1 := hbF.cell 1
                  have z2 := hbF.cell 2
                  have z3 := hbF.cell 3
                  simp only [List.setIfInBounds_toArray, List.set_cons_zero, List.set_cons_succ, List.getElem?_toArray, List.getElem?_cons_zero, List.getElem?_cons_succ] at z0 z1 z2 z3
                  have q0 := hbZ3.cell 0
                  have q1 := hbZ3.cell 1
                  have q2 := hbZ3.cell 2
                  have q3 := hbZ3.cell 3
                  have qf0 := hbZ3.free 0
                  have qf1 := hbZ3.free 1
                  have qf2 := hbZ3.free 2
                  have qf3 := hbZ3.free 3
                  have qlt := hbZ3.lt
                  simp only [List.getElem?_toArray, List.getElem?_cons_zero, List.getElem?_cons_succ] at q0 q1 q2 q3
                  have hgF := gr_alloc (gr_set (gr_set (gr_set (gr_set hgr3 (p := ⟨w.heap.size, 0, none⟩) (.inr (Nat.le_refl _)) (.string ⟨#[]⟩)) (p := ⟨w.heap.size, 1, none⟩) (.inr (Nat.le_refl _)) (.int .i64 0)) (p := ⟨w.heap.size, 2, none⟩) (.inr (Nat.le_refl _)) (.slice none 0 0)) (p := ⟨w.heap.size, 3, none⟩) (.inr (Nat.le_refl _)) (.slice none 0 0)) (.cells #[.string ⟨#[]⟩, .int .i64 0, .slice none 0 0, .slice none 0 0] 36)
                  clear hbF hbZ3 hr hat hgi3 hgr3 r0 r1 r2 r3 rf0 rf1 rf2 rf3 rlt
                  unfold noneV
                  go_wp2_with fail
                  exact bodyPost_ret (v := noneV) (by simp [results, Tryd.results35, go_sem, noneV, z0, z1, z2, z3]) rfl (BPost.no hNo.out hgF)
                | some br =>
                  obtain ⟨x, rx⟩ := br
                  rw [hr] at hm
                  obtain ⟨A3, c3, B3, d3, j2, hj2, hjj2, rfl, rfl, hx⟩ := hm
                  have hP3 := Lib.hid (show sbody (f + 1) hand (l.drop i) = bloop (sbody f) hand k.args m (acc.sn x) (l.drop j2) by rw [hP2h.out, hat.out, hr])
                  have hj2I : ¬ ((j2 : Int) < 0) := by omega
                  have hgP := gr_alloc (World.grownBy_alloc w3 (.cells #[.string ⟨x.atm.toArray⟩, .int .i64 (x.level : Int), .slice A3 x.kn c3, .slice B3 x.yn d3] 36) none) (.cells #[.string ⟨x.atm.toArray⟩, .int .i64 (x.level : Int), .slice A3 x.kn c3, .slice B3 x.yn d3] 36)
                  have hbX := Blk.new (w3.alloc (.cells #[.string ⟨x.atm.toArray⟩, .int .i64 (x.level : Int), .slice A3 x.kn c3, .slice B3 x.yn d3] 36)) 36 #[.string ⟨x.atm.toArray⟩, .int .i64 (x.level : Int), .slice A3 x.kn c3, .slice B3 x.yn d3]
                  rw [World.size_alloc] at hbX
                  have hgX := gr_trans hgi3 hgP
                  have hownX := ownN_keep hRR.out.k hgX (by simp)
                  have hgXh := Lib.hid hgX
                  have hxh := Lib.hid ((hx.fr hgi3w.out).grown0 hgP)
                  have hb3 := Blk.grown0 hbB.out hgi3
                  have b0 := hb3.cell 0
                  have b1 := hb3.cell 1
                  have b2 := hb3.cell 2
                  have b3 := hb3.cell 3
                  have bf2 := hb3.free 2
                  have blt := hb3.lt
                  simp only [List.getElem?_toArray, List.getElem?_cons_zero, List.getElem?_cons_succ] at b0 b1 b2 b3
                  have hbBlt : w.heap.size + 1 < wi.heap.size := hbB.out.lt
                  have hRl : K.length ≤ 1000 := by
                    have e := congrArg List.length hmp.out
                    rw [List.length_map, List.length_append, Bo.np_parts] at e
                    omega
                  have hszX := hgX.size
                  have hbXh := Lib.hid hbX
                  have hownXh := Lib.hid hownX
                  have hb3X := Lib.hid (Blk.grown0 hbB.out hgX)
                  have hZ3X := Lib.hid (Blk.grown0 hbZ.out hgX)
                  have hgrX := Lib.hid (gr_trans hgr hgX)
                  clear hbX hownX hgX hgP hx hr hat hgr3 hgi3 hgi3w hb3 r0 r1 r2 r3 rf0 rf1 rf2 rf3 rlt hgr
                  unfold nodeV
                  go_wp2_with (at_builtin; refine RowKit.Hid.out ?_)
                  refine Lib.hid ?_
                  refine wpList_app4 rfl _ _ 34 rfl (w.heap.size + 1 + 1) 36 (.agg #[.string ⟨#[]⟩, .int .i64 0, .slice none 0 0, .slice none 0 0]) 72 Tryd.underlying34 info_node rfl _ _ _ _ rfl hownXh.out _ _ _ _ _ rfl hbXh.out rfl rfl rfl rfl (by unfold maxLen; omega) (by omega) (Nat.le_trans (by omega : w.heap.size + 1 + 1 ≤ wi.heap.size) hszX) ?_
                  intro A' cap' w4 hown4 hg4 hat4
                  have hge : ∀ g, (Value.slice KA K.length kc).ownBlock = some g → w.heap.size + 1 + 1 ≤ g := fun g hg => (ownN_lt hownXh.out hg).1
                  have hb4 := hb3X.out.grown hg4 (fun e => by have := hge _ e.symm; omega)
                  have hZ4 := hZ3X.out.grown hg4 (fun e => by have := hge _ e.symm; omega)
                  have f4 := hb4.free 2
                  have lt4 := hb4.lt
                  have c40 := hb4.cell 0
                  have c41 := hb4.cell 1
                  have c42 := hb4.cell 2
                  have c43 := hb4.cell 3
                  simp only [List.getElem?_toArray, List.getElem?_cons_zero, List.getElem?_cons_succ] at c40 c41 c42 c43
                  have hgr4 : w.grownBy w4 none := ⟨hg4.os.trans hgrX.out.os, hg4.tape.trans hgrX.out.tape, hg4.output.trans hgrX.out.output, Nat.le_trans hgrX.out.size hg4.size, fun b hb _ => (hg4.block b (Nat.lt_of_lt_of_le hb hgrX.out.size) (fun e => by have := hge b e.symm; omega)).trans (hgrX.out.block b hb (by simp))⟩
                  have hgF := gr_set hgr4 (p := ⟨w.heap.size + 1, 2, none⟩) (.inr (by show w.heap.size ≤ w.heap.size + 1; omega)) (.slice A' (K.length + 1) cap')
                  have hst := Lib.hid ((Rows2.step (i := 2) (st := .slice A' (K.length + 1) cap') rfl hRR.out hgXh.out hbBlt hxh.out hown4 hg4 hat4))
                  have hZs := Lib.hid (Blk.other hZ4 (p := ⟨w.heap.size + 1, 2, none⟩) (by show w.heap.size ≠ w.heap.size + 1; omega) (.slice A' (K.length + 1) cap'))
                  have hb5 := Lib.hid (show Blk (w4.setCell ⟨w.heap.size + 1, 2, none⟩ (.slice A' (K.length + 1) cap')) (w.heap.size + 1) 36 #[.string ⟨#[]⟩, .int .i64 (v : Int), .slice A' (K ++ [(⟨x, A3, c3, B3, d3⟩ : ND)]).length cap', .slice YB Y.length yc] by
                    have := Blk.set hb4 2 (.slice A' (K.length + 1) cap')
                    simpa using this)
                  have hgFh := Lib.hid hgF
                  clear hown4 hg4 hat4 hb4 hZ4 hgr4 hgF hge b0 b1 b2 b3 bf2 blt hszX
                  go_wp2_with fail
                  go_roundw
                  case rel =>
                    refine ⟨kk + 1, j2, acc.sn x, A', YB, cap', yc, (K ++ [⟨x, A3, c3, B3, d3⟩]), Y, by omega, hj2, by omega, rfl, rfl, rfl, by simp [Bo.np, hnp], by simp [Bo.level, hlv], hb5, ?_, ?_, ?_, hZs, hgFh.out, ?_⟩
                    · exact Lib.hid (by have := hst.out; simpa using this)
                    · exact Lib.hid (by
                        have e := hmp.out
                        have eY : Y = [] := List.eq_nil_of_length_eq_zero (by have e2 := congrArg List.length e; rw [List.length_map, List.length_append, Bo.np_parts, hKkh.out] at e2; omega)
                        subst eY
                        simp only [Bo.parts, ← e]
                        simp)
                    · exact Lib.hid (by have := hKl.out; simp; omega)
                    · exact Lib.hid (by rw [hP3.out, show k.args.length + 2 - (kk + 1) = m by omega])
                  case measure => simp [intOf]; omega
              · have hkaI : ¬ (kk : Int) < (k.args.length : Int) := by omega
                obtain ⟨H, hH⟩ : ∃ H, H = hand := ⟨_, rfl⟩
                have hat := Lib.hid (show Bo.handAt hand k.args kk = H by unfold Bo.handAt; rw [List.getElem?_eq_none (by omega), hH])
                have hok2 : HandOk hand (N + 15) := ⟨by have := hok.1; omega, hok.2⟩
                have hcl := Lib.hid (ih l (j + 1) (d + 1) hand _ ca (N + 15) wi hl (by omega) hdh.out hf101.out (hhv.out _ hgr) hok2 (by omega))
                rw [show ((j + 1 : Nat) : Int) = (j : Int) + 1 by omega] at hcl
                clear hok2
                go_wp2_with fail
                refine hcl.out.mono ?_
                rintro e w3 ⟨hgi3, hm⟩
                rw [← hH] at hm
                have hgi3w := Lib.hid (Nat.le_refl wi.heap.size)
                clear hcl hH
                have hgr3 := gr_trans hgr hgi3
                have hj0c := hj0i
                cases hr : sbody f H (l.drop (j + 1)) with
                | none =>
                  rw [hr] at hm
                  subst hm
                  have hNo := Lib.hid (show sbody (f + 1) hand (l.drop i) = none by rw [hP2h.out, hat.out, hr])
                  have hbZ3 := (Blk.grown0 hbZ.out hgi3)
                  have hbF := (Blk.set (Blk.set (Blk.set (Blk.set hbZ3 0 (.string ⟨#[]⟩)) 1 (.int .i64 0)) 2 (.slice none 0 0)) 3 (.slice none 0 0)).alloc (.cells #[.string ⟨#[]⟩, .int .i64 0, .slice none 0 0, .slice none 0 0] 36)
                  have z0 := hbF.cell 0
                  have z1 := hbF.cell 1
                  have z2 := hbF.cell 2
                  have z3 := hbF.cell 3
                  simp only [List.setIfInBounds_toArray, List.set_cons_zero, List.set_cons_succ, List.getElem?_toArray, List.getElem?_cons_zero, List.getElem?_cons_succ] at z0 z1 z2 z3
                  have q0 := hbZ3.cell 0
                  have q1 := hbZ3.cell 1
                  have q2 := hbZ3.cell 2
                  have q3 := hbZ3.cell 3
                  have qf0 := hbZ3.free 0
                  have qf1 := hbZ3.free 1
                  have qf2 := hbZ3.free 2
                  have qf3 := hbZ3.free 3
                  have qlt := hbZ3.lt
                  simp only [List.getElem?_toArray, List.getElem?_cons_zero, List.getElem?_cons_succ] at q0 q1 q2 q3
                  have hgF := gr_alloc (gr_set (gr_set (gr_set (gr_set hgr3 (p := ⟨w.heap.size, 0, none⟩) (.inr (Nat.le_refl _)) (.string ⟨#[]⟩)) (p := ⟨w.heap.size, 1, none⟩) (.inr (Nat.le_refl _)) (.int .i64 0)) (p := ⟨w.heap.size, 2, none⟩) (.inr (Nat.le_refl _)) (.slice none 0 0)) (p := ⟨w.heap.size, 3, none⟩) (.inr (Nat.le_refl _)) (.slice none 0 0)) (.cells #[.string ⟨#[]⟩, .int .i64 0, .slice none 0 0, .slice none 0 0] 36)
                  clear hbF hbZ3 hr hat hgi3 hgr3 r0 r1 r2 r3 rf0 rf1 rf2 rf3 rlt
                  unfold noneV
                  go_wp2_with fail
                  exact bodyPost_ret (v := noneV) (by simp [results, Tryd.results35, go_sem, noneV, z0, z1, z2, z3]) rfl (BPost.no hNo.out hgF)
                | some br =>
                  obtain ⟨x, rx⟩ := br
                  rw [hr] at hm
                  obtain ⟨A3, c3, B3, d3, j2, hj2, hjj2, rfl, rfl, hx⟩ := hm
                  have hP3 := Lib.hid (show sbody (f + 1) hand (l.drop i) = bloop (sbody f) hand k.args m (acc.sn x) (l.drop j2) by rw [hP2h.out, hat.out, hr])
                  have hj2I : ¬ ((j2 : Int) < 0) := by omega
                  have hgP := gr_alloc (World.grownBy_alloc w3 (.cells #[.string ⟨x.atm.toArray⟩, .int .i64 (x.level : Int), .slice A3 x.kn c3, .slice B3 x.yn d3] 36) none) (.cells #[.string ⟨x.atm.toArray⟩, .int .i64 (x.level : Int), .slice A3 x.kn c3, .slice B3 x.yn d3] 36)
                  have hbX := Blk.new (w3.alloc (.cells #[.string ⟨x.atm.toArray⟩, .int .i64 (x.level : Int), .slice A3 x.kn c3, .slice B3 x.yn d3] 36)) 36 #[.string ⟨x.atm.toArray⟩, .int .i64 (x.level : Int), .slice A3 x.kn c3, .slice B3 x.yn d3]
                  rw [World.size_alloc] at hbX
                  have hgX := gr_trans hgi3 hgP
                  have hownX := ownN_keep hRR.out.swap.k hgX (by simp)
                  have hgXh := Lib.hid hgX
                  have hxh := Lib.hid ((hx.fr hgi3w.out).grown0 hgP)
                  have hb3 := Blk.grown0 hbB.out hgi3
                  have b0 := hb3.cell 0
                  have b1 := hb3.cell 1
                  have b2 := hb3.cell 2
                  have b3 := hb3.cell 3
                  have bf2 := hb3.free 3
                  have blt := hb3.lt
                  simp only [List.getElem?_toArray, List.getElem?_cons_zero, List.getElem?_cons_succ] at b0 b1 b2 b3
                  have hbBlt : w.heap.size + 1 < wi.heap.size := hbB.out.lt
                  have hRl : Y.length ≤ 1000 := by
                    have e := congrArg List.length hmp.out
                    rw [List.length_map, List.length_append, Bo.np_parts] at e
                    omega
                  have hszX := hgX.size
                  have hbXh := Lib.hid hbX
                  have hownXh := Lib.hid hownX
                  have hb3X := Lib.hid (Blk.grown0 hbB.out hgX)
                  have hZ3X := Lib.hid (Blk.grown0 hbZ.out hgX)
                  have hgrX := Lib.hid (gr_trans hgr hgX)
                  clear hbX hownX hgX hgP hx hr hat hgr3 hgi3 hgi3w hb3 r0 r1 r2 r3 rf0 rf1 rf2 rf3 rlt hgr
                  unfold nodeV
                  go_wp2_with (at_builtin; refine RowKit.Hid.out ?_)
                  refine Lib.hid ?_
                  refine wpList_app4 rfl _ _ 34 rfl (w.heap.size + 1 + 1) 36 (.agg #[.string ⟨#[]⟩, .int .i64 0, .slice none 0 0, .slice none 0 0]) 72 Tryd.underlying34 info_node rfl _ _ _ _ rfl hownXh.out _ _ _ _ _ rfl hbXh.out rfl rfl rfl rfl (by unfold maxLen; omega) (by omega) (Nat.le_trans (by omega : w.heap.size + 1 + 1 ≤ wi.heap.size) hszX) ?_
                  intro A' cap' w4 hown4 hg4 hat4
                  have hge : ∀ g, (Value.slice YB Y.length yc).ownBlock = some g → w.heap.size + 1 + 1 ≤ g := fun g hg => (ownN_lt hownXh.out hg).1
                  have hb4 := hb3X.out.grown hg4 (fun e => by have := hge _ e.symm; omega)
                  have hZ4 := hZ3X.out.grown hg4 (fun e => by have := hge _ e.symm; omega)
                  have f4 := hb4.free 3
                  have lt4 := hb4.lt
                  have c40 := hb4.cell 0
                  have c41 := hb4.cell 1
                  have c42 := hb4.cell 2
                  have c43 := hb4.cell 3
                  simp only [List.getElem?_toArray, List.getElem?_cons_zero, List.getElem?_cons_succ] at c40 c41 c42 c43
                  have hgr4 : w.grownBy w4 none := ⟨hg4.os.trans hgrX.out.os, hg4.tape.trans hgrX.out.tape, hg4.output.trans hgrX.out.output, Nat.le_trans hgrX.out.size hg4.size, fun b hb _ => (hg4.block b (Nat.lt_of_lt_of_le hb hgrX.out.size) (fun e => by have := hge b e.symm; omega)).trans (hgrX.out.block b hb (by simp))⟩
                  have hgF := gr_set hgr4 (p := ⟨w.heap.size + 1, 3, none⟩) (.inr (by show w.heap.size ≤ w.heap.size + 1; omega)) (.slice A' (Y.length + 1) cap')
                  have hst := Lib.hid ((Rows2.step (i := 3) (st := .slice A' (Y.length + 1) cap') rfl hRR.out.swap hgXh.out hbBlt hxh.out hown4 hg4 hat4).swap)
                  have hZs := Lib.hid (Blk.other hZ4 (p := ⟨w.heap.size + 1, 3, none⟩) (by show w.heap.size ≠ w.heap.size + 1; omega) (.slice A' (Y.length + 1) cap'))
                  have hb5 := Lib.hid (show Blk (w4.setCell ⟨w.heap.size + 1, 3, none⟩ (.slice A' (Y.length + 1) cap')) (w.heap.size + 1) 36 #[.string ⟨#[]⟩, .int .i64 (v : Int), .slice KA K.length kc, .slice A' (Y ++ [(⟨x, A3, c3, B3, d3⟩ : ND)]).length cap'] by
                    have := Blk.set hb4 3 (.slice A' (Y.length + 1) cap')
                    simpa using this)
                  have hgFh := Lib.hid hgF
                  clear hown4 hg4 hat4 hb4 hZ4 hgr4 hgF hge b0 b1 b2 b3 bf2 blt hszX
                  go_wp2_with fail
                  go_roundw
                  case rel =>
                    refine ⟨kk + 1, j2, acc.sn x, KA, A', kc, cap', K, (Y ++ [⟨x, A3, c3, B3, d3⟩]), by omega, hj2, by omega, rfl, rfl, rfl, by simp [Bo.np, hnp], by simp [Bo.level, hlv], hb5, ?_, ?_, ?_, hZs, hgFh.out, ?_⟩
                    · exact Lib.hid (by have := hst.out; simpa using this)
                    · exact Lib.hid (by
                        have e := hmp.out
                        skip
                        skip
                        simp only [Bo.parts, ← e]
                        simp)
                    · exact Lib.hid (by have := hKl.out; omega)
                    · exact Lib.hid (by rw [hP3.out, show k.args.length + 2 - (kk + 1) = m by omega])
                  case measure => simp [intOf]; omega
          · have hjI : (l.length : Int) ≤ (j : Int) := by omega
            have hNo := Lib.hid (show sbody (f + 1) hand (l.drop i) = none by rw [hP1.out, List.drop_eq_nil_of_le (by omega)]; rfl)
            have hbF := Blk.set (Blk.set (Blk.set (Blk.set hbZ.out 0 (.string ⟨#[]⟩)) 1 (.int .i64 0)) 2 (.slice none 0 0)) 3 (.slice none 0 0)
            have z0 := hbF.cell 0
            have z1 := hbF.cell 1
            have z2 := hbF.cell 2
            have z3 := hbF.cell 3
            simp only [List.setIfInBounds_toArray, List.set_cons_zero, List.set_cons_succ, List.getElem?_toArray, List.getElem?_cons_zero, List.getElem?_cons_succ] at z0 z1 z2 z3
            have hgF := gr_set (gr_set (gr_set (gr_set hgr (p := ⟨w.heap.size, 0, none⟩) (.inr (Nat.le_refl _)) (.string ⟨#[]⟩)) (p := ⟨w.heap.size, 1, none⟩) (.inr (Nat.le_refl _)) (.int .i64 0)) (p := ⟨w.heap.size, 2, none⟩) (.inr (Nat.le_refl _)) (.slice none 0 0)) (p := ⟨w.heap.size, 3, none⟩) (.inr (Nat.le_refl _)) (.slice none 0 0)
            clear hbF
            go_wp2_with fail
            exact bodyPost_ret (v := noneV) (by simp [results, Tryd.results35, go_sem, noneV, z0, z1, z2, z3]) rfl (BPost.no hNo.out hgF)
        · obtain rfl : kk = k.args.length + 2 := by omega
          have hkI : ¬ ((k.args.length + 2 : Nat) : Int) < (k.args.length : Int) + 2 := by omega
          have hP1 := Lib.hid (show sbody (f + 1) hand (l.drop i) = if pre [41] (l.drop j) then some (acc, cut [41] (l.drop j)) else none by
            rw [hP.out, Nat.sub_self]
            conv => lhs; unfold bloop)
          by_cases hjl : j < l.length
          · have hjl' : j < (⟨l.toArray⟩ : ByteArray).size := by simpa [ByteArray.size] using hjl
            have hjI : ¬ (l.length : Int) ≤ (j : Int) := by omega
            have hq := byte_ne l j hjl hjl' 41 41 rfl
            cases h41 : pre [41] (l.drop j) with
            | false =>
              rw [h41] at hq
              have hNo := Lib.hid (show sbody (f + 1) hand (l.drop i) = none by rw [hP1.out, h41]; rfl)
              clear h41
              have hbF := Blk.set (Blk.set (Blk.set (Blk.set hbZ.out 0 (.string ⟨#[]⟩)) 1 (.int .i64 0)) 2 (.slice none 0 0)) 3 (.slice none 0 0)
              have z0 := hbF.cell 0
              have z1 := hbF.cell 1
              have z2 := hbF.cell 2
              have z3 := hbF.cell 3
              simp only [List.setIfInBounds_toArray, List.set_cons_zero, List.set_cons_succ, List.getElem?_toArray, List.getElem?_cons_zero, List.getElem?_cons_succ] at z0 z1 z2 z3
              have hgF := gr_set (gr_set (gr_set (gr_set hgr (p := ⟨w.heap.size, 0, none⟩) (.inr (Nat.le_refl _)) (.string ⟨#[]⟩)) (p := ⟨w.heap.size, 1, none⟩) (.inr (Nat.le_refl _)) (.int .i64 0)) (p := ⟨w.heap.size, 2, none⟩) (.inr (Nat.le_refl _)) (.slice none 0 0)) (p := ⟨w.heap.size, 3, none⟩) (.inr (Nat.le_refl _)) (.slice none 0 0)
              clear hbF
              go_wp2_with fail
              exact bodyPost_ret (v := noneV) (by simp [results, Tryd.results35, go_sem, noneV, z0, z1, z2, z3]) rfl (BPost.no hNo.out hgF)
            | true =>
              rw [h41] at hq
              have hP2 := hP1.out
              rw [h41, cut_drop h41, show j + ([41] : List UInt8).length = j + 1 from rfl] at hP2
              simp only [if_true] at hP2
              have hP2h := Lib.hid hP2
              have hkn : acc.kn = k.args.length := by unfold Bo.kn; rw [hnp]; omega
              have hKn : K.length = acc.kn := by rw [hKl.out, hkn]; omega
              have hYn : Y.length = acc.yn := by
                have e := congrArg List.length hmp.out
                rw [List.length_map, List.length_append, Bo.np_parts] at e
                unfold Bo.yn; omega
              have hat : acc.atm = [] := by cases acc <;> first | rfl | (cases hli)
              have hN0 := (hRR.out.node hmp.out hKn (Nat.le_refl _))
              have hKnh := Lib.hid hKn
              have hYnh := Lib.hid hYn
              clear h41 hP2 hKn hYn hkn
              have b0 := hbB.out.cell 0
              have b1 := hbB.out.cell 1
              have b2 := hbB.out.cell 2
              have b3 := hbB.out.cell 3
              have blt := hbB.out.lt
              simp only [List.getElem?_toArray, List.getElem?_cons_zero, List.getElem?_cons_succ] at b0 b1 b2 b3
              have hbF := Blk.set (Blk.set (Blk.set (Blk.set hbZ.out 0 (.string ⟨#[]⟩)) 1 (.int .i64 (v : Int))) 2 (.slice KA K.length kc)) 3 (.slice YB Y.length yc)
              have z0 := hbF.cell 0
              have z1 := hbF.cell 1
              have z2 := hbF.cell 2
              have z3 := hbF.cell 3
              simp only [List.setIfInBounds_toArray, List.set_cons_zero, List.set_cons_succ, List.getElem?_toArray, List.getElem?_cons_zero, List.getElem?_cons_succ] at z0 z1 z2 z3
              have hgF := gr_set (gr_set (gr_set (gr_set hgr (p := ⟨w.heap.size, 0, none⟩) (.inr (Nat.le_refl _)) (.string ⟨#[]⟩)) (p := ⟨w.heap.size, 1, none⟩) (.inr (Nat.le_refl _)) (.int .i64 (v : Int))) (p := ⟨w.heap.size, 2, none⟩) (.inr (Nat.le_refl _)) (.slice KA K.length kc)) (p := ⟨w.heap.size, 3, none⟩) (.inr (Nat.le_refl _)) (.slice YB Y.length yc)
              have hNF := Lib.hid (show NV _ (Fr w.heap.size) KA kc YB yc acc from NV.fr (hN0.keep (w' := (((wi.setCell ⟨w.heap.size, 0, none⟩ (.string ⟨#[]⟩)).setCell ⟨w.heap.size, 1, none⟩ (.int .i64 (v : Int))).setCell ⟨w.heap.size, 2, none⟩ (.slice KA K.length kc)).setCell ⟨w.heap.size, 3, none⟩ (.slice YB Y.length yc)) fun b hb _ => by
                have hb' : w.heap.size + 1 ≤ b := hb
                rw [heap_setCell_other _ _ _ _ (by show b ≠ w.heap.size; omega), heap_setCell_other _ _ _ _ (by show b ≠ w.heap.size; omega), heap_setCell_other _ _ _ _ (by show b ≠ w.heap.size; omega), heap_setCell_other _ _ _ _ (by show b ≠ w.heap.size; omega)]) (Nat.le_succ _))
              have hfin := Lib.hid (BPost.yes hP2h.out hgF (by omega) (by omega) hNF.out)
              clear hbF hN0
              go_wp2_with fail
              exact bodyPost_ret (v := .tuple #[nodeV acc KA kc YB yc, .int .i64 ((j + 1 : Nat) : Int)]) (by simp [results, Tryd.results35, go_sem, nodeV, z0, z1, z2, z3, hat, hlv, ← hKnh.out, ← hYnh.out]) rfl hfin.out
          · have hjI : (l.length : Int) ≤ (j : Int) := by omega
            have hNo := Lib.hid (show sbody (f + 1) hand (l.drop i) = none by rw [hP1.out, List.drop_eq_nil_of_le (by omega)]; rfl)
            have hbF := Blk.set (Blk.set (Blk.set (Blk.set hbZ.out 0 (.string ⟨#[]⟩)) 1 (.int .i64 0)) 2 (.slice none 0 0)) 3 (.slice none 0 0)
            have z0 := hbF.cell 0
            have z1 := hbF.cell 1
            have z2 := hbF.cell 2
            have z3 := hbF.cell 3
            simp only [List.setIfInBounds_toArray, List.set_cons_zero, List.set_cons_succ, List.getElem?_toArray, List.getElem?_cons_zero, List.getElem?_cons_succ] at z0 z1 z2 z3
            have hgF := gr_set (gr_set (gr_set (gr_set hgr (p := ⟨w.heap.size, 0, none⟩) (.inr (Nat.le_refl _)) (.string ⟨#[]⟩)) (p := ⟨w.heap.size, 1, none⟩) (.inr (Nat.le_refl _)) (.int .i64 0)) (p := ⟨w.heap.size, 2, none⟩) (.inr (Nat.le_refl _)) (.slice none 0 0)) (p := ⟨w.heap.size, 3, none⟩) (.inr (Nat.le_refl _)) (.slice none 0 0)
            clear hbF
            go_wp2_with fail
            exact bodyPost_ret (v := noneV) (by simp [results, Tryd.results35, go_sem, noneV, z0, z1, z2, z3]) rfl (BPost.no hNo.out hgF)
    · have hk : hand[v]? = none := List.getElem?_eq_none (by omega)
      have hNo := Lib.hid (show sbody (f + 1) hand (l.drop i) = none by rw [hSh.out]; simp only [hk])
      have hvI : (hand.length : Int) ≤ (v : Int) := by omega
      clear hSh hk hbR
      go_enter Tryd.func35, Tryd.ntmps35
      go_wp2_with fail
      refine (hNum.out _).mono ?_
      rintro e w1 ⟨rfl, rfl⟩
      go_wp2_with fail
      exact bodyPost_ret (v := noneV) (by simp [results, Tryd.results35, go_sem, noneV]) rfl (BPost.no hNo.out hg0)
end Go.Proofs.YtlehnlfgjadleaaDoor
