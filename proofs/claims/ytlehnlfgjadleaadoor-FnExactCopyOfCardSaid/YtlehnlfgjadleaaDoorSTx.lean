/- The reference's text of bodies. -/
import Derived.Test.YtlehnlfgjadleaaDoorSBodyA
import Derived.Test.YtlehnlfgjadleaaDoorTidy
import Derived.Test.YtlehnlfgjadleaaDoorSDec
namespace Go.Proofs.YtlehnlfgjadleaaDoor
open Go.RowKit

/-- A list's text so far: a parenthesis, the level, the first k parts. -/
def tx3 (b : Bo) (k : Nat) : List UInt8 := 40 :: (Lib.decDigits b.level ++ ((b.parts.take k).map fun u => 32 :: u.text).flatten)
theorem tx3_next {b : Bo} {k : Nat} {u : Bo} (h : b.parts[k]? = some u) : tx3 b (k + 1) = tx3 b k ++ [32] ++ u.text := by
  unfold tx3
  rw [Ty.take_snoc h]
  simp
theorem body_flat {b : Bo} (ht : b.tidy) (hl : b.isLi = true) : b.body = Lib.decDigits b.level ++ (b.parts.map fun u => 32 :: u.text).flatten := by
  induction b with
  | w c => cases hl
  | hd v => simp [Bo.body, Bo.parts, Bo.level]
  | sn l x ih _ =>
    have e : (Bo.sn l x).body = l.body ++ 32 :: x.text := rfl
    rw [e, ih ht.2.1 ht.1]
    simp [Bo.parts, Bo.level]
theorem text_tx3 {b : Bo} (ht : b.tidy) (hl : b.isLi = true) : b.text = tx3 b b.np ++ [41] := by
  rw [Bo.text_li hl, body_flat ht hl]
  unfold tx3
  rw [List.take_of_length_le (by rw [Bo.np_parts]; exact Nat.le_refl _)]
  simp
/-- Words are not empty; lists have both answers' parts. -/
def Bo.two : Bo → Prop
  | .w c => c ≠ []
  | .hd _ => True
  | .sn l x => l.two ∧ x.two ∧ (x.isLi = true → 2 ≤ x.np)
theorem wf_two (b : Bo) : ∀ hand, b.wf hand → b.two := by
  induction b with
  | w c =>
    intro hand h e
    subst e
    exact absurd h (by show ¬ (isWd [] = true); decide)
  | hd v => intro hand h; trivial
  | sn l x ihl ihx =>
    intro hand h
    obtain ⟨h1, h2, h3, h4, h5⟩ := h
    exact ⟨ihl _ h2, ihx _ h4, fun h => by have := h5 h; omega⟩
theorem two_parts {b : Bo} (h : b.two) : ∀ x ∈ b.parts, x.two ∧ (x.isLi = true → 2 ≤ x.np) := by
  induction b with
  | w c => intro x hx; simp [Bo.parts] at hx
  | hd v => intro x hx; simp [Bo.parts] at hx
  | sn l x ih _ =>
    intro y hy
    simp only [Bo.parts, List.mem_append, List.mem_singleton] at hy
    rcases hy with hy | rfl
    · exact ih h.1 y hy
    · exact h.2
theorem tx3_len {b : Bo} (ht : b.tidy) (hl : b.isLi = true) (k : Nat) : (tx3 b k).length ≤ 9 * b.size := by
  have h1 := (tidy_len ht).2
  rw [text_tx3 ht hl, List.length_append] at h1
  have h2 : (tx3 b k).length ≤ (tx3 b b.np).length := by
    unfold tx3
    rw [List.take_of_length_le (i := b.np) (by rw [Bo.np_parts]; exact Nat.le_refl _)]
    simp only [List.length_cons, List.length_append]
    have h3 : ((List.map (fun u : Bo => 32 :: u.text) (b.parts.take k)).flatten ++ (List.map (fun u : Bo => 32 :: u.text) (b.parts.drop k)).flatten).length = ((List.map (fun u : Bo => 32 :: u.text) b.parts).flatten).length := by
      rw [← List.flatten_append, ← List.map_append, List.take_append_drop]
    rw [List.length_append] at h3
    omega
  omega
theorem ba_sp (a u r : List UInt8) (h : r = a ++ [32] ++ u) : (⟨a.toArray⟩ : ByteArray) ++ ⟨#[32]⟩ ++ ⟨u.toArray⟩ = ⟨r.toArray⟩ := by
  rw [h, show (⟨#[32]⟩ : ByteArray) = ⟨([32] : List UInt8).toArray⟩ from rfl, ba_app, ba_app]
set_option maxRecDepth 100000 in
set_option maxHeartbeats 4000000 in
theorem l3Text_any (m : Nat) : ∀ (b : Bo) (A : Option Addr) (c : Nat) (B : Option Addr) (d : Nat) (F : Nat → Prop) (w : World), b.size ≤ m → b.size ≤ 1000000 → b.tidy → b.two → (b.isLi = true → 2 ≤ b.np) → NV w F A c B d b →
    Calls Tryd.prog 27 #[nodeV b A c B d] w fun e w' => e = .returned (.string ⟨b.text.toArray⟩) ∧ w.grownBy w' none := by
  induction m with
  | zero => intro b A c B d F w h; have := b.size_pos; omega
  | succ m ih =>
    intro b A c B d F w hm hsz ht htw hnp hk
    have ihh := Lib.hid ih
    clear ih
    have hg0 := World.grownBy_alloc w (.cells #[.string ⟨b.atm.toArray⟩, .int .i64 (b.level : Int), .slice A b.kn c, .slice B b.yn d] 36) none
    have hbx := Blk.new w 36 #[.string ⟨b.atm.toArray⟩, .int .i64 (b.level : Int), .slice A b.kn c, .slice B b.yn d]
    cases hli : b.isLi with
    | false =>
      cases b with
      | hd v => cases hli
      | sn l x => cases hli
      | w cc =>
        have hne : cc ≠ [] := htw
        obtain ⟨c0, cr, rfl⟩ : ∃ c0 cr, cc = c0 :: cr := by
          cases cc with
          | nil => exact absurd rfl hne
          | cons a r => exact ⟨a, r, rfl⟩
        unfold nodeV
        have e1 : (Bo.w (c0 :: cr)).atm = c0 :: cr := rfl
        have e2 : (Bo.w (c0 :: cr)).text = c0 :: cr := rfl
        rw [e1, e2]
        rw [e1] at hbx hg0
        go_enter Tryd.func27, Tryd.ntmps27
        go_wp2_with fail
        go_ret
        exact ⟨rfl, hg0⟩
    | true =>
      have hat : b.atm = [] := by cases b <;> first | rfl | cases hli
      have hnp2 := hnp hli
      have hkn : b.kn + 2 = b.np := by unfold Bo.kn; omega
      have hyn : b.yn = 2 := by unfold Bo.yn Bo.kn; omega
      have hlev := Bo.tidy_level ht hli
      have hsp := bsize_parts b
      have hle := bsum_take b.parts
      have hpb : ∀ u ∈ b.parts, u.size + 1 ≤ b.size ∧ u.tidy ∧ u.two ∧ (u.isLi = true → 2 ≤ u.np) := by
        intro u hu
        obtain ⟨i, hi⟩ := List.getElem?_of_mem hu
        have h1 := bsum_next hi
        have h2 := hle (i + 1)
        exact ⟨by omega, Bo.tidy_parts ht u hu, two_parts htw u hu⟩
      have hnpl : b.parts.length ≤ 1000000 := by have := bsum_len b.parts; omega
      have hpbh := Lib.hid hpb
      have hkh := Lib.hid (fun (W : World) (hW : w.grownBy W none) => hk.grown0 hW)
      have hD := Lib.hid (fun W => l6Dec_100 b.level hlev W)
      have htxl := Lib.hid (tx3_len ht hli)
      have htx := Lib.hid (text_tx3 ht hli)
      have hpl : b.parts.length = b.kn + 2 := by rw [Bo.np_parts]; omega
      clear hpb hle hsp hnp htw
      unfold nodeV
      rw [hat, hyn]
      rw [hat, hyn] at hbx hg0
      go_enter Tryd.func27, Tryd.ntmps27
      go_wp2_with fail
      refine (hD.out _).mono ?_
      rintro e w1 ⟨rfl, hg1⟩
      have hdl : (dec b.level).length ≤ 4 := decDigits_len4 (by omega)
      have e0 := Lib.hid (show (⟨#[40]⟩ : ByteArray) ++ ⟨(dec b.level).toArray⟩ = ⟨(tx3 b 0).toArray⟩ by
        rw [show (⟨#[40]⟩ : ByteArray) = ⟨([40] : List UInt8).toArray⟩ from rfl, ba_app]
        unfold tx3 dec
        simp)
      generalize dec b.level = dl at *
      have hb1 := hbx.grown0 hg1
      have y0 := hb1.cell 2
      have y1 := hb1.cell 3
      have yl := hb1.lt
      simp only [List.getElem?_toArray, List.getElem?_cons_zero, List.getElem?_cons_succ] at y0 y1
      have hg01 := gr_trans hg0 hg1
      go_wp2_with fail
      rw [e0.out]
      go_loopw [3, 4] (fun o i wr => ∃ k : Nat, k ≤ b.kn ∧ i = .int .i64 (k : Int) ∧ o = .string ⟨(tx3 b k).toArray⟩ ∧ w1.grownBy wr none) (fun _ i _ => b.kn - (intOf i).toNat)
      case atStart => exact ⟨0, Nat.zero_le _, rfl, rfl, gr_refl _ _⟩
      case round =>
        obtain ⟨wi, hwi⟩ : ∃ wo, wo = wr := ⟨_, rfl⟩
        subst hwi
        obtain ⟨k, hkl, rfl, rfl, hgw⟩ := hrel
        have hbw := hb1.grown0 hgw
        have b2 := hbw.cell 2
        have b3 := hbw.cell 3
        have blt := hbw.lt
        simp only [List.getElem?_toArray, List.getElem?_cons_zero, List.getElem?_cons_succ] at b2 b3
        have hgw0 := gr_trans hg01 hgw
        by_cases hlt : k < b.kn
        · have hlt2 : k < b.parts.length := by omega
          have hkk : b.parts[k]? = some b.parts[k] := List.getElem?_eq_getElem hlt2
          obtain ⟨g, o, A', c', B', d', rfl, ⟨q0, q1, q2, q3⟩, hch⟩ := (hkh.out wi hgw0).kid hlt hkk
          rw [Nat.mul_comm 4 k] at q0 q1 q2 q3
          obtain ⟨hu1, hu2, hu3, hu4⟩ := hpbh.out _ (List.getElem_mem hlt2)
          have hcl := Lib.hid (ihh.out b.parts[k] A' c' B' d' F wi (by omega) (by omega) hu2 hu3 hu4 hch)
          have eS := Lib.hid (ba_sp (tx3 b k) (b.parts[k]).text _ (tx3_next hkk))
          have hl1 := htxl.out k
          have hl2 := (tidy_len hu2).2
          clear hkk hch hu2 hu3 hu4
          generalize b.parts[k] = u at *
          unfold nodeV at hcl
          go_wp2_with fail
          refine hcl.out.mono ?_
          rintro e w' ⟨rfl, hg2⟩
          go_wp2_with fail
          rw [eS.out]
          go_roundw
          case rel => exact ⟨k + 1, by omega, by go_num, rfl, gr_trans hgw hg2⟩
          case measure => simp [intOf]; omega
        · obtain rfl : k = b.kn := by omega
          have h0l : b.kn + 0 < b.parts.length := by omega
          have h1l : b.kn + 1 < b.parts.length := by omega
          have hk0 : b.parts[b.kn + 0]? = some b.parts[b.kn + 0] := List.getElem?_eq_getElem h0l
          have hk1 : b.parts[b.kn + 1]? = some b.parts[b.kn + 1] := List.getElem?_eq_getElem h1l
          obtain ⟨g, o, A0, c0, B0, d0, rfl, ⟨q0, q1, q2, q3⟩, hch0⟩ := (hkh.out wi hgw0).ans hk0
          obtain ⟨g', o', A1, c1, B1, d1, eB, ⟨p0, p1, p2, p3⟩, hch1⟩ := (hkh.out wi hgw0).ans hk1
          cases eB
          simp only [Nat.mul_zero, Nat.mul_one, Nat.add_zero] at q0 q1 q2 q3 p0 p1 p2 p3
          obtain ⟨hu1, hu2, hu3, hu4⟩ := hpbh.out _ (List.getElem_mem h0l)
          obtain ⟨hv1, hv2, hv3, hv4⟩ := hpbh.out _ (List.getElem_mem h1l)
          have hcl := Lib.hid (fun W (hW : wi.grownBy W none) => ihh.out b.parts[b.kn + 0] A0 c0 B0 d0 F W (by omega) (by omega) hu2 hu3 hu4 (hch0.grown0 hW))
          have hcl1 := Lib.hid (fun W (hW : wi.grownBy W none) => ihh.out b.parts[b.kn + 1] A1 c1 B1 d1 F W (by omega) (by omega) hv2 hv3 hv4 (hch1.grown0 hW))
          have hNh := Lib.hid (fun W (hW : wi.grownBy W none) => show W.cell? ⟨w.heap.size, 3, none⟩ = some (.slice (some ⟨g, o, none⟩) 2 d) ∧ (W.cell? ⟨g, o, none⟩ = some (.string ⟨(b.parts[b.kn + 0]).atm.toArray⟩) ∧ W.cell? ⟨g, o + 1, none⟩ = some (.int .i64 ((b.parts[b.kn + 0]).level : Int)) ∧ W.cell? ⟨g, o + 2, none⟩ = some (.slice A0 (b.parts[b.kn + 0]).kn c0) ∧ W.cell? ⟨g, o + 3, none⟩ = some (.slice B0 (b.parts[b.kn + 0]).yn d0)) ∧ W.cell? ⟨g, o + 4, none⟩ = some (.string ⟨(b.parts[b.kn + 1]).atm.toArray⟩) ∧ W.cell? ⟨g, o + 4 + 1, none⟩ = some (.int .i64 ((b.parts[b.kn + 1]).level : Int)) ∧ W.cell? ⟨g, o + 4 + 2, none⟩ = some (.slice A1 (b.parts[b.kn + 1]).kn c1) ∧ W.cell? ⟨g, o + 4 + 3, none⟩ = some (.slice B1 (b.parts[b.kn + 1]).yn d1) from
            have k : ∀ gg j x, wi.cell? ⟨gg, j, none⟩ = some x → W.cell? ⟨gg, j, none⟩ = some x := fun gg j x h => (World.cell?_of_block (w := wi) (a := ⟨gg, j, none⟩) (hW.block gg (World.block_lt_of_cell? wi ⟨gg, j, none⟩ h) (by simp))).trans h
            ⟨k _ _ _ b3, ⟨k _ _ _ q0, k _ _ _ q1, k _ _ _ q2, k _ _ _ q3⟩, k _ _ _ p0, k _ _ _ p1, k _ _ _ p2, k _ _ _ p3⟩)
          have eS := Lib.hid (ba_sp (tx3 b b.kn) (b.parts[b.kn + 0]).text _ (tx3_next hk0))
          have eS1 := Lib.hid (ba_sp (tx3 b (b.kn + 0 + 1)) (b.parts[b.kn + 1]).text _ (tx3_next hk1))
          have eE := Lib.hid (show (⟨(tx3 b (b.kn + 1 + 1)).toArray⟩ : ByteArray) ++ ⟨#[41]⟩ = ⟨b.text.toArray⟩ by
            rw [htx.out, show (⟨#[41]⟩ : ByteArray) = ⟨([41] : List UInt8).toArray⟩ from rfl, ba_app, hkn])
          have hl1 := htxl.out b.kn
          have hl1b := htxl.out (b.kn + 0 + 1)
          have hl1c := htxl.out (b.kn + 1 + 1)
          have hl2 := (tidy_len hu2).2
          have hl3 := (tidy_len hv2).2
          clear hk0 hk1 hch0 hch1 hu2 hu3 hu4 hv2 hv3 hv4 p0 p1 p2 p3 q0 q1 q2 q3
          generalize b.parts[b.kn + 0] = u at *
          generalize b.parts[b.kn + 1] = v at *
          unfold nodeV at hcl hcl1
          have m1 : ¬ 9223372036854775807 < (tx3 b b.kn).length + 1 := by omega
          have m2 : ¬ 9223372036854775807 < (tx3 b b.kn).length + 1 + u.text.length := by omega
          have m3 : ¬ 9223372036854775807 < (tx3 b b.kn).length + 1 + u.text.length + 1 := by omega
          have m4 : ¬ 9223372036854775807 < (tx3 b b.kn).length + 1 + u.text.length + 1 + v.text.length := by omega
          have m5 : ¬ 9223372036854775807 < (tx3 b b.kn).length + 1 + u.text.length + 1 + v.text.length + 1 := by omega
          have hgd := gr_drew (gr_refl wi none)
          obtain ⟨t3, ⟨q0, q1, q2, q3⟩, p0, p1, p2, p3⟩ := hNh.out wi (gr_refl _ _)
          clear t3
          go_wp2_with fail
          go_region_held3 (fun W => W.cell? ⟨w.heap.size, 3, none⟩ = some (.slice (some ⟨g, o, none⟩) 2 d) ∧ (W.cell? ⟨g, o, none⟩ = some (.string ⟨u.atm.toArray⟩) ∧ W.cell? ⟨g, o + 1, none⟩ = some (.int .i64 (u.level : Int)) ∧ W.cell? ⟨g, o + 2, none⟩ = some (.slice A0 u.kn c0) ∧ W.cell? ⟨g, o + 3, none⟩ = some (.slice B0 u.yn d0)) ∧ W.cell? ⟨g, o + 4, none⟩ = some (.string ⟨v.atm.toArray⟩) ∧ W.cell? ⟨g, o + 4 + 1, none⟩ = some (.int .i64 (v.level : Int)) ∧ W.cell? ⟨g, o + 4 + 2, none⟩ = some (.slice A1 v.kn c1) ∧ W.cell? ⟨g, o + 4 + 3, none⟩ = some (.slice B1 v.yn d1))
            (first | exact hNh.out _ hgd | exact hNh.out _ hgn3 | exact hNh.out _ hgn2)
            (first
              | (go_at_call 27; refine (hcl1.out _ hgn2).mono ?_; rintro e w3 ⟨rfl, hg3⟩; have hgn3 := gr_trans hgn2 hg3)
              | (go_at_call 27; refine (hcl.out _ hgd).mono ?_; rintro e w2 ⟨rfl, hg2⟩; have hgn2 := gr_trans hgd hg2))
          have eF := Lib.hid (show (⟨(tx3 b b.kn).toArray⟩ : ByteArray) ++ ⟨#[32]⟩ ++ ⟨u.text.toArray⟩ ++ ⟨#[32]⟩ ++ ⟨v.text.toArray⟩ ++ ⟨#[41]⟩ = ⟨b.text.toArray⟩ by rw [eS.out, eS1.out, eE.out])
          go_wp2_with fail
          rw [eF.out]
          go_ret
          exact ⟨rfl, gr_trans hgw0 hgn3⟩
end Go.Proofs.YtlehnlfgjadleaaDoor
