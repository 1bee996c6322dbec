/- The reference's reader of bodies, whole; its size. -/
import Derived.Test.YtlehnlfgjadleaaDoorSBodyL
namespace Go.Proofs.YtlehnlfgjadleaaDoor
open Go.RowKit

set_option maxRecDepth 100000 in
set_option maxHeartbeats 4000000 in
/-- No body begins so. -/
theorem l3Read_junk (f : Nat) (l : List UInt8) (i : Nat) (d : Int) (hand : List Ty) (A : Option Addr) (ca : Nat) (w : World) (_hl : l.length ≤ 100000) (hlt : i < l.length) (hd : ¬ (100 : Int) < d)
    (h1 : pre [116] (l.drop i) = false) (h2 : pre [102] (l.drop i) = false) (h3 : pre [117] (l.drop i) = false) (h4 : pre [40] (l.drop i) = false) :
    Calls Tryd.prog 35 #[.string ⟨l.toArray⟩, .int .i64 (i : Int), .slice A hand.length ca, .int .i64 d] w (BPost (f + 1) hand l i w) := by
  have hlt' : i < (⟨l.toArray⟩ : ByteArray).size := by simpa [ByteArray.size] using hlt
  have hg := World.grownBy_alloc w (.cells #[.string ⟨#[]⟩, .int .i64 0, .slice none 0 0, .slice none 0 0] 36) none
  have hS := Lib.hid (show sbody (f + 1) hand (l.drop i) = none by
    unfold sbody
    rw [h1, h2, h3, h4]
    rfl)
  have hb1 := byte_is l i hlt hlt' 116 116 rfl
  have hb2 := byte_is l i hlt hlt' 102 102 rfl
  have hb3 := byte_is l i hlt hlt' 117 117 rfl
  have hb4 := byte_ne l i hlt hlt' 40 40 rfl
  rw [h1] at hb1
  rw [h2] at hb2
  rw [h3] at hb3
  rw [h4] at hb4
  have hnl : ¬ l.length ≤ i := by omega
  clear h1 h2 h3 h4
  go_enter Tryd.func35, Tryd.ntmps35
  go_wp2_with fail
  exact bodyPost_ret (v := noneV) (by simp [results, Tryd.results35, go_sem, noneV]) rfl (BPost.no hS.out hg)
/-- The reference's reader. -/
theorem l3Read_any (f : Nat) : BIH f := by
  induction f with
  | zero =>
    intro l i d hand A ca N w hl hi hd _ _ _ _
    exact l3Read_no 0 l i d hand A ca w hl hi (.inl (by omega)) (by unfold sbody; rfl)
  | succ f ih =>
    intro l i d hand A ca N w hl hi hd hf hh hok hN
    by_cases hil : l.length ≤ i
    · refine l3Read_no _ l i d hand A ca w hl hi (.inr hil) ?_
      rw [List.drop_eq_nil_of_le hil]
      unfold sbody
      rfl
    · cases h4 : pre [40] (l.drop i) with
      | true => exact l3Read_list f ih l i d hand A ca N w hl (by omega) (by omega) (by omega) h4 hh hok hN
      | false =>
        by_cases hp : pre [116] (l.drop i) = true ∨ pre [102] (l.drop i) = true ∨ pre [117] (l.drop i) = true
        · exact l3Read_leaf f l i d hand A ca w hl (by omega) (by omega) hp
        · simp only [not_or, Bool.not_eq_true] at hp
          exact l3Read_junk f l i d hand A ca w hl (by omega) (by omega) hp.1 hp.2.1 hp.2.2 h4
/-- The sizes of a list of bodies. -/
def bsum : List Bo → Nat
  | [] => 0
  | x :: r => x.size + bsum r
theorem bsum_app (a b : List Bo) : bsum (a ++ b) = bsum a + bsum b := by
  induction a with
  | nil => simp [bsum]
  | cons x r ih => simp [bsum, ih]; omega
theorem bsize_parts (b : Bo) : b.size = 1 + bsum b.parts := by
  induction b with
  | w c => rfl
  | hd v => rfl
  | sn l x ihl _ => simp only [Bo.size, Bo.parts, bsum_app, bsum, ihl]; omega
theorem bsum_take (L : List Bo) (k : Nat) : bsum (L.take k) ≤ bsum L := by
  have := bsum_app (L.take k) (L.drop k)
  rw [List.take_append_drop] at this
  omega
theorem bsum_len (L : List Bo) : L.length ≤ bsum L := by
  induction L with
  | nil => simp [bsum]
  | cons x r ih => have := x.size_pos; simp [bsum]; omega
theorem bsum_next {L : List Bo} {k : Nat} {u : Bo} (h : L[k]? = some u) : bsum (L.take (k + 1)) = bsum (L.take k) + u.size := by
  obtain ⟨hk, rfl⟩ := List.getElem?_eq_some_iff.1 h
  rw [List.take_succ_eq_append_getElem hk, bsum_app]
  simp [bsum]
theorem NV.kid {w : World} {F : Nat → Prop} {A B : Option Addr} {c d : Nat} {b : Bo} (h : NV w F A c B d b) {i : Nat} {u : Bo} (hi : i < b.kn) (hu : b.parts[i]? = some u) :
    ∃ g o A' c' B' d', A = some ⟨g, o, none⟩ ∧ NCells w g (o + 4 * i) u A' c' B' d' ∧ NV w F A' c' B' d' u := by
  obtain ⟨As, cs, Bs, ds, hA, _, hs⟩ := h.open_
  obtain ⟨g, o, e, _, hc⟩ := hA (by omega)
  exact ⟨g, o, _, _, _, _, e, hc i u hi hu, hs i u hu⟩
theorem NV.ans {w : World} {F : Nat → Prop} {A B : Option Addr} {c d : Nat} {b : Bo} (h : NV w F A c B d b) {i : Nat} {u : Bo} (hu : b.parts[b.kn + i]? = some u) :
    ∃ g o A' c' B' d', B = some ⟨g, o, none⟩ ∧ NCells w g (o + 4 * i) u A' c' B' d' ∧ NV w F A' c' B' d' u := by
  obtain ⟨As, cs, Bs, ds, _, hB, hs⟩ := h.open_
  obtain ⟨g, o, e, _, hc⟩ := hB (by have := np_lt hu; unfold Bo.yn; omega)
  exact ⟨g, o, _, _, _, _, e, hc i u hu, hs _ u hu⟩
set_option maxHeartbeats 2000000 in
theorem l3Size_any (m : Nat) : ∀ (b : Bo) (A : Option Addr) (c : Nat) (B : Option Addr) (d : Nat) (F : Nat → Prop) (w : World), b.size ≤ m → b.size ≤ 1000000 → NV w F A c B d b →
    Calls Tryd.prog 24 #[nodeV b A c B d] w fun e w' => e = .returned (.int .i64 (b.size : Int)) ∧ w.grownBy w' none := by
  induction m with
  | zero => intro b A c B d F w h; have := b.size_pos; omega
  | succ m ih =>
    intro b A c B d F w hm hsz hk
    have ihh := Lib.hid ih
    clear ih
    have hg0 := World.grownBy_alloc w (.cells #[.string ⟨b.atm.toArray⟩, .int .i64 (b.level : Int), .slice A b.kn c, .slice B b.yn d] 36) none
    have hbx := Blk.new w 36 #[.string ⟨b.atm.toArray⟩, .int .i64 (b.level : Int), .slice A b.kn c, .slice B b.yn d]
    have hsp := Lib.hid (bsize_parts b)
    have hnp : b.kn + b.yn = b.parts.length := by rw [Bo.np_parts]; unfold Bo.yn Bo.kn; omega
    have hnpl : b.parts.length ≤ 1000000 := by have := hsp.out; have := bsum_len b.parts; omega
    have hle := Lib.hid (bsum_take b.parts)
    have hpb : ∀ u ∈ b.parts, u.size + 1 ≤ b.size := by
      intro u hu
      obtain ⟨i, hi⟩ := List.getElem?_of_mem hu
      have h1 := bsum_next hi
      have h2 := hle.out (i + 1)
      have h3 := hsp.out
      omega
    have hpbh := Lib.hid hpb
    have hkh := Lib.hid (fun (W : World) (hW : w.grownBy W none) => hk.grown0 hW)
    have hspb : bsum b.parts + 1 ≤ 1000000 := by have := hsp.out; omega
    clear hk hpb
    unfold nodeV
    generalize b.atm = at_ at *
    generalize b.level = lv at *
    go_enter Tryd.func24, Tryd.ntmps24
    go_wp2_with fail
    go_loopw [3, 4] (fun n i wr => ∃ k : Nat, k ≤ b.kn ∧ i = .int .i64 (k : Int) ∧ n = .int .i64 (1 + (bsum (b.parts.take k) : Int)) ∧ (w.alloc (.cells #[.string ⟨at_.toArray⟩, .int .i64 (lv : Int), .slice A b.kn c, .slice B b.yn d] 36)).grownBy wr none) (fun _ i _ => b.kn - (intOf i).toNat)
    case atStart => exact ⟨0, Nat.zero_le _, rfl, rfl, gr_refl _ _⟩
    case round =>
      obtain ⟨wi, hwi⟩ : ∃ wo, wo = wr := ⟨_, rfl⟩
      subst hwi
      obtain ⟨k, hkl, rfl, rfl, hgw⟩ := hrel
      have hl1 := hle.out k
      have hbw := Blk.grown0 hbx hgw
      have b2 := hbw.cell 2
      have b3 := hbw.cell 3
      have blt := hbw.lt
      simp only [List.getElem?_toArray, List.getElem?_cons_zero, List.getElem?_cons_succ] at b2 b3
      by_cases hlt : k < b.kn
      · have hlt2 : k < b.parts.length := by omega
        have hkk : b.parts[k]? = some b.parts[k] := List.getElem?_eq_getElem hlt2
        obtain ⟨g, o, A', c', B', d', rfl, ⟨q0, q1, q2, q3⟩, hch⟩ := (hkh.out wi (gr_trans hg0 hgw)).kid hlt hkk
        rw [Nat.mul_comm 4 k] at q0 q1 q2 q3
        have hmem := List.getElem_mem hlt2
        have hl2 := hle.out (k + 1)
        have hsn := Lib.hid (bsum_next hkk)
        rw [bsum_next hkk] at hl2
        have hps := hpbh.out _ hmem
        have hcl := Lib.hid (ihh.out b.parts[k] A' c' B' d' F wi (by omega) (by omega) hch)
        clear hkk hmem hch
        generalize b.parts[k] = u at *
        go_wp2_with fail
        refine hcl.out.mono ?_
        rintro e w' ⟨rfl, hg2⟩
        go_wp2_with fail
        go_roundw
        case rel => exact ⟨k + 1, by omega, by go_num, by rw [hsn.out]; go_num, gr_trans hgw hg2⟩
        case measure => simp [intOf]; omega
      · obtain rfl : k = b.kn := by omega
        go_wp2_with fail
        clear hkl hlt hl1
        go_loopw [3, 5] (fun n i wr => ∃ k : Nat, k ≤ b.yn ∧ i = .int .i64 (k : Int) ∧ n = .int .i64 (1 + (bsum (b.parts.take (b.kn + k)) : Int)) ∧ (w.alloc (.cells #[.string ⟨at_.toArray⟩, .int .i64 (lv : Int), .slice A b.kn c, .slice B b.yn d] 36)).grownBy wr none) (fun _ i _ => b.yn - (intOf i).toNat)
        case atStart => exact ⟨0, Nat.zero_le _, rfl, rfl, hgw⟩
        case round =>
          obtain ⟨wj, hwj⟩ : ∃ wo, wo = wr := ⟨_, rfl⟩
          subst hwj
          obtain ⟨k, hkl, rfl, rfl, hgw2⟩ := hrel
          have hl1 := hle.out (b.kn + k)
          have hbw2 := Blk.grown0 hbx hgw2
          have b22 := hbw2.cell 2
          have b32 := hbw2.cell 3
          have blt2 := hbw2.lt
          simp only [List.getElem?_toArray, List.getElem?_cons_zero, List.getElem?_cons_succ] at b22 b32
          by_cases hlt : k < b.yn
          · have hlt2 : b.kn + k < b.parts.length := by omega
            have hkk : b.parts[b.kn + k]? = some b.parts[b.kn + k] := List.getElem?_eq_getElem hlt2
            obtain ⟨g, o, A', c', B', d', rfl, ⟨q0, q1, q2, q3⟩, hch⟩ := (hkh.out wj (gr_trans hg0 hgw2)).ans hkk
            rw [Nat.mul_comm 4 k] at q0 q1 q2 q3
            have hmem := List.getElem_mem hlt2
            have hl2 := hle.out (b.kn + k + 1)
            have hsn := Lib.hid (bsum_next hkk)
            rw [bsum_next hkk] at hl2
            have hps := hpbh.out _ hmem
            have hcl := Lib.hid (ihh.out b.parts[b.kn + k] A' c' B' d' F wj (by omega) (by omega) hch)
            clear hkk hmem hch
            generalize b.parts[b.kn + k] = u at *
            go_wp2_with fail
            refine hcl.out.mono ?_
            rintro e w' ⟨rfl, hg2⟩
            go_wp2_with fail
            go_roundw
            case rel => exact ⟨k + 1, by omega, by go_num, by rw [show b.kn + (k + 1) = b.kn + k + 1 by omega, hsn.out]; go_num, gr_trans hgw2 hg2⟩
            case measure => simp [intOf]; omega
          · obtain rfl : k = b.yn := by omega
            go_wp2_with fail
            go_ret
            refine ⟨ret_int ?_, gr_trans hg0 hgw2⟩
            rw [hsp.out, List.take_of_length_le (by omega)]
            go_num
end Go.Proofs.YtlehnlfgjadleaaDoor
