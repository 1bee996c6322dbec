/- The reference: types at paths; moves. -/
import Derived.Test.YtegidbdgneecmaaDoorAt
namespace Go.Proofs.YtegidbdgneecmaaDoor
open Go.RowKit

set_option maxHeartbeats 400000 in
theorem l6In_any (n lo hi : Int) (w : World) : Calls Tryd.prog 61 #[.int .i64 n, .int .i64 lo, .int .i64 hi] w fun e w' => e = .returned (.bool (decide (lo ≤ n) && decide (n ≤ hi))) ∧ w = w' := by
  by_cases h : lo ≤ n
  · go_enter Tryd.func61, Tryd.ntmps61
    go_wp2_with fail
    go_ret
    exact ⟨by rw [decide_eq_true h]; rfl, rfl⟩
  · go_enter Tryd.func61, Tryd.ntmps61
    go_wp2_with fail
    go_ret
    exact ⟨by rw [decide_eq_false (by omega : ¬ lo ≤ n)]; rfl, rfl⟩

/-- What the reference's l1At leaves. -/
def SAtPost (w' : World) (F : Nat → Prop) (t : Ty) (p : List UInt8) (e : Ending) : Prop :=
  match t.at_ p with
  | none => ∃ u A c, e = .returned (.tuple #[.agg #[.slice A (Ty.args u).length c], .bool false]) ∧ TreeV w' F (.slice A (Ty.args u).length c) u
  | some u => ∃ A c, e = .returned (.tuple #[.agg #[.slice A u.args.length c], .bool true]) ∧ TreeV w' F (.slice A u.args.length c) u

set_option maxHeartbeats 1000000 in
theorem l1At_any (t : Ty) (A : Option Addr) (c0 : Nat) (p : List UInt8) (F : Nat → Prop) (w : World) (hk : TreeV w F (.slice A t.args.length c0) t) (ht : t.atoms ≤ 15) (hp : p.length ≤ 1099511627776) :
    Calls Tryd.prog 70 #[.agg #[.slice A t.args.length c0], .string ⟨p.toArray⟩] w fun e w' => SAtPost w' F t p e ∧ w.grownBy w' none := by
  have hg0 := World.grownBy_alloc w (.cells #[.slice A t.args.length c0] 41) none
  have hg1 := gr_alloc hg0 (.cells #[.slice none 0 0] 41)
  have hb4 := Blk.new (w.alloc (.cells #[.slice A t.args.length c0] 41)) 41 #[.slice none 0 0]
  have hb2 := (Blk.new w 41 #[.slice A t.args.length c0]).alloc (.cells #[.slice none 0 0] 41)
  rw [World.size_alloc] at hb4
  go_enter Tryd.func70, Tryd.ntmps70
  go_wp2_with fail
  go_loopw [6] (fun i wr => ∃ (j : Nat) (u : Ty) (A' : Option Addr) (c' : Nat), j ≤ p.length ∧ i = .int .i64 (j : Int) ∧ Blk wr w.heap.size 41 #[.slice A' u.args.length c'] ∧ Blk wr (w.heap.size + 1) 41 #[.slice none 0 0] ∧
    TreeV w F (.slice A' u.args.length c') u ∧ w.grownBy wr none ∧ u.atoms ≤ 15 ∧ t.at_ p = u.at_ (p.drop j)) (fun i _ => p.length - (intOf i).toNat)
  case atStart => exact ⟨0, t, A, c0, Nat.zero_le _, rfl, hb2, hb4, hk, hg1, ht, rfl⟩
  case round =>
    obtain ⟨j, u, A', c', hj, rfl, hbw2, hbw4, hku, hgw, hu, hat⟩ := hrel
    have hath := Lib.hid hat
    have hc2 := hbw2.cell 0
    have hf2 := hbw2.free 0
    have hc4 := hbw4.cell 0
    have hf4 := hbw4.free 0
    simp only [List.getElem?_toArray, List.getElem?_cons_zero] at hc2 hc4
    have hl4 := hbw4.lt
    clear hat
    have kuw := hku.grown0 hgw
    obtain ⟨A'', cp, vs, e, hA, hs⟩ := hku.open_
    cases e
    have hsh := Lib.hid hs
    clear hs
    have hal := u.length_args
    by_cases hlt : j < p.length
    · have hlt' : j < (⟨p.toArray⟩ : ByteArray).size := by simpa [ByteArray.size] using hlt
      have hd : p.drop j = p[j] :: p.drop (j + 1) := List.drop_eq_getElem_cons hlt
      have hat := hath.out
      rw [hd, at_cons] at hat
      have hbv := byte_val p j hlt hlt'
      clear hd
      have hm256 : p[j].toNat < 256 := p[j].toNat_lt
      generalize p[j] = c at *
      by_cases hok : 48 ≤ c.toNat ∧ c.toNat - 48 < u.args.length
      · obtain ⟨h48, hlen⟩ := hok
        rw [if_pos h48] at hat
        have hkk : u.args[c.toNat - 48]? = some (u.args[c.toNat - 48]'hlen) := List.getElem?_eq_getElem hlen
        rw [hkk] at hat
        have hath2 := Lib.hid hat
        have hch := hsh.out _ _ hkk
        have hau := Ty.atoms_of_args (List.mem_of_getElem? hkk)
        obtain ⟨g, o, rfl, _, hcell⟩ := (hA.grown0 hgw) (by omega)
        have hck := hcell _ hlen
        obtain ⟨A2, c2, vs2, e2, hA2, hs2⟩ := hch.open_
        rw [e2] at hck hch
        clear hat hkk hcell hs2 hA2 e2
        have hin : (decide ((0 : Int) ≤ (c.toNat : Int) - 48) && decide ((c.toNat : Int) - 48 ≤ (u.args.length : Int) - 1)) = true := by simp; omega
        have hinh := Lib.hid hin
        clear hin
        go_wp2_with fail
        refine (l6In_any _ _ _ _).mono ?_
        rintro e w' ⟨rfl, rfl⟩
        rw [hinh.out]
        go_wp2_with fail
        go_roundw
        case rel => exact ⟨j + 1, _, A2, c2, by omega, by go_num, hbw2.set 0 _, hbw4.other (by simp) _, hch, gr_set hgw (.inr (Nat.le_refl _)) _, by omega, hath2.out⟩
        case measure => simp [intOf]; omega
      · have hn : t.at_ p = none := by
          rw [hat]
          split
          · rename_i h48
            rw [List.getElem?_eq_none (by omega)]
          · rfl
        have hnh := Lib.hid hn
        clear hat hn
        have hin : (decide ((0 : Int) ≤ (c.toNat : Int) - 48) && decide ((c.toNat : Int) - 48 ≤ (u.args.length : Int) - 1)) = false := by
          rw [Bool.and_eq_false_iff]
          by_cases h48 : 48 ≤ c.toNat
          · right; simp; omega
          · left; simp; omega
        have hinh := Lib.hid hin
        clear hin
        go_wp2_with fail
        refine (l6In_any _ _ _ _).mono ?_
        rintro e w' ⟨rfl, rfl⟩
        rw [hinh.out]
        have hgs := gr_set hgw (p := ⟨w.heap.size + 1, 0, none⟩) (.inr (by simp)) (.slice A' u.args.length c')
        have kw := hku.grown0 hgs
        go_wp2_with fail
        refine bodyPost_ret (v := .tuple #[.agg #[.slice A' u.args.length c'], .bool false]) (by simp [results, Tryd.results70, go_sem, hc4]) rfl ⟨?_, hgs⟩
        unfold SAtPost
        rw [hnh.out]
        exact ⟨u, A', c', rfl, kw⟩
    · have hat := hath.out
      rw [List.drop_eq_nil_of_le (by omega)] at hat
      have hath2 := Lib.hid hat
      clear hat
      have hgs := gr_set hgw (p := ⟨w.heap.size + 1, 0, none⟩) (.inr (by simp)) (.slice A' u.args.length c')
      have kw := hku.grown0 hgs
      go_wp2_with fail
      refine bodyPost_ret (v := .tuple #[.agg #[.slice A' u.args.length c'], .bool true]) (by simp [results, Tryd.results70, go_sem, hc4]) rfl ⟨?_, hgs⟩
      unfold SAtPost
      rw [hath2.out]
      exact ⟨A', c', rfl, kw⟩

theorem byte0_ne (c : UInt8) (k : UInt8) (n : Int) (hk : (k.toNat : Int) = n) : (((c.toNat : Int)) != n) = !(c == k) := by
  subst hk
  rw [bne, Bool.eq_iff_iff]
  simp only [Bool.not_eq_true', beq_eq_false_iff_ne, ne_eq]
  constructor
  · intro h e; subst e; exact h rfl
  · intro h e; exact h (UInt8.toNat_inj.1 (by omega))

set_option maxHeartbeats 1000000 in
theorem l1Move_any (t : Ty) (A : Option Addr) (c0 : Nat) (m : List UInt8) (F : Nat → Prop) (w : World) (hk : TreeV w F (.slice A t.args.length c0) t) (ht : t.atoms ≤ 15) (hm : m.length ≤ 1099511627776) :
    Calls Tryd.prog 60 #[.agg #[.slice A t.args.length c0], .string ⟨m.toArray⟩] w fun e w' => e = .returned (.bool (isMove t m)) ∧ w.grownBy w' none := by
  have hg0 := World.grownBy_alloc w (.cells #[.slice A t.args.length c0] 41) none
  cases m with
  | nil =>
    go_enter Tryd.func60, Tryd.ntmps60
    go_wp2_with fail
    go_ret
    exact ⟨rfl, hg0⟩
  | cons c p =>
    have h0 : 0 < (⟨(c :: p).toArray⟩ : ByteArray).size := by simp [ByteArray.size]
    have hbv := byte_val (c :: p) 0 (by simp) h0
    simp only [List.getElem_cons_zero] at hbv
    have hsl : (⟨(c :: p).toArray⟩ : ByteArray).extract 1 (p.length + 1) = ⟨p.toArray⟩ := by rw [extract_ba]; simp
    have e1 := byte0_ne c 113 113 rfl
    have e2 := byte0_ne c 116 116 rfl
    have e3 := byte0_ne c 102 102 rfl
    have hml : p.length + 1 ≤ 1099511627776 := by simpa using hm
    have hlen0 : (((p.length : Int) + 1) == 0) = false := by rw [beq_eq_false_iff_ne]; omega
    by_cases hc : c = 113 ∨ c = 116 ∨ c = 102
    · have hR := Lib.hid (show isMove t (c :: p) = (t.at_ p).isSome by
        unfold isMove
        rcases hc with rfl | rfl | rfl <;> simp)
      have hAt : ∀ W, w.grownBy W none → Calls Tryd.prog 70 #[.agg #[.slice A t.args.length c0], .string ⟨p.toArray⟩] W fun e w' => ∃ u A' c', e = .returned (.tuple #[.agg #[.slice A' (Ty.args u).length c'], .bool (t.at_ p).isSome]) ∧ W.grownBy w' none := by
        intro W hW
        refine (l1At_any t A c0 p F W (hk.grown0 hW) ht (by omega)).mono ?_
        rintro e w' ⟨hS, hg⟩
        unfold SAtPost at hS
        cases hu : t.at_ p with
        | none => rw [hu] at hS; obtain ⟨u, A', c', rfl, _⟩ := hS; exact ⟨u, A', c', rfl, hg⟩
        | some u => rw [hu] at hS; obtain ⟨A', c', rfl, _⟩ := hS; exact ⟨u, A', c', rfl, hg⟩
      have hAth := Lib.hid hAt
      clear hAt
      have hW1 : w.grownBy (w.alloc (.cells #[.slice A t.args.length c0] 41)).drew none := gr_drew hg0
      have d1 : ((c.toNat : Int) != 113 && ((c.toNat : Int) != 116 && (c.toNat : Int) != 102)) = false := by
        rw [e1, e2, e3]
        rcases hc with rfl | rfl | rfl <;> rfl
      have hW2 : w.grownBy ((w.alloc (.cells #[.slice A t.args.length c0] 41)).alloc (.cells #[.slice none 0 0] 41)).drew none := gr_drew (gr_alloc hg0 _)
      have hb5 : Blk ((w.alloc (.cells #[.slice A t.args.length c0] 41)).alloc (.cells #[.slice none 0 0] 41)).drew (w.heap.size + 1) 41 #[.slice none 0 0] := by
        have := Blk.new (w.alloc (.cells #[.slice A t.args.length c0] 41)) 41 #[.slice none 0 0]
        rw [World.size_alloc] at this
        exact this
      rcases hc with rfl | rfl | rfl
      all_goals
        clear e1 e2 e3 d1
        go_enter Tryd.func60, Tryd.ntmps60
        go_wp2_with fail
        go_region_with (go_at_call 70; first | ((with_reducible refine (hAth.out _ hW1).mono ?_); rintro e w' ⟨u, A', c', rfl, hgw⟩) | ((with_reducible refine (hAth.out _ hW2).mono ?_); rintro e w' ⟨u, A', c', rfl, hgw⟩; have b5 := hb5.grown0 hgw; have hc5 := b5.cell 0; have hf5 := b5.free 0; simp only [List.getElem?_toArray, List.getElem?_cons_zero] at hc5; have hl5 := b5.lt))
        all_goals go_wp2_with fail
        all_goals go_ret
        all_goals refine ⟨by rw [hR.out]; rfl, ?_⟩
        all_goals first | exact gr_alloc (gr_trans hW1 hgw) _ | exact gr_set (gr_trans hW2 hgw) (.inr (by simp)) _
    · have hR := Lib.hid (show isMove t (c :: p) = false by
        unfold isMove
        simp only [not_or] at hc
        simp [hc.1, hc.2.1, hc.2.2])
      simp only [not_or] at hc
      rw [beq_eq_false_iff_ne.2 hc.1, Bool.not_false] at e1
      rw [beq_eq_false_iff_ne.2 hc.2.1, Bool.not_false] at e2
      rw [beq_eq_false_iff_ne.2 hc.2.2, Bool.not_false] at e3
      clear hc
      go_enter Tryd.func60, Tryd.ntmps60
      go_wp2_with fail
      go_ret
      exact ⟨by rw [hR.out]; rfl, hg0⟩

end Go.Proofs.YtegidbdgneecmaaDoor
