/- The reference's counts, whole; its CountOf. -/
import Derived.Test.YtlehnlfgjadleaaSCnt
namespace Go.Proofs.Ytlehnlfgjadleaa
open Go.RowKit

/-- The row while size's levels are summed up. -/
def cw (hand : List Ty) (s v x : Nat) : Nat := if x < s then C hand x else if x = s then levs hand (s - 1) v else 0
set_option maxRecDepth 100000 in
set_option maxHeartbeats 4000000 in
theorem l6tCount_any (M : Nat) : SCnt M := by
  induction M with
  | zero => intro hand A ca b n w h1 _ h2; omega
  | succ M ih =>
    intro hand A ca b n w hM h8 h1 hS hl hh hb
    have hhh := Lib.hid (fun W (hW : w.grownBy W none) => hh.grown0 hW)
    have hbh := Lib.hid (fun W (hW : w.grownBy W none) => hb.grown0 hW)
    have hbl := hb.lt
    have hP := Lib.hid (fun (v s : Nat) (k : Ty) (W : World) (hk : hand[v]? = some k) (hs : s + 1 ≤ n) (h1 : 1 ≤ s) (hW : w.grownBy W none) => l6tParts_any M ih hand A ca b v s k W hk (by omega) (by omega) h1 hS (by omega) (hh.grown0 hW) (hb.grown0 hW))
    have hCle := Lib.hid (fun (s : Nat) (hs : s ≤ n) => Nat.le_trans (C_le 8 s hand (by omega) (by omega) hS (by omega)) (tb_small s (by omega)))
    clear hh hb ih
    go_enter Try.func14, Try.ntmps14
    go_wp2_with (at_make; refine wpList_make_row _ rfl _ _ rfl _ _ (n + 1) rfl rfl (by go_num) (by go_num) (by omega) (by omega) ?_; intro w1 hr1 hg1; have q0 := hr1.cell (i := 1) (by omega); have q0f := hr1.free 1; have q0l := hr1.lt; have hnI : (1 : Int) < (n : Int) + 1 := by omega)
    have hr2 := hr1.set 1 3
    have hg2 := gr_set hg1 (p := ⟨w.heap.size, 1, none⟩) (.inr (Nat.le_refl _)) (.int .i64 3)
    clear hr1 hg1 q0 q0f q0l hnI
    generalize hW2 : w1.setCell ⟨w.heap.size, 1, none⟩ (.int .i64 3) = w2 at *
    clear hW2
    go_loopw [8] (fun i wr => ∃ T, 1 ≤ T ∧ T ≤ n ∧ i = .int .i64 ((T : Int) + 1) ∧ IRow wr w.heap.size (n + 1) (cw hand (T + 1) 0) ∧ w.grownBy wr none) (fun i _ => n + 2 - (intOf i).toNat)
    case atStart => exact ⟨1, Nat.le_refl _, h1, rfl, hr2.congr (fun x _ => by
      unfold upd cw
      rcases x with _ | _ | x
      · rw [if_neg (by omega), if_pos (by omega), C_zero]
      · rw [if_pos rfl, if_pos (by omega), C_one]
      · rw [if_neg (by omega), if_neg (by omega), levs_zero]; split <;> rfl), hg2⟩
    case round =>
      obtain ⟨wi, hwi⟩ : ∃ wo, wo = wr := ⟨_, rfl⟩
      subst hwi
      obtain ⟨T, hT1, hTn, rfl, hrT, hgT⟩ := hrel
      by_cases hTl : T < n
      · have hTI : (T : Int) + 1 ≤ (n : Int) := by omega
        have hT2 : (T : Int) + 1 < (n : Int) + 1 := by omega
        have hT3 : (0 : Int) ≤ (T : Int) + 1 := by omega
        go_wp2_with fail
        go_loopw [9] (fun i wq => ∃ V, V ≤ hand.length ∧ i = .int .i64 (V : Int) ∧ IRow wq w.heap.size (n + 1) (cw hand (T + 1) V) ∧ w.grownBy wq none) (fun i _ => hand.length - (intOf i).toNat)
        case atStart => exact ⟨0, Nat.zero_le _, rfl, hrT, hgT⟩
        case round =>
          obtain ⟨wj, hwj⟩ : ∃ wo, wo = wr := ⟨_, rfl⟩
          subst hwj
          obtain ⟨V, hV1, rfl, hrV, hgV⟩ := hrel
          have hbV := hbh.out wj hgV
          have f0 := hbV.cell 0
          have f0f := hbV.free 0
          have f0l := hbV.lt
          simp only [List.getElem?_toArray, List.getElem?_cons_zero] at f0
          by_cases hVl : V < hand.length
          · have hkV : hand[V]? = some hand[V] := List.getElem?_eq_getElem hVl
            have hcV : cw hand (T + 1) V (T + 1) = levs hand T V := by unfold cw; rw [if_neg (by omega), if_pos rfl]; rfl
            have hlv := levs_next (n := T) hkV
            have hlle := levs_le (hand := hand) (n := T + 1) (by omega) (V + 1)
            have hCT := hCle.out (T + 1) (by omega)
            rw [Nat.add_sub_cancel, hlv] at hlle
            have hC := fun W (hW : w.grownBy W none) => hP.out V T hand[V] W hkV (by omega) hT1 hW
            have rn := hrV.cell (i := T + 1) (by omega)
            have rnf := hrV.free (T + 1)
            have rnl := hrV.lt
            rw [hcV] at rn
            generalize levs hand T V = y at *
            generalize wy ((parts6 hand hand[V]).map C) T = z at *
            have hCh := Lib.hid hC
            clear hC hkV
            have hwy : IntKind.i64.wrap ((y : Int) + (z : Int)) = (y : Int) + (z : Int) := IntWalk.i64_in _ (by omega)
            have hwT : IntKind.i64.wrap (T : Int) = (T : Int) := IntWalk.i64_in _ (by omega)
            have hyz : ¬ (1000000000 : Int) < (y : Int) + (z : Int) := by omega
            have hdec := Lib.hid (decide_eq_false hyz)
            have hgd := gr_drew hgV
            have hrVh := Lib.hid (fun W (hW : wj.grownBy W none) => (hrV.grown0 hW))
            go_wp2_with fail
            go_region_with (go_at_call 25; refine (hCh.out _ (by first | exact hgd | exact hgV)).mono ?_; rintro e w6 ⟨rfl, hg6⟩; have hr6 : IRow w6 w.heap.size (n + 1) (cw hand (T + 1) V) := (show IRow wj.drew w.heap.size (n + 1) (cw hand (T + 1) V) from hrV).grown0 hg6; have sn := hr6.cell (i := T + 1) (by omega); have snf := hr6.free (T + 1); have snl := hr6.lt; rw [hcV] at sn; have hb6 : Blk w6 b 39 #[.bool false] := (show Blk wj.drew b 39 #[.bool false] from hbV).grown0 hg6; have t0 := hb6.cell 0; have t0f := hb6.free 0; have t0l := hb6.lt; simp only [List.getElem?_toArray, List.getElem?_cons_zero] at t0)
            all_goals
              have hset := hr6.set (T + 1) (y + z)
              rw [Int.natCast_add] at hset
              have hsch := Lib.hid (hset.congr (f' := cw hand (T + 1) (V + 1)) (fun x _ => by
                unfold upd cw
                by_cases e : x = T + 1
                · rw [if_pos e, if_neg (by omega), if_pos e, Nat.add_sub_cancel, hlv]
                · rw [if_neg e, if_neg e, if_neg e]))
              have hXh := Lib.hid (hb6.other (p := ⟨w.heap.size, T + 1, none⟩) (by show b ≠ w.heap.size; omega) (.int .i64 ((y : Int) + (z : Int))))
              have hgXh := Lib.hid (gr_set (gr_trans hgd hg6) (p := ⟨w.heap.size, T + 1, none⟩) (.inr (Nat.le_refl _)) (.int .i64 ((y : Int) + (z : Int))))
              clear hset
              go_wp2_with fail
              go_roundw
              case rel => exact ⟨V + 1, by omega, by go_num, by rw [hdec.out, set_one hXh.out]; exact hsch.out, by rw [hdec.out, set_one hXh.out]; exact hgXh.out⟩
              case measure => simp [intOf]; omega
          · obtain rfl : V = hand.length := by omega
            have hrE := Lib.hid (hrV.congr (f' := cw hand (T + 1 + 1) 0) (fun x _ => by
              unfold cw
              by_cases e : x < T + 1
              · rw [if_pos e, if_pos (by omega)]
              · rw [if_neg e]
                by_cases e2 : x = T + 1
                · rw [if_pos e2, if_pos (by omega), e2]
                  exact levs_all (by omega)
                · rw [if_neg e2, if_neg (by omega), levs_zero]
                  split <;> rfl))
            go_wp2_with fail
            go_roundw
            case rel => exact ⟨T + 1, by omega, by omega, by go_num, hrE.out, hgV⟩
            case measure => simp [intOf]; omega
      · obtain rfl : T = n := by omega
        have hTI : ¬ (T : Int) + 1 ≤ (T : Int) := by omega
        have hrE := Lib.hid (hrT.congr (f' := C hand) (fun x hx => by unfold cw; rw [if_pos hx]))
        go_wp2_with fail
        go_ret
        exact ⟨_, rfl, Nat.le_refl _, hrE.out, hgT⟩
end Go.Proofs.Ytlehnlfgjadleaa
