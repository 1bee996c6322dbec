/- The program's readStrategy, strategy and StrategyValid. -/
import Derived.Test.YtlehnlfgjadleaaDoorIBodyL
import Derived.Test.YtlehnlfgjadleaaDoorStratV
namespace Go.Proofs.YtlehnlfgjadleaaDoor
open Go.RowKit

theorem ileaf_eq {D m : Nat} {hand : List Ty} {l : List UInt8} (hp : pre [40] l = false) : ileaf m l = ibody D (m + 1) hand l := by
  cases D with
  | zero => conv => rhs; unfold ibody
            simp [hp]
  | succ d => conv => rhs; unfold ibody
              simp [hp]
theorem ibody_any (D : Nat) : IBIH D := by
  induction D with
  | zero =>
    intro hand A ca p l n N w lo hs hl hh hok hN hn hL hlo
    cases n with
    | zero => exact ibody_zero 0 hand A ca p l w hs
    | succ m =>
      cases hp : pre [40] l with
      | false =>
        have := ibody_word 0 m hand A ca p l w hs hl (by omega) hp
        rw [ileaf_eq (D := 0) (hand := hand) hp] at this
        exact this
      | true => exact ibody_list 0 m (fun d h => by cases h) hand A ca p l N w lo hs hl (by omega) hp hh hok hN hL hlo
  | succ d ih =>
    intro hand A ca p l n N w lo hs hl hh hok hN hn hL hlo
    cases n with
    | zero => exact ibody_zero (d + 1) hand A ca p l w hs
    | succ m =>
      cases hp : pre [40] l with
      | false =>
        have := ibody_word (d + 1) m hand A ca p l w hs hl (by omega) hp
        rw [ileaf_eq (D := d + 1) (hand := hand) hp] at this
        exact this
      | true => exact ibody_list (d + 1) m (fun d' h => by cases h; exact ih) hand A ca p l N w lo hs hl (by omega) hp hh hok hN hL hlo
/-- nil, or a body of its own. -/
def BRet (lo : Nat) (x : Option Bo) (v : Value) (w' : World) : Prop := match x with
  | none => v = .pointer none
  | some b => ∃ q, v = .pointer (some ⟨q, 0, none⟩) ∧ BodyP w' (Fr lo) q b
set_option maxRecDepth 100000 in
set_option maxHeartbeats 2000000 in
theorem readStrategy_any (k : Ty) (l : List UInt8) (q : Nat) (w : World) (lo : Nat) (hk : KindP w Al q k) (hl : l.length ≤ 2000000) (hok : HandOk k.args 15) (hL : LaidW w lo) :
    Calls Tryd.prog 36 #[.pointer (some ⟨q, 0, none⟩), .string ⟨l.toArray⟩] w fun e w' => ∃ v, e = .returned v ∧ w.grownBy w' none ∧ BRet w.heap.size (readB k.args l) v w' := by
  have hlo := hL.1
  obtain ⟨A, c, hb, hH⟩ := HandP.of_kind hk
  have hbn := Blk.new w 87 #[.string ⟨l.toArray⟩, .int .i64 200]
  have hga := World.grownBy_alloc w (.cells #[.string ⟨l.toArray⟩, .int .i64 200] 87) none
  have hs : ScanG (w.alloc (.cells #[.string ⟨l.toArray⟩, .int .i64 200] 87)) w.heap.size 87 [.int .i64 ((200 : Nat) : Int)] l := hbn
  have hq := (hb.grown0 hga).cell 0
  have hql := (hb.grown0 hga).lt
  simp only [List.getElem?_toArray, List.getElem?_cons_zero] at hq
  have hB := Lib.hid (ibody_any 100 k.args A c w.heap.size l 200 15 _ lo hs hl ((hH.mono (G := Ne w.heap.size) fun b _ hbl => by unfold Ne; omega).grown0 hga) hok (by omega) (by omega) (hL.grown0 hga) hlo)
  have hR := Lib.hid (show readB k.args l = match ibody 100 200 k.args l with | some (b, [], _) => some b | _ => none from rfl)
  go_enter Tryd.func36, Tryd.ntmps36
  go_wp2_with fail
  refine hB.out.mono ?_
  rintro e w2 ⟨v, rfl, hg2, hv⟩
  have hg := gr_trans_new hga hg2 (Nat.le_refl _)
  clear hB hs hbn hq hql
  cases hi : ibody 100 200 k.args l with
  | none =>
    rw [hi] at hv hR
    obtain rfl := hv
    have hRh := Lib.hid (show BRet w.heap.size (readB k.args l) (.pointer none) w2 by rw [hR.out]; rfl)
    clear hR hi
    go_wp2_with fail
    go_ret
    exact ⟨_, rfl, hg, hRh.out⟩
  | some y =>
    obtain ⟨b, r, n'⟩ := y
    rw [hi] at hv hR
    obtain ⟨q2, rfl, hsc, hbd⟩ := hv
    have c0 := hsc.cell
    have c0l := hsc.lt
    clear hi
    cases r with
    | nil =>
      have hRh := Lib.hid (show BRet w.heap.size (readB k.args l) (.pointer (some ⟨q2, 0, none⟩)) w2 by rw [hR.out]; exact ⟨q2, rfl, hbd.fr hga.size⟩)
      clear hR
      go_wp2_with fail
      go_ret
      exact ⟨_, rfl, hg, hRh.out⟩
    | cons x r =>
      have hRh := Lib.hid (show BRet w.heap.size (readB k.args l) (.pointer none) w2 by rw [hR.out]; rfl)
      clear hR
      go_wp2_with fail
      go_ret
      exact ⟨_, rfl, hg, hRh.out⟩
/-- The two results of strategy: the type, and the body. -/
def SPost (s l : List UInt8) (w : World) (e : Ending) (w' : World) : Prop :=
  w.grownBy w' none ∧ ∃ vk v, e = .returned (.tuple #[vk, v]) ∧ BRet w.heap.size ((strat s l).map (·.2)) v w'
set_option maxRecDepth 100000 in
set_option maxHeartbeats 2000000 in
theorem strategy_any (s l : List UInt8) (w : World) (lo : Nat) (hs : s.length ≤ 2000000) (hl : l.length ≤ 2000000) (hL : LaidW w lo) :
    Calls Tryd.prog 23 #[.string ⟨s.toArray⟩, .string ⟨l.toArray⟩] w (SPost s l w) := by
  have hK := Lib.hid (readKind_any s w (by omega))
  go_enter Tryd.func23, Tryd.ntmps23
  go_wp2_with fail
  refine hK.out.mono ?_
  rintro e w1 ⟨hg1, hm⟩
  cases hp : Ty.read s with
  | none =>
    rw [hp] at hm
    obtain rfl := hm
    have hS := Lib.hid (show (strat s l).map (·.2) = none by unfold strat; rw [hp]; rfl)
    clear hp hK
    go_wp2_with fail
    go_ret2
    exact ⟨hg1, _, _, rfl, by rw [hS.out]; rfl⟩
  | some t =>
    rw [hp] at hm
    obtain ⟨q, rfl, hk⟩ := hm
    have h15 := (Ty.read_some hp).2
    have hla := t.length_args
    have hok : HandOk t.args 15 := ⟨by omega, fun k hk => by have := args_atoms hk; omega⟩
    have hS := Lib.hid (show (strat s l).map (·.2) = readB t.args l by unfold strat; rw [hp]; simp only []; rw [readR_eq hok]; cases readB t.args l <;> rfl)
    have hR := Lib.hid (readStrategy_any t l q w1 lo hk.all hl hok (hL.grown0 hg1))
    clear hp hK hla h15 hk
    go_wp2_with fail
    refine hR.out.mono ?_
    rintro e w2 ⟨v, rfl, hg2, hv⟩
    have hv2 : BRet w.heap.size (readB t.args l) v w2 := by
      cases hb : readB t.args l with
      | none => rw [hb] at hv; exact hv
      | some b =>
        rw [hb] at hv
        obtain ⟨q3, e3, hb3⟩ := hv
        exact ⟨q3, e3, hb3.fr hg1.size⟩
    have hv2h := Lib.hid hv2
    clear hv hv2
    go_wp2_with fail
    go_ret2
    exact ⟨gr_trans hg1 hg2, _, _, rfl, by rw [hS.out]; exact hv2h.out⟩
set_option maxHeartbeats 2000000 in
theorem strategyValid_any (s l : List UInt8) (w : World) (lo : Nat) (hs : s.length ≤ 2000000) (hl : l.length ≤ 2000000) (hL : LaidW w lo) :
    Calls Tryd.prog 9 #[.string ⟨s.toArray⟩, .string ⟨l.toArray⟩] w fun e w' => e = .returned (.bool (strat s l).isSome) ∧ w.grownBy w' none := by
  have hS := Lib.hid (strategy_any s l w lo hs hl hL)
  go_enter Tryd.func9, Tryd.ntmps9
  go_wp2_with fail
  refine hS.out.mono ?_
  rintro e w1 ⟨hg1, vk, v, rfl, hv⟩
  cases hp : strat s l with
  | none =>
    rw [hp] at hv
    obtain rfl : v = .pointer none := hv
    have hV := Lib.hid (show (strat s l).isSome = false by rw [hp]; rfl)
    clear hp hS
    go_wp2_with fail
    go_ret
    exact ⟨by rw [hV.out]; rfl, hg1⟩
  | some tb =>
    rw [hp] at hv
    obtain ⟨q, rfl, _⟩ := hv
    have hV := Lib.hid (show (strat s l).isSome = true by rw [hp]; rfl)
    clear hp hS
    go_wp2_with fail
    go_ret
    exact ⟨by rw [hV.out]; rfl, hg1⟩
end Go.Proofs.YtlehnlfgjadleaaDoor
