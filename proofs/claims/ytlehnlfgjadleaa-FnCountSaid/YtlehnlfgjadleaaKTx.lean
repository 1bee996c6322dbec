/- The program's texts of a list of types, joined. -/
import Derived.Test.YtlehnlfgjadleaaText
import Derived.Test.YtlehnlfgjadleaaOwn
import Derived.Test.YtlehnlfgjadleaaConc
import Derived.Test.YtlehnlfgjadleaaKeyT
import Derived.Test.YtlehnlfgjadleaaShelf
namespace Go.Proofs.Ytlehnlfgjadleaa
open Go.RowKit

set_option maxHeartbeats 1000000 in
theorem kindTexts_any (ts : List Ty) (A : Option Addr) (cp : Nat) (qs : Nat → Nat) (F : Nat → Prop) (w : World) (hb : ∀ t ∈ ts, t.atoms ≤ 1000000) (hn : ts.length ≤ 1000000)
    (hA : Sl w F A ts.length (fun i => .pointer (some ⟨qs i, 0, none⟩))) (hs : ∀ i u, ts[i]? = some u → KindP w F (qs i) u) :
    Calls Try.prog 29 #[.slice A ts.length cp] w fun e w' => ∃ v, e = .returned v ∧ w'.ownsRow w.heap.size 9 1 v ts.length (ts.map fun t => strv t.text) ∧ w.grownBy w' none := by
  have hsh := Lib.hid hs
  have hbh := Lib.hid hb
  clear hs hb
  go_enter Try.func29, Try.ntmps29
  go_wp2_with fail
  go_loopw [3, 8] (fun o i wr => ∃ (k : Nat) (_ : k ≤ ts.length), i = .int .i64 (k : Int) ∧ wr.ownsRow w.heap.size 9 1 o k ((ts.take k).map fun t => strv t.text) ∧ w.grownBy wr none) (fun _ i _ => ts.length - (intOf i).toNat)
  case atStart => exact ⟨0, Nat.zero_le _, rfl, own_nil _ _ _, gr_refl _ _⟩
  case round =>
    obtain ⟨k, hkl, rfl, hown, hgw⟩ := hrel
    obtain ⟨Ao, co, rfl, _⟩ := own_form hown
    have hsz := hgw.size
    by_cases hlt : k < ts.length
    · obtain ⟨g, o, rfl, _, hcell⟩ := (hA.grown0 hgw) (by omega)
      have hck := hcell k hlt
      have hkk : ts[k]? = some ts[k] := List.getElem?_eq_getElem hlt
      have hch := (hsh.out k _ hkk).grown0 hgw
      have hba := hbh.out ts[k] (List.getElem_mem hlt)
      have hsn := Lib.hid (Ty.take_snoc hkk)
      clear hcell hkk
      go_wp2_with fail
      refine (text_any ts[k].atoms ts[k] (qs k) _ wr (Nat.le_refl _) hba hch).mono ?_
      rintro e w2 ⟨rfl, hg2⟩
      have hg3 := gr_alloc hg2 (.cells #[.string ⟨ts[k].text.toArray⟩] 9)
      have hown2 := own_keep hown hg3
      have hsz2 := hg2.size
      go_wp2_with (at_builtin; refine wpList_app rfl _ _ 69 rfl w.heap.size 9 (.string ⟨#[]⟩) 16 Try.underlying69 info_str rfl _ _ _ _ rfl hown2 _ 1 1 _ rfl _ (sl_one w2 9 (.string ⟨ts[k].text.toArray⟩)) (fun _ _ => rfl) (by unfold maxLen; omega) (by omega) (by simp; omega) ?_; intro A' cap w3 hown3 hg3' hat3)
      go_roundw
      case rel =>
        refine ⟨k + 1, by omega, by go_num, ?_, gr_own (gr_trans hgw hg3) hown2 hg3'⟩
        rw [hsn.out, List.map_append]
        exact hown3
      case measure => simp [intOf]; omega
    · obtain rfl : k = ts.length := by omega
      go_wp2_with fail
      go_ret
      rw [List.take_length] at hown
      exact ⟨_, rfl, hown, hgw⟩
theorem map_bytesK : ∀ xs : List (List UInt8), (xs.map fun l => (⟨l.toArray⟩ : ByteArray)).map (·.data.toList) = xs
  | [] => rfl
  | x :: r => by rw [List.map_cons, List.map_cons, map_bytesK r]
theorem joinH_any (hand : List Ty) (v : Value) (base : Nat) (w : World) (hS : HandS hand) (hl : hand.length ≤ 1000) (hown : w.ownsRow base 9 1 v hand.length (hand.map fun t => strv t.text)) :
    Calls Try.prog 28 #[v, .string ⟨#[44]⟩] w fun e w' => e = .returned (.string ⟨(Lib.join (hand.map Ty.text) [44]).toArray⟩) ∧ w.grownBy w' none := by
  obtain ⟨A, c, rfl, hs⟩ := own_form hown
  have hj := join_hand hS
  by_cases h0 : hand = []
  · subst h0
    refine (Try.strings_Join_none A c ⟨#[44]⟩ w).mono ?_
    rintro e w' ⟨rfl, rfl⟩
    exact ⟨rfl, gr_refl _ _⟩
  · have hpos : 0 < hand.length := List.length_pos_iff.2 h0
    have hcap : hand.length ≤ c := by
      obtain ⟨_, ⟨e1, e2⟩ | ⟨g', cap, cur, e1, _, _, h1, _⟩⟩ := hown
      · omega
      · injection e1 with _ _ e3; omega
    obtain ⟨g, o, rfl, _, hcell⟩ := hs Al (fun _ _ => trivial) hpos
    have hmd := map_bytesK (hand.map Ty.text)
    have hJ := Try.strings_Join g o c ((hand.map Ty.text).map fun l => (⟨l.toArray⟩ : ByteArray)) ⟨#[44]⟩ w (fun j x hx => by
        rw [List.getElem?_map, List.getElem?_map] at hx
        cases hy : hand[j]? with
        | none => rw [hy] at hx; cases hx
        | some y =>
          rw [hy] at hx
          simp only [Option.map_some, Option.some.injEq] at hx
          subst hx
          have hjl := (List.getElem?_eq_some_iff.1 hy).1
          rw [hcell j (by omega)]
          simp [List.getD, hy, strv])
      (World.block_lt_of_cell? w ⟨g, o + 0, none⟩ (hcell 0 hpos)) (by simp; omega) (by simp; omega) (by
        rw [hmd]
        rw [show (⟨#[44]⟩ : ByteArray).data.toList = [44] from rfl]
        omega)
    rw [List.length_map, List.length_map, hmd, show (⟨#[44]⟩ : ByteArray).data.toList = [44] from rfl] at hJ
    refine hJ.mono ?_
    rintro e w' ⟨rfl, hb⟩
    exact ⟨rfl, gr_below hb⟩
theorem capped_any (n : Nat) (w : World) (h : n ≤ 1000000000) : Calls Try.prog 31 #[.int .i64 (n : Int)] w fun e w' => e = .returned (.int .i64 (n : Int)) ∧ w = w' := by
  have h2 : (n : Int) ≤ 1000000001 := by omega
  have h3 : ¬ (1000000001 : Int) < (n : Int) := by omega
  go_enter Try.func31, Try.ntmps31
  go_wp2_with fail
  go_ret
  exact ⟨ret_int (by omega), rfl⟩
end Go.Proofs.Ytlehnlfgjadleaa
