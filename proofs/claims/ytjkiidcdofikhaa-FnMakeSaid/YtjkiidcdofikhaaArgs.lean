/- Lists of texts: TypeArgs on both sides. -/
import Derived.Test.YtjkiidcdofikhaaTypeAt
import Derived.Test.YtjkiidcdofikhaaOwn
namespace Go.Proofs.Ytjkiidcdofikhaa
open Go.RowKit

set_option maxHeartbeats 1000000 in
theorem kindTexts_any (ts : List Ty) (A : Option Addr) (cp : Nat) (qs : Nat → Nat) (F : Nat → Prop) (w : World) (hb : ∀ t ∈ ts, t.atoms ≤ 1000000) (hn : ts.length ≤ 1000000)
    (hA : Sl w F A ts.length (fun i => .pointer (some ⟨qs i, 0, none⟩))) (hs : ∀ i u, ts[i]? = some u → KindP w F (qs i) u) :
    Calls Try.prog 42 #[.slice A ts.length cp] w fun e w' => ∃ v, e = .returned v ∧ w'.ownsRow w.heap.size 9 1 v ts.length (ts.map fun t => strv t.text) ∧ w.grownBy w' none := by
  have hsh := Lib.hid hs
  have hbh := Lib.hid hb
  clear hs hb
  go_enter Try.func42, Try.ntmps42
  go_wp2_with fail
  go_loopw [3, 8] (fun o i wr => ∃ (k : Nat) (_ : k ≤ ts.length), i = .int .i64 (k : Int) ∧ wr.ownsRow w.heap.size 9 1 o k ((ts.take k).map fun t => strv t.text) ∧ w.grownBy wr none) (fun _ i _ => ts.length - (intOf i).toNat)
  case atStart => exact ⟨0, Nat.zero_le _, rfl, own_nil _ _ _, gr_refl _ _⟩
  case round =>
    obtain ⟨k, hkl, rfl, hown, hgw⟩ := hrel
    obtain ⟨Ao, co, rfl, _⟩ := own_form hown
    have hsz := hgw.size
    by_cases hlt : k < ts.length
    · obtain ⟨g, o, rfl, _, hcell⟩ := (hA.grown0 hgw) (by omega)
      have hck := hcell k hlt
      have hkk : ts[k]? = some ts[k] := List.getElem?_eq_getElem hlt
      have hch := (hsh.out k _ hkk).grown0 hgw
      have hba := hbh.out ts[k] (List.getElem_mem hlt)
      have hsn := Lib.hid (Ty.take_snoc hkk)
      clear hcell hkk
      go_wp2_with fail
      refine (text_any ts[k].atoms ts[k] (qs k) _ wr (Nat.le_refl _) hba hch).mono ?_
      rintro e w2 ⟨rfl, hg2⟩
      have hg3 := gr_alloc hg2 (.cells #[.string ⟨ts[k].text.toArray⟩] 9)
      have hown2 := own_keep hown hg3
      have hsz2 := hg2.size
      go_wp2_with (at_builtin; refine wpList_app rfl _ _ 23 rfl w.heap.size 9 (.string ⟨#[]⟩) 16 Try.underlying23 info_str rfl _ _ _ _ rfl hown2 _ 1 1 _ rfl _ (sl_one w2 9 (.string ⟨ts[k].text.toArray⟩)) (fun _ _ => rfl) (by unfold maxLen; omega) (by omega) (by simp; omega) ?_; intro A' cap w3 hown3 hg3' hat3)
      go_roundw
      case rel =>
        refine ⟨k + 1, by omega, by go_num, ?_, gr_own (gr_trans hgw hg3) hown2 hg3'⟩
        rw [hsn.out, List.map_append]
        exact hown3
      case measure => simp [intOf]; omega
    · obtain rfl : k = ts.length := by omega
      go_wp2_with fail
      go_ret
      rw [List.take_length] at hown
      exact ⟨_, rfl, hown, hgw⟩
/-- The texts of the arguments of a text's type. -/
def argL (r : List UInt8) : List (List UInt8) := match Ty.read r with | none => [] | some t => t.args.map Ty.text

/-- What both TypeArgs give: a row of their own. -/
def ArgsPost (w w' : World) (r : List UInt8) (e : Ending) : Prop :=
  ∃ A cap, e = .returned (.tuple #[.slice A (argL r).length cap, .bool (Ty.read r).isSome]) ∧ w'.ownsRow w.heap.size 9 1 (.slice A (argL r).length cap) (argL r).length ((argL r).map strv)

set_option maxHeartbeats 400000 in
theorem typeArgs_any (r : List UInt8) (w : World) (hr : r.length ≤ 1099511627776) :
    Calls Try.prog 12 #[.string ⟨r.toArray⟩] w fun e w' => ArgsPost w w' r e ∧ w.grownBy w' none := by
  go_enter Try.func12, Try.ntmps12
  go_wp2_with fail
  refine (readKind_any r w hr).mono ?_
  rintro e w1 ⟨hg, hm1⟩
  cases hp : Ty.read r with
  | none =>
    rw [hp] at hm1
    subst hm1
    have hph := Lib.hid hp
    clear hp
    go_wp2_with fail
    go_ret2
    refine ⟨?_, hg⟩
    unfold ArgsPost argL
    rw [hph.out]
    exact ⟨_, _, rfl, own_nil _ _ _⟩
  | some t =>
    have ha := (Ty.read_some hp).2
    rw [hp] at hm1
    obtain ⟨q, rfl, hk⟩ := hm1
    have hph := Lib.hid hp
    clear hp
    obtain ⟨A, c, qs, hb, hS, hs⟩ := hk.open_
    have hc := hb.cell 0
    simp only [List.getElem?_toArray, List.getElem?_cons_zero] at hc
    have hla := t.length_args
    have hat := Lib.hid (fun u (h : u ∈ t.args) => Ty.atoms_of_args h)
    go_wp2_with fail
    refine (kindTexts_any t.args A c qs _ w1 (fun u hu => by have := hat.out u hu; omega) (by omega) hS hs).mono ?_
    rintro e w2 ⟨v, rfl, hown, hg2⟩
    obtain ⟨A2, c2, rfl, _⟩ := own_form hown
    go_wp2_with fail
    go_ret2
    refine ⟨?_, gr_trans hg hg2⟩
    unfold ArgsPost argL
    rw [hph.out]
    simp only [List.length_map, List.map_map]
    exact ⟨_, _, rfl, own_weak hown hg.size⟩

theorem argL_len (r : List UInt8) : (argL r).length ≤ 1000 := by
  unfold argL
  split
  · simp
  · rename_i t h
    have h1 := (Ty.read_some h).2
    have h2 := t.length_args
    simp only [List.length_map]
    omega
end Go.Proofs.Ytjkiidcdofikhaa
