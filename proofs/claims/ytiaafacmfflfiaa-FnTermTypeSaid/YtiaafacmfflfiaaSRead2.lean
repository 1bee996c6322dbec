/- The reference's reader of terms: sizes, texts, which trees are terms; TermSize. -/
import Derived.Test.YtiaafacmfflfiaaSRead
import Derived.Test.YtiaafacmfflfiaaKind2
import Derived.Deep.RegionWith
import Derived.Deep.RegionHeld3
namespace Go.Proofs.Ytiaafacmfflfiaa
open Go.RowKit

theorem l5Read_any (f : Nat) : SReadIH f := by
  induction f with
  | zero =>
    intro l i d w hl hi hd _
    exact l5Read_no 0 l i d w hl hi (.inl (by omega)) rfl
  | succ f ih =>
    intro l i d w hl hi hd hf
    by_cases hil : l.length ≤ i
    · refine l5Read_no _ l i d w hl hi (.inr hil) ?_
      rw [List.drop_eq_nil_of_le hil]
      rfl
    · cases hb : pre [40] (l.drop i) with
      | true => exact l5Read_list f ih l i d w hl (by omega) (by omega) (by omega) hb
      | false => exact l5Read_leaf f l i d w hl (by omega) (by omega) hb

/-- The parts lie there. -/
theorem SxV.part {w : World} {F : Nat → Prop} {A : Option Addr} {c : Nat} {x : Sx} (h : SxV w F A c x) {i : Nat} {u : Sx} (hu : x.parts[i]? = some u) :
    ∃ g o A' c', A = some ⟨g, o, none⟩ ∧ w.cell? ⟨g, o + 2 * i, none⟩ = some (.string ⟨u.atom.toArray⟩) ∧ w.cell? ⟨g, o + 2 * i + 1, none⟩ = some (.slice A' u.parts.length c') ∧ SxV w F A' c' u := by
  obtain ⟨As, cs, hA, hs⟩ := h.open_
  have hi : i < x.parts.length := (List.getElem?_eq_some_iff.1 hu).1
  obtain ⟨g, o, e, _, hc⟩ := hA (by omega)
  exact ⟨g, o, _, _, e, (hc i u hu).1, (hc i u hu).2, hs i u hu⟩
theorem emp_iff (a : List UInt8) : ((⟨a.toArray⟩ : ByteArray).toList.isEmpty) = a.isEmpty := by rw [ByteArray.toList_eq]
theorem sumS_take_le (l : List Sx) (k : Nat) : Sx.sumS (l.take k) ≤ Sx.sumS l := by
  induction l generalizing k with
  | nil => simp
  | cons a l ih =>
    cases k with
    | zero => simp [Sx.sumS]
    | succ k => have := ih k; simp only [List.take_succ_cons, Sx.sumS]; omega
theorem dep_pos' {x : Sx} : 1 ≤ x.dep := x.dep_pos

theorem size_pos {x : Sx} (h : x.ok) : 1 ≤ x.size := by have := size_count x h; omega
theorem sumS_len : ∀ l : List Sx, (∀ u ∈ l, u.ok) → l.length ≤ Sx.sumS l
  | [], _ => Nat.le_refl _
  | a :: l, h => by
    have := sumS_len l fun u hu => h u (by simp [hu])
    have := size_pos (h a (by simp))
    simp only [Sx.sumS, List.length_cons]
    omega
theorem parts_size {x : Sx} (h : x.ok) : x.parts.length ≤ x.size := by
  cases hl : x.isLi with
  | true => rw [Sx.size_parts x h hl]; exact sumS_len _ fun u hu => ok_parts h hu
  | false =>
    cases x with
    | lf a => exact Nat.zero_le _
    | nl => cases hl
    | sn a b => cases hl
theorem size_part {x u : Sx} (h : x.ok) (hu : u ∈ x.parts) : u.size ≤ x.size := by
  have hl : x.isLi = true := by cases x with | lf a => cases hu | nl => rfl | sn a b => rfl
  rw [Sx.size_parts x h hl]
  generalize x.parts = l at hu
  induction l with
  | nil => cases hu
  | cons a l ih =>
    simp only [Sx.sumS]
    rcases List.mem_cons.1 hu with rfl | hu
    · omega
    · have := ih hu; omega
set_option maxHeartbeats 1000000 in
theorem l5Size_any (m : Nat) : ∀ (x : Sx) (A : Option Addr) (c : Nat) (F : Nat → Prop) (w : World), x.dep ≤ m → x.ok → x.size ≤ 1000000 → SxV w F A c x →
    Calls Try.prog 18 #[.agg #[.string ⟨x.atom.toArray⟩, .slice A x.parts.length c]] w fun e w' => e = .returned (.int .i64 (x.size : Int)) ∧ w.grownBy w' none := by
  induction m with
  | zero => intro x A c F w h; have := x.dep_pos; omega
  | succ m ih =>
    intro x A c F w hm hok hsz hk
    have hpl := parts_size hok
    have ihh := Lib.hid ih
    clear ih
    have hg0 := World.grownBy_alloc w (.cells #[.string ⟨x.atom.toArray⟩, .slice A x.parts.length c] 37) none
    have hbx := Blk.new w 37 #[.string ⟨x.atom.toArray⟩, .slice A x.parts.length c]
    by_cases hat : x.atom = []
    · have hli := li_of_atom hok hat
      have hsp := Lib.hid (Sx.size_parts x hok hli)
      have hokp := Lib.hid (fun u => ok_parts (x := x) (u := u) hok)
      have hdp := Lib.hid (fun u (h : u ∈ x.parts) => Sx.dep_parts h)
      have hle := Lib.hid (sumS_take_le x.parts)
      have hkh := Lib.hid (fun (W : World) (hW : w.grownBy W none) => hk.grown0 hW)
      have hszp := Lib.hid (fun u (h : u ∈ x.parts) => size_part hok h)
      have hspb : Sx.sumS x.parts ≤ 1000000 := by have := hsp.out; omega
      rw [hat] at hg0 hbx ⊢
      clear hat hk hli
      go_enter Try.func18, Try.ntmps18
      go_wp2_with fail
      go_loopw [3, 4] (fun n i wr => ∃ k : Nat, k ≤ x.parts.length ∧ i = .int .i64 (k : Int) ∧ n = .int .i64 ((Sx.sumS (x.parts.take k) : Int)) ∧ (w.alloc (.cells #[.string ⟨#[]⟩, .slice A x.parts.length c] 37)).grownBy wr none) (fun _ i _ => x.parts.length - (intOf i).toNat)
      case atStart => exact ⟨0, Nat.zero_le _, rfl, rfl, gr_refl _ _⟩
      case round =>
        obtain ⟨wi, hwi⟩ : ∃ wo, wo = wr := ⟨_, rfl⟩
        subst hwi
        obtain ⟨k, hkl, rfl, rfl, hgw⟩ := hrel
        have hl1 := hle.out k
        have hbw := Blk.grown0 hbx hgw
        have b1 := hbw.cell 1
        have blt := hbw.lt
        simp only [List.getElem?_toArray, List.getElem?_cons_zero, List.getElem?_cons_succ] at b1
        by_cases hlt : k < x.parts.length
        · have hkk : x.parts[k]? = some x.parts[k] := List.getElem?_eq_getElem hlt
          obtain ⟨g, o, A', c', rfl, q0, q1, hch⟩ := (hkh.out wi (gr_trans hg0 hgw)).part hkk
          rw [Nat.mul_comm 2 k] at q0 q1
          have hmem := List.getElem_mem hlt
          have hl2 := hle.out (k + 1)
          have hsn := Ty.take_snoc hkk
          rw [hsn, Sx.sumS_snoc] at hl2
          have hsnh := Lib.hid hsn
          have hd1 := hdp.out _ hmem
          have hsz1 := hszp.out _ hmem
          have hC := Lib.hid (fun (W : World) (hW : wi.grownBy W none) => ihh.out x.parts[k] A' c' F W (by omega) (hokp.out _ hmem) (by omega) (hch.grown0 hW))
          generalize x.parts[k] = u at *
          clear hkk hsn hch hmem hd1
          go_wp2_with fail
          refine (hC.out _ (gr_refl _ _)).mono ?_
          rintro e w' ⟨rfl, hg2⟩
          go_wp2_with fail
          go_roundw
          case rel => exact ⟨k + 1, by omega, by go_num, by rw [hsnh.out, Sx.sumS_snoc]; go_num, gr_trans hgw hg2⟩
          case measure => simp [intOf]; omega
        · go_wp2_with fail
          go_ret
          refine ⟨ret_int ?_, gr_trans hg0 hgw⟩
          rw [hsp.out, List.take_of_length_le (by omega)]
    · have hs1 : x.size = 1 := by
        cases x with
        | lf a => rfl
        | nl => exact absurd rfl hat
        | sn a b => exact absurd rfl hat
      have he : ((⟨x.atom.toArray⟩ : ByteArray).toList.isEmpty) = false := by rw [emp_iff]; cases h : x.atom with | nil => exact absurd h hat | cons c r => rfl
      have he2 : x.atom.isEmpty = false := by cases h : x.atom with | nil => exact absurd h hat | cons c r => rfl
      have hs1h := Lib.hid hs1
      clear hs1 hat
      go_enter Try.func18, Try.ntmps18
      go_wp2_with fail
      go_ret
      exact ⟨by rw [hs1h.out]; rfl, hg0⟩

/-- The texts of parts, a space between two. -/
def jtext : List Sx → List UInt8
  | [] => []
  | [a] => a.text
  | a :: l => a.text ++ 32 :: jtext l
theorem jtext_snoc (l : List Sx) (a : Sx) : jtext (l ++ [a]) = (if l = [] then [] else jtext l ++ [32]) ++ a.text := by
  induction l with
  | nil => rfl
  | cons y l ih =>
    cases l with
    | nil => simp [jtext]
    | cons z l =>
      show y.text ++ 32 :: jtext (z :: l ++ [a]) = _
      rw [ih]
      simp [jtext]
theorem body_jtext {x : Sx} (h : x.ok) (hl : x.isLi = true) : x.body = jtext x.parts := by
  induction x with
  | lf a => cases hl
  | nl => rfl
  | sn l y ihl _ =>
    cases l with
    | lf a => cases h.2
    | nl =>
      show [] ++ y.wrap y.body = jtext ([] ++ [y])
      rfl
    | sn a b =>
      have := ihl h.2 rfl
      show (Sx.sn a b).body ++ [32] ++ y.wrap y.body = jtext ((Sx.sn a b).parts ++ [y])
      rw [jtext_snoc, if_neg (by simp [Sx.parts]), this]
      rfl
theorem jtext_take_le (l : List Sx) : ∀ k, (jtext (l.take k)).length ≤ (jtext l).length := by
  induction l with
  | nil => intro k; simp
  | cons a l ih =>
    intro k
    cases k with
    | zero => simp [jtext]
    | succ k =>
      cases l with
      | nil => simp
      | cons b l =>
        cases k with
        | zero => simp [jtext]
        | succ k =>
          have := ih (k + 1)
          simp only [List.take_succ_cons] at this ⊢
          show (a.text ++ 32 :: jtext (b :: l.take k)).length ≤ (a.text ++ 32 :: jtext (b :: l)).length
          simp only [List.length_append, List.length_cons]
          omega
set_option maxHeartbeats 1000000 in
theorem l5Text_any (m : Nat) : ∀ (x : Sx) (A : Option Addr) (c : Nat) (F : Nat → Prop) (w : World), x.dep ≤ m → x.ok → x.text.length ≤ 100000 → SxV w F A c x →
    Calls Try.prog 45 #[.agg #[.string ⟨x.atom.toArray⟩, .slice A x.parts.length c]] w fun e w' => e = .returned (.string ⟨x.text.toArray⟩) ∧ w.grownBy w' none := by
  induction m with
  | zero => intro x A c F w h; have := x.dep_pos; omega
  | succ m ih =>
    intro x A c F w hm hok hsz hk
    have ihh := Lib.hid ih
    clear ih
    have hg0 := World.grownBy_alloc w (.cells #[.string ⟨x.atom.toArray⟩, .slice A x.parts.length c] 37) none
    have hbx := Blk.new w 37 #[.string ⟨x.atom.toArray⟩, .slice A x.parts.length c]
    by_cases hat : x.atom = []
    · have hli := li_of_atom hok hat
      have htx := Lib.hid (show x.text = 40 :: (jtext x.parts ++ [41]) by rw [text_li hli, body_jtext hok hli])
      have hokp := Lib.hid (fun u => ok_parts (x := x) (u := u) hok)
      have hdp := Lib.hid (fun u (h : u ∈ x.parts) => Sx.dep_parts h)
      have hkh := Lib.hid (fun (W : World) (hW : w.grownBy W none) => hk.grown0 hW)
      rw [hat] at hg0 hbx ⊢
      rw [htx.out] at hsz ⊢
      have hjle := Lib.hid (jtext_take_le x.parts)
      have hjl : (jtext x.parts).length ≤ 100000 := by simp at hsz; omega
      have hpl : x.parts.length ≤ 100000 := by
        have h1 := size_count x hok
        have h2 := parts_size hok
        have h3 : x.body = jtext x.parts := body_jtext hok hli
        have h4 := List.count_le_length (a := (32 : UInt8)) (l := x.body)
        rw [h3] at h1 h4
        simp at hsz
        omega
      clear hat hk hli hsz
      go_enter Try.func45, Try.ntmps45
      go_wp2_with fail
      go_loopw [3, 4] (fun o i wr => ∃ k : Nat, k ≤ x.parts.length ∧ i = .int .i64 (k : Int) ∧ o = .string ⟨(40 :: jtext (x.parts.take k)).toArray⟩ ∧ (w.alloc (.cells #[.string ⟨#[]⟩, .slice A x.parts.length c] 37)).grownBy wr none) (fun _ i _ => x.parts.length - (intOf i).toNat)
      case atStart => exact ⟨0, Nat.zero_le _, rfl, rfl, gr_refl _ _⟩
      case round =>
        obtain ⟨wi, hwi⟩ : ∃ wo, wo = wr := ⟨_, rfl⟩
        subst hwi
        obtain ⟨k, hkl, rfl, rfl, hgw⟩ := hrel
        have hbw := Blk.grown0 hbx hgw
        have b1 := hbw.cell 1
        have blt := hbw.lt
        simp only [List.getElem?_toArray, List.getElem?_cons_zero, List.getElem?_cons_succ] at b1
        by_cases hlt : k < x.parts.length
        · have hkk : x.parts[k]? = some x.parts[k] := List.getElem?_eq_getElem hlt
          obtain ⟨g, o, A', c', rfl, q0, q1, hch⟩ := (hkh.out wi (gr_trans hg0 hgw)).part hkk
          rw [Nat.mul_comm 2 k] at q0 q1
          have hmem := List.getElem_mem hlt
          have hsn := Ty.take_snoc hkk
          have hd1 := hdp.out _ hmem
          have hj2 := hjle.out (k + 1)
          have hj1 := hjle.out k
          have eS : (⟨(40 :: jtext (x.parts.take (k + 1))).toArray⟩ : ByteArray) = if k = 0 then (⟨(40 :: jtext (x.parts.take k)).toArray⟩ : ByteArray) ++ ⟨x.parts[k].text.toArray⟩ else (⟨(40 :: jtext (x.parts.take k)).toArray⟩ : ByteArray) ++ ⟨#[32]⟩ ++ ⟨x.parts[k].text.toArray⟩ := by
            rw [hsn, jtext_snoc, show (⟨#[32]⟩ : ByteArray) = ⟨([32] : List UInt8).toArray⟩ from rfl, ba_app, ba_app, ba_app]
            by_cases h0 : k = 0
            · subst h0; simp
              rfl
            · rw [if_neg h0, if_neg (by intro e; have := congrArg List.length e; rw [List.length_take, List.length_nil] at this; omega)]
              simp
          have hut : x.parts[k].text.length ≤ 100000 := by
            rw [hsn, jtext_snoc] at hj2
            simp only [List.length_append] at hj2
            omega
          have hC := Lib.hid (fun (W : World) (hW : wi.grownBy W none) => ihh.out x.parts[k] A' c' F W (by omega) (hokp.out _ hmem) hut (hch.grown0 hW))
          have hlO : (40 :: jtext (x.parts.take k)).length ≤ 100001 := by simp; omega
          have eSh := Lib.hid eS
          generalize hO1e : 40 :: jtext (x.parts.take (k + 1)) = O1 at *
          have hO1h := Lib.hid hO1e
          clear hO1e
          generalize 40 :: jtext (x.parts.take k) = O at *
          generalize x.parts[k] = u at *
          clear hkk hsn hch hmem hd1 eS hj1 hj2
          by_cases h0 : k = 0
          · have hk0 : ¬ (0 : Int) < (k : Int) := by omega
            have eSk := Lib.hid (eSh.out.trans (if_pos h0))
            clear h0
            go_wp2_with fail
            refine (hC.out _ (gr_refl _ _)).mono ?_
            rintro e w' ⟨rfl, hg2⟩
            go_wp2_with fail
            rw [← eSk.out]
            go_roundw
            case rel => exact ⟨k + 1, by omega, by go_num, by rw [hO1h.out], gr_trans hgw hg2⟩
            case measure => simp [intOf]; omega
          · have hk0 : (0 : Int) < (k : Int) := by omega
            have eSk := Lib.hid (eSh.out.trans (if_neg h0))
            clear h0
            go_wp2_with fail
            refine (hC.out _ (gr_refl _ _)).mono ?_
            rintro e w' ⟨rfl, hg2⟩
            go_wp2_with fail
            rw [← eSk.out]
            go_roundw
            case rel => exact ⟨k + 1, by omega, by go_num, by rw [hO1h.out], gr_trans hgw hg2⟩
            case measure => simp [intOf]; omega
        · have hke : k = x.parts.length := by omega
          have hjt : jtext (x.parts.take k) = jtext x.parts := by rw [List.take_of_length_le (by omega)]
          rw [hjt]
          have eE := Lib.hid (ba_app (40 :: jtext x.parts) [41])
          have hlO : (40 :: jtext x.parts).length ≤ 100001 := by simp; omega
          clear hjt hke
          go_wp2_with fail
          go_ret
          exact ⟨congrArg (fun s => Ending.returned (.string s)) eE.out, gr_trans hg0 hgw⟩
    · have hs1 : x.text = x.atom := at_of_atom rfl hat
      have he : ((⟨x.atom.toArray⟩ : ByteArray).toList.isEmpty) = false := by rw [emp_iff]; cases h : x.atom with | nil => exact absurd h hat | cons c r => rfl
      have he2 : x.atom.isEmpty = false := by cases h : x.atom with | nil => exact absurd h hat | cons c r => rfl
      rw [hs1]
      clear hs1 hat
      go_enter Try.func45, Try.ntmps45
      go_wp2_with fail
      go_ret
      exact ⟨rfl, hg0⟩
end Go.Proofs.Ytiaafacmfflfiaa
