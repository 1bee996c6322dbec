/- Lists of texts in the statements' own helpers. -/
import Derived.Test.YtegidbdgneecmaaDoorOwn
import Derived.Test.YtegidbdgneecmaaDoorKind2
import Derived.Deep.QuietTactic
import Derived.BigQuiet
import Derived.Deep.RegionWith
namespace Go.Proofs.YtegidbdgneecmaaDoor
open Go.RowKit

/-- The values of a list of texts. -/
def sv (xs : List (List UInt8)) (i : Nat) : Value := strv (xs.getD i [])
theorem sv_lt (xs : List (List UInt8)) {i : Nat} (h : i < xs.length) : sv xs i = .string ⟨(xs[i]).toArray⟩ := by simp [sv, strv, List.getD, h]

/-- A row of its own, as a list of texts. -/
theorem own_sl {w : World} {base : Nat} {e : TypeId} {A : Option Addr} {n cap : Nat} {xs : List (List UInt8)} (h : w.ownsRow base e 1 (.slice A n cap) n (xs.map strv)) : Sl w (Fr base) A xs.length (sv xs) ∧ n = xs.length := by
  have hn : n = xs.length := by have := h.1; simpa using this.symm
  obtain ⟨A', c', e1, hS⟩ := own_form h
  cases e1
  subst hn
  refine ⟨?_, rfl⟩
  intro h0
  obtain ⟨g, o, e2, hg, hc⟩ := hS (Fr base) (fun g hg => own_base h hg) h0
  refine ⟨g, o, e2, hg, fun i hi => ?_⟩
  rw [hc i hi]
  simp [sv, List.getD, hi]

set_option maxHeartbeats 1000000 in
theorem eqStringS_any (xs ys : List (List UInt8)) (A B : Option Addr) (cA cB : Nat) (F G : Nat → Prop) (w : World) (hA : Sl w F A xs.length (sv xs)) (hB : Sl w G B ys.length (sv ys)) (hx : xs.length ≤ 1099511627776) (hy : ys.length ≤ 1099511627776) :
    Calls Tryd.prog 23 #[.slice A xs.length cA, .slice B ys.length cB] w fun e w' => e = .returned (.bool (xs == ys)) ∧ w.grownBy w' none := by
  by_cases hl : xs.length = ys.length
  · go_enter Tryd.func23, Tryd.ntmps23
    go_wp2_with fail
    rw [hl]
    go_loopw [5] (fun i wr => ∃ (k : Nat) (_ : k ≤ ys.length), i = .int .i64 (k : Int) ∧ xs.take k = ys.take k ∧ w.grownBy wr none) (fun i _ => ys.length - (intOf i).toNat)
    case atStart => exact ⟨0, Nat.zero_le _, rfl, rfl, gr_refl _ _⟩
    case round =>
      obtain ⟨k, hkl, rfl, htk, hgw⟩ := hrel
      have htkh := Lib.hid htk
      clear htk
      by_cases hlt : k < ys.length
      · have hlt2 : k < xs.length := by omega
        obtain ⟨g, o, rfl, _, hcell⟩ := (hA.grown0 hgw) (by omega)
        obtain ⟨g2, o2, rfl, _, hcell2⟩ := (hB.grown0 hgw) (by omega)
        have c1 := hcell k hlt2
        have c2 := hcell2 k hlt
        rw [sv_lt xs hlt2] at c1
        rw [sv_lt ys hlt] at c2
        clear hcell hcell2
        cases he : (xs[k] == ys[k]) with
        | true =>
          have heh := Lib.hid he
          go_wp2_with fail
          go_quiet (fail)
          clear he
          go_wp2_with fail
          go_roundw
          case rel => exact ⟨k + 1, by omega, by go_num, by rw [List.take_succ_eq_append_getElem hlt2, List.take_succ_eq_append_getElem hlt, htkh.out, eq_of_beq heh.out], gr_drewN hgw _⟩
          case measure => simp [intOf]; omega
        | false =>
          have heh := Lib.hid (show (xs == ys) = false by
            rw [beq_eq_false_iff_ne] at he ⊢
            rintro rfl
            exact he rfl)
          go_wp2_with fail
          go_quiet (fail)
          go_wp2_with fail
          go_ret
          exact ⟨by rw [heh.out]; rfl, gr_drewN hgw _⟩
      · obtain rfl : k = ys.length := by omega
        have hR := Lib.hid (show (xs == ys) = true by
          have h := htkh.out
          rw [List.take_length, List.take_of_length_le (by omega)] at h
          rw [h]; simp)
        go_wp2_with fail
        go_ret
        exact ⟨by rw [hR.out]; rfl, hgw⟩
  · have hR := Lib.hid (show (xs == ys) = false by
      rw [beq_eq_false_iff_ne]
      rintro rfl
      exact hl rfl)
    go_enter Tryd.func23, Tryd.ntmps23
    go_wp2_with fail
    go_ret
    exact ⟨by rw [hR.out]; rfl, gr_refl _ _⟩

/-- The last digit's sign. -/
def dg (k : Nat) : UInt8 := UInt8.ofNat (48 + k % 10)
theorem dg_val (k : Nat) : ((dg k).toNat : Int) = 48 + (k : Int) % 10 := by
  unfold dg
  simp only [UInt8.toNat_ofNat']
  omega
/-- The digits of a number, none for 0. -/
def dig (k : Nat) : List UInt8 := if _h : k = 0 then [] else dig (k / 10) ++ [dg k]
theorem dig_length (k : Nat) : (dig k).length ≤ k := by
  induction k using Nat.strongRecOn with
  | _ k ih =>
    unfold dig
    split
    · simp
    · have := ih (k / 10) (by omega)
      simp only [List.length_append, List.length_cons, List.length_nil]
      omega
theorem dig_pos {k : Nat} (h : 0 < k) : dig k = dig (k / 10) ++ [dg k] := by
  rw [dig, dif_neg (by omega)]
/-- The text of a mark. -/
def mk (k : Nat) : List UInt8 := 109 :: dig k

theorem conv1 (W : World) (x : Int) (c : UInt8) (hx : (c.toNat : Int) = x) :
    (convert 79 9 (.slice (some ⟨W.heap.size, 0, none⟩) 1 1)).run Tryd.prog (W.alloc (.cells #[.int .u8 x] 5)) = .ok (.string ⟨#[c]⟩) (W.alloc (.cells #[.int .u8 x] 5)) := by
  subst hx
  have h1 := run_convert_bytes_back (P := Tryd.prog) (W.alloc (.cells #[.int .u8 (c.toNat : Int)] 5)) 79 9 5 ⟨W.heap.size, 0, none⟩ 1 [c] Tryd.underlying79 Tryd.underlying5 Tryd.underlying9 (by
    intro j hj
    obtain rfl : j = 0 := by simpa using hj
    rw [Addr.add_lit, (Blk.new W 5 #[.int .u8 (c.toNat : Int)]).cell]
    rfl)
  exact h1

set_option maxHeartbeats 1000000 in
theorem markText_any (k : Nat) (w : World) (h1 : 1 ≤ k) (h2 : k ≤ 1099511627776) :
    Calls Tryd.prog 48 #[.int .i64 (k : Int)] w fun e w' => e = .returned (.string ⟨(mk k).toArray⟩) ∧ w.grownBy w' none := by
  have hk0 : ¬k = 0 := by omega
  go_enter Tryd.func48, Tryd.ntmps48
  go_wp2_with fail
  go_loopw [0, 3] (fun c o wr => ∃ (j : Nat) (out : List UInt8), c = .int .i64 (j : Int) ∧ o = .string ⟨out.toArray⟩ ∧ j ≤ k ∧ dig k = dig j ++ out ∧ w.grownBy wr none) (fun c _ _ => (intOf c).toNat)
  case atStart => exact ⟨k, [], rfl, rfl, Nat.le_refl _, by simp, gr_refl _ _⟩
  case round =>
    obtain ⟨j, out, rfl, rfl, hjk, hd, hgw⟩ := hrel
    have hol : out.length ≤ 1099511627776 := by
      have := dig_length k
      rw [hd, List.length_append] at this
      omega
    have hdh := Lib.hid hd
    clear hd
    by_cases hj : 0 < j
    · have kc := conv1 wr (48 + (j : Int) % 10) (dg j) (dg_val j)
      have eS : (⟨#[dg j]⟩ : ByteArray) ++ ⟨out.toArray⟩ = ⟨(dg j :: out).toArray⟩ := by
        rw [show (⟨#[dg j]⟩ : ByteArray) = ⟨([dg j] : List UInt8).toArray⟩ from rfl, ba_app]; rfl
      have eSh := Lib.hid eS
      have hdp := Lib.hid (dig_pos hj)
      clear eS
      go_wp2_with fail
      rw [eSh.out]
      go_roundw
      case rel => exact ⟨j / 10, dg j :: out, by go_num, rfl, by omega, by rw [hdh.out, hdp.out]; simp, gr_alloc hgw _⟩
      case measure => simp [intOf]; omega
    · obtain rfl : j = 0 := by omega
      have eS : (⟨#[109]⟩ : ByteArray) ++ ⟨out.toArray⟩ = ⟨(109 :: out).toArray⟩ := by
        rw [show (⟨#[109]⟩ : ByteArray) = ⟨([109] : List UInt8).toArray⟩ from rfl, ba_app]; rfl
      have eSh := Lib.hid eS
      clear eS
      go_wp2_with fail
      rw [eSh.out]
      go_ret
      refine ⟨?_, hgw⟩
      have h := hdh.out
      rw [show dig 0 = [] by rw [dig]; simp, List.nil_append] at h
      unfold mk
      rw [h]
      rfl

/-- What is known of a slice of texts that came in. -/
def IsStrs (w : World) (A : Option Addr) (xs : List (List UInt8)) : Prop := Sl w Al A xs.length (sv xs) ∧ xs.length ≤ maxLen ∧ ∀ x ∈ xs, x.length ≤ maxLen
theorem isStrs_nil (w : World) : IsStrs w none [] := ⟨Sl.nil_, by unfold maxLen; simp, by simp⟩
theorem isStrs_row {w : World} {a : Addr} {l c : Nat} {ss : List ByteArray} (hl : l ≤ ss.length) (hc : ∀ i, i < ss.length → w.cell? (a.add i) = some (.string (ss.getD i ByteArray.empty))) (hm : c ≤ maxLen) (hsz : ∀ s ∈ ss, s.size ≤ maxLen) (_hlc : l ≤ c) :
    ((ss.take l).map fun s => s.data.toList).length = l ∧ IsStrs w (some a) ((ss.take l).map fun s => s.data.toList) := by
  have hlen : ((ss.take l).map fun s => s.data.toList).length = l := by simp; omega
  refine ⟨hlen, ?_, by omega, ?_⟩
  · rw [hlen]
    intro hn
    have h0 := hc 0 (by omega)
    obtain ⟨g, o, s⟩ := a
    have hs : s = none := by
      cases s with
      | none => rfl
      | some s =>
        simp only [World.cell?, Addr.add, if_true] at h0
        split at h0
        · simp at h0
        · cases h0
    subst hs
    refine ⟨g, o, rfl, trivial, fun i hi => ?_⟩
    have h1 := hc i (by omega)
    rw [Addr.add_lit] at h1
    rw [h1, sv_lt _ (by omega)]
    have h2 : i < ss.length := by omega
    simp [List.getD, h2]
  · intro x hx
    obtain ⟨s, hs, rfl⟩ := List.mem_map.1 hx
    have := hsz s (List.mem_of_mem_take hs)
    show s.data.toList.length ≤ maxLen
    rw [Array.length_toList]
    exact this

/-! ### lists that are written -/
theorem own_blk {w : World} {base : Nat} {e : TypeId} {A : Option Addr} {n cap : Nat} {xs : List Value} (h : w.ownsRow base e 1 (.slice A n cap) n xs) (h0 : 0 < n) :
    ∃ g cur, A = some ⟨g, 0, none⟩ ∧ Blk w g e cur ∧ n ≤ cur.size ∧ base ≤ g := by
  obtain ⟨hl, ⟨_, rfl⟩ | ⟨g, cap', cur, e1, hb, hg, hn, hm, hs, ht⟩⟩ := h
  · omega
  · cases e1
    exact ⟨g, cur, rfl, hg, by omega, hb⟩

theorem own_set {w : World} {base : Nat} {e : TypeId} {g n cap : Nat} {xs : List Value} (h : w.ownsRow base e 1 (.slice (some ⟨g, 0, none⟩) n cap) n xs) (i : Nat) (u : Value) :
    (w.setCell ⟨g, i, none⟩ u).ownsRow base e 1 (.slice (some ⟨g, 0, none⟩) n cap) n (xs.set i u) := by
  obtain ⟨hl, ⟨e1, _⟩ | ⟨g', cap', cur, e1, hb, hg, hn, hm, hs, ht⟩⟩ := h
  · cases e1
  · cases e1
    refine ⟨by simpa using hl, .inr ⟨g, cap, cur.setIfInBounds i u, rfl, hb, Blk.set hg i u, hn, hm, by simpa using hs, ?_⟩⟩
    rw [Array.toList_setIfInBounds, List.take_set, ht]

theorem take_set_succ {α : Type} (l : List α) (i : Nat) (u : α) (h : i < l.length) : (l.set i u).take (i + 1) = l.take i ++ [u] := by
  rw [List.take_succ_eq_append_getElem (by simpa using h), List.take_set_of_le (Nat.le_refl _)]
  simp

/-- A row of one's own stays while another block is written. -/
theorem own_keep2 {w w' : World} {base : Nat} {e : TypeId} {v : Value} {n : Nat} {xs : List Value} {x : Option Nat} (h : w.ownsRow base e 1 v n xs) (hg : w.grownBy w' x) (hx : ∀ g, v.ownBlock = some g → g < w.heap.size → some g ≠ x) : w'.ownsRow base e 1 v n xs := by
  obtain ⟨hl, ⟨rfl, rfl⟩ | ⟨g, cap, cur, rfl, hb, hr, h1, h2, h3, h4⟩⟩ := h
  · exact ⟨hl, .inl ⟨rfl, rfl⟩⟩
  · have hlt := (Array.getElem?_eq_some_iff.1 hr).1
    exact ⟨hl, .inr ⟨g, cap, cur, rfl, hb, (hg.block g hlt (hx g rfl hlt)).trans hr, h1, h2, h3, h4⟩⟩

set_option maxHeartbeats 1000000 in
theorem toStringS_any (xs : List (List UInt8)) (A : Option Addr) (cA : Nat) (F : Nat → Prop) (w : World) (hA : Sl w F A xs.length (sv xs)) (hx : xs.length ≤ 1099511627776) :
    Calls Tryd.prog 18 #[.slice A xs.length cA] w fun e w' => ∃ B c, e = .returned (.slice B xs.length c) ∧ w'.ownsRow w.heap.size 9 1 (.slice B xs.length c) xs.length (xs.map strv) ∧ w.grownBy w' none := by
  obtain ⟨i0, hi, hz, h1s, hb⟩ := info_parts info_str
  have hxh := Lib.hid hi
  clear hi
  go_enter Tryd.func18, Tryd.ntmps18
  go_wp2_with (at_make; refine wpList_make_full _ rfl _ _ 22 rfl w.heap.size 9 i0 (.string ⟨#[]⟩) 1 Tryd.underlying22 hxh.out hz h1s .i64 .i64 _ _ xs.length rfl rfl (by go_num) (by go_num) (by rw [hb]; omega) (by unfold maxLen; omega) (Nat.le_refl _) ?_; intro w1 hown hg1)
  go_loopw [4] (fun i wr => ∃ (k : Nat) (vs : List Value), k ≤ xs.length ∧ i = .int .i64 (k : Int) ∧ wr.ownsRow w.heap.size 9 1 (.slice (some ⟨w.heap.size, 0, none⟩) xs.length xs.length) xs.length vs ∧ vs.take k = (xs.take k).map strv ∧ w.grownBy wr none) (fun i _ => xs.length - (intOf i).toNat)
  case atStart => exact ⟨0, _, Nat.zero_le _, rfl, hown, rfl, hg1⟩
  case round =>
    obtain ⟨k, vs, hkl, rfl, hownk, htk, hgw⟩ := hrel
    have hvl : vs.length = xs.length := by have := hownk.1; omega
    have htkh := Lib.hid htk
    clear htk
    by_cases hlt : k < xs.length
    · obtain ⟨g, o, rfl, _, hcell⟩ := (hA.grown0 hgw) (by omega)
      have c1 := hcell k hlt
      rw [sv_lt xs hlt] at c1
      obtain ⟨g2, cur, e1, hblk, hn, _⟩ := own_blk hownk (by omega)
      cases e1
      have c2 := hblk.cell k
      rw [Array.getElem?_eq_getElem (by omega)] at c2
      have f2 := hblk.free k
      have hfin := Lib.hid (own_set hownk k (.string ⟨(xs[k]).toArray⟩))
      have hgf := Lib.hid (gr_set hgw (p := ⟨w.heap.size, k, none⟩) (.inr (Nat.le_refl _)) (.string ⟨(xs[k]).toArray⟩))
      have htf := Lib.hid (take_set_succ vs k (.string ⟨(xs[k]).toArray⟩) (by omega))
      clear hcell hblk
      go_wp2_with fail
      go_roundw
      case rel => exact ⟨k + 1, _, by omega, by go_num, hfin.out, by rw [htf.out, htkh.out, List.take_succ_eq_append_getElem hlt, List.map_append]; rfl, hgf.out⟩
      case measure => simp [intOf]; omega
    · obtain rfl : k = xs.length := by omega
      have hv : vs = xs.map strv := by
        have h := htkh.out
        rw [← hvl, List.take_length, List.take_of_length_le (by omega)] at h
        exact h
      subst hv
      go_wp2_with fail
      go_ret
      exact ⟨_, _, rfl, hownk, hgw⟩

/-- Nothing longer than 1 << 20. -/
def Small (xs : List (List UInt8)) : Prop := xs.length ≤ 1048576 ∧ ∀ x ∈ xs, x.length ≤ 1048576
set_option maxHeartbeats 1000000 in
theorem szStringS_le (xs : List (List UInt8)) (A : Option Addr) (cA : Nat) (F : Nat → Prop) (w : World) (hA : Sl w F A xs.length (sv xs)) (hx : xs.length ≤ 9223372036854775807) (hlen : ∀ x ∈ xs, x.length ≤ 9223372036854775807) :
    Calls Tryd.prog 13 #[.slice A xs.length cA, .int .i64 1048576] w fun e w' => ∃ r : Int, e = .returned (.int .i64 r) ∧ (0 ≤ r → Small xs) ∧ r ≤ 1048576 ∧ w.grownBy w' none := by
  have hlenh := Lib.hid hlen
  clear hlen
  by_cases hxl : xs.length ≤ 1048576
  · go_enter Tryd.func13, Tryd.ntmps13
    go_wp2_with fail
    go_loopw [1, 5] (fun c i wr => ∃ (k : Nat) (r : Int), k ≤ xs.length ∧ i = .int .i64 (k : Int) ∧ c = .int .i64 r ∧ 0 ≤ r ∧ r ≤ 1048576 ∧ (∀ x ∈ xs.take k, x.length ≤ 1048576) ∧ w.grownBy wr none) (fun _ i _ => xs.length - (intOf i).toNat)
    case atStart => exact ⟨0, _, Nat.zero_le _, rfl, rfl, by omega, by omega, by simp, gr_refl _ _⟩
    case round =>
      obtain ⟨k, r, hkl, rfl, rfl, hr0, hr1, hall, hgw⟩ := hrel
      have hallh := Lib.hid hall
      clear hall
      by_cases hlt : k < xs.length
      · obtain ⟨g, o, rfl, _, hcell⟩ := (hA.grown0 hgw) (by omega)
        have c1 := hcell k hlt
        rw [sv_lt xs hlt] at c1
        have hl1 := hlenh.out xs[k] (List.getElem_mem hlt)
        clear hcell
        by_cases hle : ((xs[k]).length : Int) ≤ r
        · go_wp2_with fail
          go_roundw
          case rel =>
            refine ⟨k + 1, _, by omega, by go_num, rfl, by omega, by omega, ?_, hgw⟩
            intro x hx
            rw [List.take_succ_eq_append_getElem hlt] at hx
            rcases List.mem_append.1 hx with h | h
            · exact hallh.out x h
            · obtain rfl : x = xs[k] := by simpa using h
              omega
          case measure => simp [intOf]; omega
        · go_wp2_with fail
          go_ret
          exact ⟨_, rfl, fun h => absurd h (by omega), by omega, hgw⟩
      · obtain rfl : k = xs.length := by omega
        go_wp2_with fail
        go_ret
        have h := hallh.out
        rw [List.take_length] at h
        exact ⟨_, rfl, fun _ => ⟨hxl, h⟩, by omega, hgw⟩
  · go_enter Tryd.func13, Tryd.ntmps13
    go_wp2_with fail
    go_ret
    exact ⟨_, rfl, fun h => absurd h (by omega), by omega, gr_refl _ _⟩
theorem szStringS_any (xs : List (List UInt8)) (A : Option Addr) (cA : Nat) (F : Nat → Prop) (w : World) (hA : Sl w F A xs.length (sv xs)) (hx : xs.length ≤ 9223372036854775807) (hlen : ∀ x ∈ xs, x.length ≤ 9223372036854775807) :
    Calls Tryd.prog 13 #[.slice A xs.length cA, .int .i64 1048576] w fun e w' => ∃ r : Int, e = .returned (.int .i64 r) ∧ (0 ≤ r → Small xs) ∧ w.grownBy w' none :=
  (szStringS_le xs A cA F w hA hx hlen).mono fun _ _ ⟨r, h1, h2, _, h4⟩ => ⟨r, h1, h2, h4⟩

/-- Marks k, k + 1, .. -/
def marks (k n : Nat) : List (List UInt8) := (List.range n).map fun i => mk (k + i)
theorem marks_length (k n : Nat) : (marks k n).length = n := by simp [marks]
theorem marks_get (k n : Nat) {i : Nat} (h : i < (marks k n).length) : (marks k n)[i] = mk (k + i) := by simp [marks]
set_option maxHeartbeats 1000000 in
theorem markStringS_any (base n cap k : Nat) (A : Option Addr) (vs : List Value) (w : World) (hown : w.ownsRow base 9 1 (.slice A n cap) n vs) (hn : n ≤ 1000000000) (hk1 : 1 ≤ k) (hk2 : k ≤ 1000000000) :
    Calls Tryd.prog 25 #[.slice A n cap, .int .i64 (k : Int)] w fun e w' => e = .returned (.int .i64 ((k + n : Nat) : Int)) ∧ w'.ownsRow base 9 1 (.slice A n cap) n ((marks k n).map strv) ∧ w.grownBy w' (Value.slice A n cap).ownBlock := by
  go_enter Tryd.func25, Tryd.ntmps25
  go_wp2_with fail
  go_loopw [1, 5] (fun c i wr => ∃ (j : Nat) (us : List Value), j ≤ n ∧ i = .int .i64 (j : Int) ∧ c = .int .i64 ((k + j : Nat) : Int) ∧ wr.ownsRow base 9 1 (.slice A n cap) n us ∧ us.take j = (marks k j).map strv ∧ w.grownBy wr (Value.slice A n cap).ownBlock) (fun _ i _ => n - (intOf i).toNat)
  case atStart => exact ⟨0, _, Nat.zero_le _, rfl, rfl, hown, rfl, gr_refl _ _⟩
  case round =>
    obtain ⟨j, us, hjn, rfl, rfl, hownj, htk, hgw⟩ := hrel
    have hvl : us.length = n := by have := hownj.1; omega
    have htkh := Lib.hid htk
    clear htk
    by_cases hlt : j < n
    · obtain ⟨g, cur, rfl, hblk, hnc, hbg⟩ := own_blk hownj (by omega)
      have hmk := Lib.hid (markText_any (k + j) wr (by omega) (by omega))
      have hstep : ∀ w2, wr.grownBy w2 none → (w2.setCell ⟨g, j, none⟩ (strv (mk (k + j)))).ownsRow base 9 1 (.slice (some ⟨g, 0, none⟩) n cap) n (us.set j (strv (mk (k + j)))) ∧ w.grownBy (w2.setCell ⟨g, j, none⟩ (strv (mk (k + j)))) (Value.slice (some ⟨g, 0, none⟩) n cap).ownBlock := fun w2 hg =>
        ⟨own_set (own_keep hownj hg) j _, gr_set (gr_trans hgw (gr_weak hg _)) (p := ⟨g, j, none⟩) (.inl rfl) _⟩
      have hsth := Lib.hid hstep
      have htf := Lib.hid (take_set_succ us j (strv (mk (k + j))) (by omega))
      have hsx := hsth
      have hmk2 := hmk.out
      rw [Int.natCast_add] at hmk2
      have hmk3 := Lib.hid hmk2
      clear hstep hmk hmk2
      go_wp2_with fail
      refine hmk3.out.mono ?_
      rintro e w2 ⟨rfl, hg2⟩
      have hb2 := hblk.grown0 hg2
      have c2 := hb2.cell j
      rw [Array.getElem?_eq_getElem (by omega)] at c2
      have f2 := hb2.free j
      have hl2 := hb2.lt
      obtain ⟨hown2, hgr2⟩ := hsth.out w2 hg2
      have hownh := Lib.hid hown2
      have hgrh := Lib.hid hgr2
      clear hb2 hown2 hgr2
      go_wp2_with fail
      go_roundw
      case rel => exact ⟨j + 1, _, by omega, by go_num, by go_num, hownh.out, by rw [htf.out, htkh.out]; unfold marks; rw [List.range_succ, List.map_append, List.map_append]; rfl, hgrh.out⟩
      case measure => simp [intOf]; omega
    · obtain rfl : j = n := by omega
      have hv : us = (marks k j).map strv := by
        have h := htkh.out
        rw [← hvl, List.take_length] at h
        rw [h, hvl]
      subst hv
      go_wp2_with fail
      go_ret
      exact ⟨ret_int (by go_num), hownj, hgw⟩

set_option maxHeartbeats 1000000 in
theorem heldStringS_any (n cap k : Nat) (A : Option Addr) (F : Nat → Prop) (w : World) (hA : Sl w F A n (sv (marks k n))) (hn : n ≤ 1000000000) (hk1 : 1 ≤ k) (hk2 : k ≤ 1000000000) :
    Calls Tryd.prog 27 #[.slice A n cap, .int .i64 (k : Int)] w fun e w' => e = .returned (.int .i64 ((k + n : Nat) : Int)) ∧ w.grownBy w' none := by
  go_enter Tryd.func27, Tryd.ntmps27
  go_wp2_with fail
  go_loopw [1, 5] (fun c i wr => ∃ (j : Nat), j ≤ n ∧ i = .int .i64 (j : Int) ∧ c = .int .i64 ((k + j : Nat) : Int) ∧ w.grownBy wr none) (fun _ i _ => n - (intOf i).toNat)
  case atStart => exact ⟨0, Nat.zero_le _, rfl, rfl, gr_refl _ _⟩
  case round =>
    obtain ⟨j, hjn, rfl, rfl, hgw⟩ := hrel
    by_cases hlt : j < n
    · have hAw := hA.grown0 hgw
      obtain ⟨g, o, rfl, _, hcell⟩ := hAw (by omega)
      have c1 := hcell j hlt
      rw [sv_lt _ (by rw [marks_length]; exact hlt), marks_get] at c1
      have hmk2 : ∀ W, wr.grownBy W none → Calls Tryd.prog 48 #[.int .i64 ((k : Int) + (j : Int))] W fun e w' => e = .returned (.string ⟨(mk (k + j)).toArray⟩) ∧ W.grownBy w' none := fun W _ => by
        have h := markText_any (k + j) W (by omega) (by omega)
        rw [Int.natCast_add] at h
        exact h
      have hmk3 := Lib.hid hmk2
      have hg0 : wr.grownBy wr.drew none := gr_drew (gr_refl _ _)
      clear hmk2 hcell
      go_wp2_with fail
      go_region_with (go_at_call 48; refine (hmk3.out _ (by first | exact gr_refl _ _ | exact hg0)).mono ?_; rintro e w2 ⟨rfl, hg2⟩; have c2 := (World.cell?_of_block (w := wr) (a := ⟨g, o + j, none⟩) (hg2.block g (World.block_lt_of_cell? wr ⟨g, o + j, none⟩ c1) (by simp))).trans c1)
      all_goals go_wp2_with fail
      all_goals refine ⟨⟨j + 1, by omega, by go_num, by go_num, gr_trans hgw (gr_trans hg0 hg2)⟩, ?_⟩
      all_goals simp [intOf]
      all_goals omega
    · obtain rfl : j = n := by omega
      go_wp2_with fail
      go_ret
      exact ⟨ret_int (by go_num), hgw⟩
end Go.Proofs.YtegidbdgneecmaaDoor
