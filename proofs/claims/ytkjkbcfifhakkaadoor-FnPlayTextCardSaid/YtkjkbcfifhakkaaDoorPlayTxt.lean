/- The text of a play: both sides. -/
import Derived.Test.YtkjkbcfifhakkaaDoorPlayApi
import Derived.Deep.RegionWith
import Derived.Deep.RegionHeld3
import Derived.Test.YtkjkbcfifhakkaaDoorItoa
import Derived.Test.YtkjkbcfifhakkaaDoorMovesL
import Derived.Test.YtkjkbcfifhakkaaDoorShelf
namespace Go.Proofs.YtkjkbcfifhakkaaDoor
open Go.RowKit

theorem conv1b (W : World) (g : Nat) (x : Int) (c : UInt8) (hx : (c.toNat : Int) = x) (hb : Blk W g 5 #[.int .u8 x]) :
    (convert 22 9 (.slice (some ⟨g, 0, none⟩) 1 1)).run Tryd.prog W = .ok (.string ⟨#[c]⟩) W := by
  subst hx
  have h1 := run_convert_bytes_back (P := Tryd.prog) W 22 9 5 ⟨g, 0, none⟩ 1 [c] Tryd.underlying22 Tryd.underlying5 Tryd.underlying9 (by
    intro j hj
    obtain rfl : j = 0 := by simpa using hj
    rw [Addr.add_lit, hb.cell]
    rfl)
  exact h1
set_option maxRecDepth 100000 in
set_option maxHeartbeats 400000 in
theorem l6Dec_100 (n : Nat) (h : n < 100) (w : World) : Calls Tryd.prog 26 #[.int .i64 (n : Int)] w fun e w' => e = .returned (.string ⟨(dec n).toArray⟩) ∧ w.grownBy w' none := by
  by_cases h10 : n < 10
  · rw [dec_lt h10]
    exact l6Dec_lt n h10 w
  · have hd := Lib.hid (show dec n = [dgt (n / 10)] ++ [dgt (n % 10)] by rw [dec_ge h10, dec_lt (by omega : n / 10 < 10)])
    have hC := l6Dec_lt (n / 10) (by omega)
    rw [show ((n / 10 : Nat) : Int) = (n : Int) / 10 by omega] at hC
    have hCh := Lib.hid hC
    have hkc := Lib.hid (fun W => conv1 W (48 + (n : Int) % 10) (dgt (n % 10)) (by rw [dgt_val (by omega)]; omega))
    clear hC
    have hdg := Lib.hid (show ((dgt (n % 10)).toNat : Int) = 48 + (n : Int) % 10 by rw [dgt_val (by omega)]; omega)
    have kc0 := conv1b (w.alloc (.cells #[.int .u8 (48 + (n : Int) % 10)] 5)).drew w.heap.size (48 + (n : Int) % 10) (dgt (n % 10)) hdg.out (show Blk (w.alloc (.cells #[.int .u8 (48 + (n : Int) % 10)] 5)).drew w.heap.size 5 #[.int .u8 (48 + (n : Int) % 10)] from Blk.new w 5 #[.int .u8 (48 + (n : Int) % 10)])
    have hba := ba_app [dgt (n / 10)] [dgt (n % 10)]
    have t1 : (n : Int).tdiv 10 = (n : Int) / 10 := Int.tdiv_eq_ediv_of_nonneg (by omega)
    have t2 : IntKind.i64.wrap ((n : Int) / 10) = (n : Int) / 10 := IntWalk.i64_in _ (by omega)
    have t3 : (n : Int).tmod 10 = (n : Int) % 10 := Int.tmod_eq_emod_of_nonneg (by omega)
    have t4 : IntKind.i64.wrap ((n : Int) % 10) = (n : Int) % 10 := IntWalk.i64_in _ (by omega)
    have t5 : IntKind.i64.wrap (48 + (n : Int) % 10) = 48 + (n : Int) % 10 := IntWalk.i64_in _ (by omega)
    have t6 : IntKind.u8.wrap (48 + (n : Int) % 10) = 48 + (n : Int) % 10 := by rw [IntKind.wrap_u8]; omega
    go_enter Tryd.func26, Tryd.ntmps26
    go_wp2_with fail
    go_region_with (go_at_call 26; refine (hCh.out _).mono ?_; rintro e w1 ⟨rfl, hg1⟩; have kc2 := hkc.out w1; (first | (have kc3 := conv1b w1 w.heap.size (48 + (n : Int) % 10) (dgt (n % 10)) hdg.out ((show Blk (w.alloc (.cells #[.int .u8 (48 + (n : Int) % 10)] 5)).drew w.heap.size 5 #[.int .u8 (48 + (n : Int) % 10)] from Blk.new w 5 #[.int .u8 (48 + (n : Int) % 10)]).grown0 hg1)) | skip))
    all_goals
      go_wp2_with fail
      go_ret
      first
        | exact ⟨by rw [hd.out]; rfl, gr_alloc (gr_trans (gr_drew (gr_refl w none)) hg1) _⟩
        | exact ⟨by rw [hd.out]; rfl, gr_trans (gr_drew (World.grownBy_alloc w _ none)) hg1⟩

def textOf (r : List UInt8) (p : Pl) : List UInt8 := if playOf r p then p.ptext p.ms.length else []
/-- The words joined. -/
theorem join_snoc (xs : List (List UInt8)) (x sep : List UInt8) (h : xs ≠ []) : Lib.join (xs ++ [x]) sep = Lib.join xs sep ++ (sep ++ x) := by
  cases xs with
  | nil => exact absurd rfl h
  | cons y r =>
    rw [List.cons_append, Lib.join_cons, Lib.join_cons, Lib.joinTail, Lib.joinTail, List.map_append, List.flatten_append]
    simp
theorem ptext_join (p : Pl) : ∀ n, Lib.join ((List.range n).map p.word) [32] = p.ptext n
  | 0 => rfl
  | n + 1 => by
    rw [List.range_succ, List.map_append]
    rcases Nat.eq_zero_or_pos n with rfl | h
    · exact Lib.join_one _ _
    · rw [List.map_singleton, join_snoc _ _ _ (by intro e; have := congrArg List.length e; simp at this; omega), ptext_join p n, Pl.ptext_succ p h]
      simp
theorem textOf_le {r : List UInt8} {p : Pl} (h : playOf r p = true) : textOf r p = p.ptext p.ms.length ∧ (p.ptext p.ms.length).length ≤ 12 * 60 := by
  obtain ⟨t, _, hok, hat⟩ := playOf_some h
  refine ⟨by unfold textOf; rw [if_pos h], ?_⟩
  have h1 := Pl.ptext_length hat hok p.ms.length (Nat.le_refl _)
  have h2 := (Pl.ok_iff.1 hok).1
  omega
set_option maxRecDepth 100000 in
set_option maxHeartbeats 2000000 in
theorem playText_any (r : List UInt8) (p : Pl) (A : Option Addr) (cA : Nat) (B : Option Addr) (cB : Nat) (G : Nat → Prop) (w : World) (hr : r.length ≤ 1099511627776) (h : PlS w G p A B) (hsm : SmallP p) :
    Calls Tryd.prog 7 #[.string ⟨r.toArray⟩, .agg #[.slice A p.ms.length cA, .slice B p.ps.length cB]] w fun e w' => e = .returned (.string ⟨(textOf r p).toArray⟩) ∧ w.grownBy w' none := by
  have hg0 := World.grownBy_alloc w (.cells #[.slice A p.ms.length cA, .slice B p.ps.length cB] 26) none
  have hbx := Blk.new w 26 #[.slice A p.ms.length cA, .slice B p.ps.length cB]
  have h0 := h.grown0 hg0
  have hsmh := Lib.hid hsm
  clear hsm
  go_enter Tryd.func7, Tryd.ntmps7
  go_wp2_with fail
  refine (playValid_any r p A cA B cB G _ hr h0 hsmh.out).mono ?_
  rintro e w1 ⟨rfl, hg1⟩
  cases hv : playOf r p with
  | false =>
    have hR := Lib.hid (show textOf r p = [] by unfold textOf; rw [hv]; rfl)
    clear hv
    go_wp2_with fail
    go_ret
    exact ⟨by rw [hR.out]; rfl, gr_trans hg0 hg1⟩
  | true =>
    obtain ⟨hR, hRl⟩ := textOf_le hv
    have hRe := Lib.hid hR
    obtain ⟨t, _, hok, hat⟩ := playOf_some hv
    have hll := Lib.hid (Pl.ok_iff.1 hok).2.1
    have h60 := (Pl.ok_iff.1 hok).1
    have hokh := Lib.hid hok
    have hj := Lib.hid (ptext_join p p.ms.length)
    have hwl := Lib.hid (fun i (hi : i < p.ms.length) => Pl.word_length hat hok hi)
    have hRlh := Lib.hid hRl
    rw [hll.out] at hbx hg1 hg0
    have hbk := Lib.hid (fun (W : World) (hW : w1.grownBy W none) => show W.cell? ⟨w.heap.size, 0, none⟩ = some (.slice A p.ms.length cA) ∧ W.cell? ⟨w.heap.size, 1, none⟩ = some (.slice B p.ms.length cB) ∧ w.heap.size < W.heap.size from
      ⟨((hbx.grown0 hg1).grown0 hW).cell 0, ((hbx.grown0 hg1).grown0 hW).cell 1, ((hbx.grown0 hg1).grown0 hW).lt⟩)
    have hg01 := gr_trans hg0 hg1
    have hSh := Lib.hid (fun (W : World) (hW : w1.grownBy W none) => h.grown0 (gr_trans hg01 hW))
    have hsz1 := hg01.size
    have hg01h := Lib.hid hg01
    clear hv hR hRl hok hg0 hg1 hbx h0 h hg01
    generalize p.ptext p.ms.length = txt at *
    obtain ⟨d0, d1, dlt⟩ := hbk.out w1 (gr_refl _ _)
    go_wp2_with fail
    go_loopw [5, 15] (fun l i wr => ∃ (k : Nat) (A' : Option Addr) (c' : Nat), k ≤ p.ms.length ∧ i = .int .i64 (k : Int) ∧ l = .slice A' k c' ∧ wr.ownsRow w1.heap.size 9 1 (.slice A' k c') k (((List.range k).map p.word).map strv) ∧ w1.grownBy wr none) (fun _ i _ => p.ms.length - (intOf i).toNat)
    case atStart => exact ⟨0, none, 0, Nat.zero_le _, rfl, rfl, own_nil _ _ _, gr_refl _ _⟩
    case round =>
      clear d0 d1 dlt
      obtain ⟨k, A', c', hkl, rfl, rfl, hown, hgr⟩ := hrel
      obtain ⟨d0, d1, dlt⟩ := hbk.out wr hgr
      have hszr := hgr.size
      by_cases hlt : k < p.ms.length
      · obtain ⟨hS1, hS2⟩ := hSh.out wr hgr
        rw [hll.out] at hS2
        obtain ⟨g1, o1, rfl, _, hc1⟩ := hS1 (by omega)
        obtain ⟨g2, o2, rfl, _, hc2⟩ := hS2 (by omega)
        have x1 := hc1 k hlt
        rw [sv_lt p.ms hlt, ← mv_lt hlt] at x1
        have x2 := hc2 k hlt
        rw [iv_lt p.ps (by rw [hll.out]; exact hlt), ← pt_lt (by rw [hll.out]; exact hlt)] at x2
        have hi0 : 0 ≤ (k : Int) := by omega
        have hi1 : (k : Int) < (p.ms.length : Int) := by omega
        have hwk := hwl.out k hlt
        have hsn := Lib.hid (show ((List.range (k + 1)).map p.word).map strv = ((List.range k).map p.word).map strv ++ [strv (p.word k)] by rw [List.range_succ, List.map_append, List.map_append]; rfl)
        clear hc1 hc2 hS1 hS2
        by_cases hk0 : k = 0
        · subst hk0
          rw [Nat.add_zero] at x1
          have hw0 : p.word 0 = p.mv 0 := rfl
          rw [hw0] at hsn
          have hown2 := own_keep hown (World.grownBy_alloc wr (.cells #[.string ⟨(p.mv 0).toArray⟩] 9) none)
          have hbase : w1.heap.size ≤ (wr.alloc (.cells #[.string ⟨(p.mv 0).toArray⟩] 9)).heap.size := by rw [World.size_alloc]; omega
          clear hw0
          generalize p.mv 0 = m at *
          go_wp2_with (at_builtin; refine wpList_app rfl _ _ 23 rfl w1.heap.size 9 (.string ⟨#[]⟩) 16 Tryd.underlying23 info_str rfl _ _ _ _ rfl hown2 _ 1 1 _ rfl _ (sl_one wr 9 (.string ⟨m.toArray⟩)) (fun _ _ => rfl) (by unfold maxLen; omega) (by omega) hbase ?_; intro A2 c2 w3 hown3 hg3 hat3)
          go_roundw
          case rel => exact ⟨0 + 1, A2, c2, by omega, by go_num, rfl, by rw [hsn.out]; exact hown3, gr_own (gr_alloc hgr _) hown2 hg3⟩
          case measure => simp [intOf]; omega
        · obtain ⟨kk, hpt, hkk, _⟩ := Pl.ok_prev hokh.out (by omega : 0 < k) hlt
          have hwk2 : p.word k = p.mv k ++ 58 :: dec kk := by unfold Pl.word; rw [if_neg hk0, hpt, Int.toNat_natCast]
          rw [hpt] at x2
          rw [hwk2] at hsn hwk
          have hI := Lib.hid (itoa_any kk (by omega) wr)
          have hdl := dec_length (n := kk) (by omega)
          have eA : (⟨#[58]⟩ : ByteArray) ++ ⟨(dec kk).toArray⟩ = ⟨(58 :: dec kk).toArray⟩ := ba_app [58] (dec kk)
          have eB : (⟨(p.mv k).toArray⟩ : ByteArray) ++ ⟨(58 :: dec kk).toArray⟩ = ⟨(p.mv k ++ 58 :: dec kk).toArray⟩ := ba_app (p.mv k) (58 :: dec kk)
          have hown2 := own_keep hown (World.grownBy_alloc wr (.cells #[.string ⟨(p.mv k ++ 58 :: dec kk).toArray⟩] 9) none)
          have hbase : w1.heap.size ≤ (wr.alloc (.cells #[.string ⟨(p.mv k ++ 58 :: dec kk).toArray⟩] 9)).heap.size := by rw [World.size_alloc]; omega
          have hml : (p.mv k).length ≤ 100 := by simp at hwk; omega
          clear hwk2 hpt hwk
          generalize p.mv k = m at *
          generalize dec kk = dk at *
          go_wp2_with fail
          refine hI.out.mono ?_
          rintro e w' ⟨rfl, rfl⟩
          go_wp2_with (at_builtin; refine wpList_app rfl _ _ 23 rfl w1.heap.size 9 (.string ⟨#[]⟩) 16 Tryd.underlying23 info_str rfl _ _ _ _ rfl hown2 _ 1 1 _ rfl _ (sl_one wr 9 (.string ⟨(m ++ 58 :: dk).toArray⟩)) (fun _ _ => rfl) (by unfold maxLen; omega) (by omega) hbase ?_; intro A2 c2 w3 hown3 hg3 hat3)
          go_roundw
          case rel => exact ⟨k + 1, A2, c2, by omega, by go_num, rfl, by rw [hsn.out]; exact hown3, gr_own (gr_alloc hgr _) hown2 hg3⟩
          case measure => simp [intOf]; omega
      · obtain rfl : k = p.ms.length := by omega
        by_cases hn0 : p.ms.length = 0
        · have hN := Tryd.strings_Join_none A' c' ⟨#[32]⟩ wr
          have ht0 : txt = [] := by
            have := hj.out
            rw [hn0] at this
            exact this.symm
          rw [hn0]
          have hNh := Lib.hid hN
          subst ht0
          clear hN hown hlt hkl
          go_wp2_with fail
          refine hNh.out.mono ?_
          rintro e w' ⟨rfl, rfl⟩
          go_wp2_with fail
          go_ret
          exact ⟨by rw [hRe.out]; rfl, gr_trans hg01h.out hgr⟩
        · have hown' : wr.ownsRow w1.heap.size 9 1 (.slice A' p.ms.length c') p.ms.length (((List.range p.ms.length).map p.word).map strv) := hown
          obtain ⟨hsl, hsl2⟩ := own_sl hown'
          obtain ⟨g, o, rfl, _, hcell⟩ := hsl (by simp; omega)
          have hlen : ((((List.range p.ms.length).map p.word).map fun l => (⟨l.toArray⟩ : ByteArray))).length = p.ms.length := by simp
          have hmd : (((List.range p.ms.length).map p.word).map fun l => (⟨l.toArray⟩ : ByteArray)).map (·.data.toList) = (List.range p.ms.length).map p.word := by simp
          have hJ := Tryd.strings_Join g o c' (((List.range p.ms.length).map p.word).map fun l => (⟨l.toArray⟩ : ByteArray)) ⟨#[32]⟩ wr (fun j x hx => by
              rw [List.getElem?_map] at hx
              cases hy : ((List.range p.ms.length).map p.word)[j]? with
              | none => rw [hy] at hx; cases hx
              | some y =>
                rw [hy] at hx
                simp only [Option.map_some, Option.some.injEq] at hx
                subst hx
                have hjl : j < ((List.range p.ms.length).map p.word).length := (List.getElem?_eq_some_iff.1 hy).1
                rw [hcell j hjl, sv_lt _ hjl, (List.getElem?_eq_some_iff.1 hy).2])
            (World.block_lt_of_cell? wr ⟨g, o + 0, none⟩ (hcell 0 (by simp; omega))) (by rw [hlen]; omega) (by
              rw [hlen]
              obtain ⟨_, ⟨e1, e2⟩ | ⟨g', cap, cur, e1, _, _, h1, h2, h3, h4⟩⟩ := hown'
              · omega
              · injection e1 with _ _ e3; omega) (by
              rw [hmd]
              have := hj.out
              rw [show (⟨#[32]⟩ : ByteArray).data.toList = [32] from rfl, this]
              have := hRlh.out
              omega)
          rw [hlen, hmd, show (⟨#[32]⟩ : ByteArray).data.toList = [32] from rfl, hj.out] at hJ
          have hJh := Lib.hid hJ
          clear hJ hown hown' hsl hsl2 hcell hlen hmd hlt hkl
          go_wp2_with fail
          refine hJh.out.mono ?_
          rintro e w5 ⟨rfl, hb5⟩
          go_wp2_with fail
          go_ret
          exact ⟨by rw [hRe.out]; rfl, gr_trans hg01h.out (gr_trans hgr (gr_below hb5))⟩
set_option maxRecDepth 100000 in
set_option maxHeartbeats 2000000 in
theorem sPlayText_any (r : List UInt8) (p : Pl) (A : Option Addr) (cA : Nat) (B : Option Addr) (cB : Nat) (G : Nat → Prop) (w : World) (hr : r.length ≤ 1099511627776) (h : PlS w G p A B) (hsm : SmallP p) :
    Calls Tryd.prog 8 #[.string ⟨r.toArray⟩, .agg #[.slice A p.ms.length cA, .slice B p.ps.length cB]] w fun e w' => e = .returned (.string ⟨(textOf r p).toArray⟩) ∧ w.grownBy w' none := by
  have hg0 := World.grownBy_alloc w (.cells #[.slice A p.ms.length cA, .slice B p.ps.length cB] 26) none
  have hbx := Blk.new w 26 #[.slice A p.ms.length cA, .slice B p.ps.length cB]
  have h0 := h.grown0 hg0
  have hsmh := Lib.hid hsm
  clear hsm
  go_enter Tryd.func8, Tryd.ntmps8
  go_wp2_with fail
  refine (sPlayValid_any r p A cA B cB G _ hr h0 hsmh.out).mono ?_
  rintro e w1 ⟨rfl, hg1⟩
  cases hv : playOf r p with
  | false =>
    have hR := Lib.hid (show textOf r p = [] by unfold textOf; rw [hv]; rfl)
    clear hv
    go_wp2_with fail
    go_ret
    exact ⟨by rw [hR.out]; rfl, gr_trans hg0 hg1⟩
  | true =>
    obtain ⟨hR, hRl⟩ := textOf_le hv
    have hRe := Lib.hid hR
    obtain ⟨t, _, hok, hat⟩ := playOf_some hv
    have hll := Lib.hid (Pl.ok_iff.1 hok).2.1
    have h60 := (Pl.ok_iff.1 hok).1
    have hokh := Lib.hid hok
    have hwl := Lib.hid (fun i (hi : i < p.ms.length) => Pl.word_length hat hok hi)
    have htl := Lib.hid (fun i (hi : i ≤ p.ms.length) => Pl.ptext_length hat hok i hi)
    have hbk := Lib.hid (fun (W : World) (hW : w1.grownBy W none) => show W.cell? ⟨w.heap.size, 0, none⟩ = some (.slice A p.ms.length cA) ∧ W.cell? ⟨w.heap.size, 1, none⟩ = some (.slice B p.ps.length cB) ∧ w.heap.size < W.heap.size from
      ⟨((hbx.grown0 hg1).grown0 hW).cell 0, ((hbx.grown0 hg1).grown0 hW).cell 1, ((hbx.grown0 hg1).grown0 hW).lt⟩)
    simp only [hll.out] at hbk
    have hg01 := gr_trans hg0 hg1
    have hSh := Lib.hid (fun (W : World) (hW : w1.grownBy W none) => h.grown0 (gr_trans hg01 hW))
    have hg01h := Lib.hid hg01
    clear hv hR hRl hok hg0 hg1 hbx h0 h hg01
    obtain ⟨d0, d1, dlt⟩ := hbk.out w1 (gr_refl _ _)
    go_wp2_with fail
    go_loopw [5, 6] (fun l i wr => ∃ (k : Nat), k ≤ p.ms.length ∧ i = .int .i64 (k : Int) ∧ l = .string ⟨(p.ptext k).toArray⟩ ∧ w1.grownBy wr none) (fun _ i _ => p.ms.length - (intOf i).toNat)
    case atStart => exact ⟨0, Nat.zero_le _, rfl, rfl, gr_refl _ _⟩
    case round =>
      clear d0 d1 dlt
      obtain ⟨k, hkl, rfl, rfl, hgr⟩ := hrel
      obtain ⟨d0, d1, dlt⟩ := hbk.out wr hgr
      by_cases hlt : k < p.ms.length
      · obtain ⟨hS1, hS2⟩ := hSh.out wr hgr
        rw [hll.out] at hS2
        obtain ⟨g1, o1, rfl, _, hc1⟩ := hS1 (by omega)
        obtain ⟨g2, o2, rfl, _, hc2⟩ := hS2 (by omega)
        have x1 := hc1 k hlt
        rw [sv_lt p.ms hlt, ← mv_lt hlt] at x1
        have x2 := hc2 k hlt
        rw [iv_lt p.ps (by rw [hll.out]; exact hlt), ← pt_lt (by rw [hll.out]; exact hlt)] at x2
        have hwk := hwl.out k hlt
        have htk := htl.out k (by omega)
        clear hc1 hc2 hS1 hS2
        by_cases hk0 : k = 0
        · subst hk0
          rw [Nat.add_zero] at x1
          have hw0 := Lib.hid (Pl.ptext_one p)
          generalize p.mv 0 = m at *
          go_wp2_with fail
          go_roundw
          case rel => exact ⟨0 + 1, by omega, by go_num, by rw [hw0.out], hgr⟩
          case measure => simp [intOf]; omega
        · obtain ⟨kk, hpt, hkk, _⟩ := Pl.ok_prev hokh.out (by omega : 0 < k) hlt
          have hwk2 : p.word k = p.mv k ++ 58 :: dec kk := by unfold Pl.word; rw [if_neg hk0, hpt, Int.toNat_natCast]
          have hsu := Pl.ptext_succ p (by omega : 0 < k)
          rw [hpt] at x2
          rw [hwk2] at hsu hwk
          have hsuh := Lib.hid hsu
          have hI := Lib.hid (l6Dec_100 kk (by omega))
          have hdl := dec_length (n := kk) (by omega)
          have hml : (p.mv k).length ≤ 100 := by simp at hwk; omega
          have hkp := Lib.hid (fun (W : World) (hW : wr.grownBy W none) => show W.cell? ⟨w.heap.size, 0, none⟩ = some (.slice (some ⟨g1, o1, none⟩) p.ms.length cA) ∧ W.cell? ⟨w.heap.size, 1, none⟩ = some (.slice (some ⟨g2, o2, none⟩) p.ms.length cB) ∧ W.cell? ⟨g1, o1 + k, none⟩ = some (.string ⟨(p.mv k).toArray⟩) ∧ W.cell? ⟨g2, o2 + k, none⟩ = some (.int .i64 (kk : Int)) from
            ⟨(hbk.out W (gr_trans hgr hW)).1, (hbk.out W (gr_trans hgr hW)).2.1, (World.cell?_of_block (w := wr) (a := ⟨g1, o1 + k, none⟩) (hW.block g1 (World.block_lt_of_cell? wr _ x1) (by simp))).trans x1, (World.cell?_of_block (w := wr) (a := ⟨g2, o2 + k, none⟩) (hW.block g2 (World.block_lt_of_cell? wr _ x2) (by simp))).trans x2⟩)
          have hi0 : 0 ≤ (k : Int) := by omega
          have hi1 : (k : Int) < (p.ms.length : Int) := by omega
          have hkn : ((k : Int) == 0) = false := by rw [beq_eq_false_iff_ne]; omega
          have hk3 : 0 < (k : Int) := by omega
          have hgx : wr.grownBy wr.drew none := gr_drew (gr_refl _ _)
          clear hwk2 hpt hwk hsu
          have htk2 : (p.ptext k).length ≤ 1000 := by omega
          clear htk
          generalize p.mv k = m at *
          generalize dec kk = dk at *
          generalize p.ptext k = tx at *
          obtain ⟨y1, hy1⟩ : ∃ y, y = tx ++ [32] := ⟨_, rfl⟩
          obtain ⟨y2, hy2⟩ : ∃ y, y = y1 ++ m := ⟨_, rfl⟩
          obtain ⟨y3, hy3⟩ : ∃ y, y = y2 ++ [58] := ⟨_, rfl⟩
          obtain ⟨y4, hy4⟩ : ∃ y, y = y3 ++ dk := ⟨_, rfl⟩
          have eA : (⟨tx.toArray⟩ : ByteArray) ++ ⟨#[32]⟩ = ⟨y1.toArray⟩ := by rw [hy1]; exact ba_app tx [32]
          have eB : (⟨y1.toArray⟩ : ByteArray) ++ ⟨m.toArray⟩ = ⟨y2.toArray⟩ := by rw [hy2]; exact ba_app y1 m
          have eC : (⟨y2.toArray⟩ : ByteArray) ++ ⟨#[58]⟩ = ⟨y3.toArray⟩ := by rw [hy3]; exact ba_app y2 [58]
          have eD : (⟨y3.toArray⟩ : ByteArray) ++ ⟨dk.toArray⟩ = ⟨y4.toArray⟩ := by rw [hy4]; exact ba_app y3 dk
          have l1 : y1.length = tx.length + 1 := by rw [hy1]; simp
          have l2 : y2.length = y1.length + m.length := by rw [hy2]; simp
          have l3 : y3.length = y2.length + 1 := by rw [hy3]; simp
          have n1 : ¬ 9223372036854775807 < tx.length + 1 := by omega
          have n2 : ¬ 9223372036854775807 < y1.length + m.length := by omega
          have n3 : ¬ 9223372036854775807 < y2.length + 1 := by omega
          have n4 : ¬ 9223372036854775807 < y3.length + dk.length := by omega
          have hy := Lib.hid (show y4 = tx ++ 32 :: (m ++ 58 :: dk) by rw [hy4, hy3, hy2, hy1]; simp)
          clear l1 l2 l3 hy1 hy2 hy3 hy4
          go_wp2_with fail
          go_region_held3 (fun w' => w'.cell? ⟨w.heap.size, 0, none⟩ = some (.slice (some ⟨g1, o1, none⟩) p.ms.length cA) ∧ w'.cell? ⟨w.heap.size, 1, none⟩ = some (.slice (some ⟨g2, o2, none⟩) p.ms.length cB) ∧ w'.cell? ⟨g1, o1 + k, none⟩ = some (.string ⟨m.toArray⟩) ∧ w'.cell? ⟨g2, o2 + k, none⟩ = some (.int .i64 (kk : Int)))
            (first | exact hkp.out _ (gr_trans hgx hg6) | exact hkp.out _ hgx | go_keep)
            (first | (go_at_call 26; refine (hI.out _).mono ?_; rintro e w6 ⟨rfl, hg6⟩))
          go_wp2_with fail
          go_roundw
          case rel => exact ⟨k + 1, by omega, by go_num, by rw [hsuh.out, ← hy.out], gr_trans hgr (gr_trans hgx hg6)⟩
          case measure => simp [intOf]; omega
      · obtain rfl : k = p.ms.length := by omega
        go_wp2_with fail
        go_ret
        exact ⟨by rw [hRe.out]; rfl, gr_trans hg01h.out hgr⟩
end Go.Proofs.YtkjkbcfifhakkaaDoor
