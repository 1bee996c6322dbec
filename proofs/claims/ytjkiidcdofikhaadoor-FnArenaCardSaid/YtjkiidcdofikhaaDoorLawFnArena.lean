/- PROVED: 'laws.FnArena' returns true for every input, and leaves its input as it was. No conditions. -/
import Derived.Test.YtjkiidcdofikhaaDoorArena
import Derived.Test.YtjkiidcdofikhaaDoorMoves
import Derived.Test.YtjkiidcdofikhaaDoorDraw4
import Derived.Test.YtjkiidcdofikhaaDoorCards
import Derived.Test.YtjkiidcdofikhaaDoorTie
import Derived.SevenTiedAt
import Derived.LaidMore
import Derived.Stop.Joined
import Derived.Test.YtjkiidcdofikhaaDoorRow
namespace Go.Proofs.YtjkiidcdofikhaaDoor
open Go.RowKit

theorem count_take_succ (s : List UInt8) {k : Nat} (h : k < s.length) : (s.take (k + 1)).count 98 = (s.take k).count 98 + if s[k] == 98 then 1 else 0 := by
  rw [Ty.take_snoc (List.getElem?_eq_getElem h), List.count_append, List.count_singleton]
set_option maxHeartbeats 2000000 in
theorem FnArena_walk (A : Option Addr) (n c : Nat) (zs : List Int) (w : World) (h : IsRow .u8 w A n c zs) :
    Calls Tryd.prog 4 #[.slice A n c] w fun e w' => e = .returned (.bool true) ∧ w.grownBy w' none := by
  by_cases hl : n > 1048576
  · go_enter Tryd.func4, Tryd.ntmps4
    go_wp2_with fail
    go_ret
    exact ⟨rfl, gr_refl _ _⟩
  · go_enter Tryd.func4, Tryd.ntmps4
    go_wp2_with fail
    refine (drawArenaMoves_any A n c zs w h).mono ?_
    rintro e w1 ⟨s, hs, rfl, hg1⟩
    have hlen := arenaL_len s
    go_wp2_with fail
    refine (arenaMoves_any s w1 (by omega)).mono ?_
    rintro e w2 ⟨hp1, hg2⟩
    unfold ArenaPost at hp1
    obtain ⟨A1, c1, rfl, hown1⟩ := hp1
    go_wp2_with fail
    refine (sArenaMoves_any s w2 (by omega)).mono ?_
    rintro e w3 ⟨hp2, hg3⟩
    unfold ArenaPost at hp2
    obtain ⟨A2, c2, rfl, hown2⟩ := hp2
    have hg03 := gr_trans hg1 (gr_trans hg2 hg3)
    have hS1 := Lib.hid (fun (W : World) (hW : w3.grownBy W none) => (own_sl (own_keep hown1 (gr_trans hg3 hW))).1)
    have hS2 := Lib.hid (fun (W : World) (hW : w3.grownBy W none) => (own_sl (own_keep hown2 hW)).1)
    have hSm := Lib.hid (fun (W : World) (hW : w3.grownBy W none) => sameTexts_any (arenaL s) (arenaL s) A1 A2 c1 c2 _ _ W (hS1.out W hW) (hS2.out W hW) (by omega) (by omega))
    simp only [beq_self_eq_true] at hSm
    have hcap : (arenaL s).length ≤ c1 := own_capA hown1
    cases hr : Ty.read s with
    | none =>
      rw [Option.isSome_none]
      clear hr hown1 hown2
      generalize arenaL s = xs at *
      go_wp2_with fail
      refine (hSm.out w3 (gr_refl _ _)).mono ?_
      rintro e w4 ⟨rfl, hg4⟩
      go_wp2_with fail
      refine (hSm.out w4 hg4).mono ?_
      rintro e w5 ⟨rfl, hg5⟩
      go_wp2_with fail
      go_ret
      exact ⟨rfl, gr_trans hg03 (gr_trans hg4 hg5)⟩
    | some t =>
      rw [Option.isSome_some]
      obtain ⟨hst, hat⟩ := Ty.read_some hr
      have hxe : arenaL s = movesT t [] := by unfold arenaL; rw [hr]
      have hcnt : (arenaL s).length = 3 * s.count 98 := by rw [hxe, movesT_length, hst]
      have hnd : (arenaL s).Nodup := by rw [hxe]; exact movesT_nodup hat
      have hmv := Lib.hid (show ∀ m ∈ arenaL s, moveOf s m = true ∧ m.length ≤ 8 from fun m hm => by
        rw [hxe] at hm
        have h1 := (mem_movesT hat m).1 hm
        exact ⟨by unfold moveOf; rw [hr]; exact h1, isMove_len hat h1⟩)
      have hcnth := Lib.hid hcnt
      have hndh := Lib.hid hnd
      clear hr hst hxe hcnt hnd hown1 hown2
      generalize arenaL s = xs at *
      go_wp2_with fail
      refine (hSm.out w3 (gr_refl _ _)).mono ?_
      rintro e w4 ⟨rfl, hg4⟩
      go_wp2_with fail
      go_loop [8, 9] (fun a i => ∃ k : Nat, k ≤ s.length ∧ i = .int .i64 (k : Int) ∧ a = .int .i64 (((s.take k).count 98 : Nat) : Int)) (fun _ i => s.length - (intOf i).toNat)
      case atStart => exact ⟨0, Nat.zero_le _, rfl, rfl⟩
      case round =>
        obtain ⟨k, hkl, rfl, rfl⟩ := hrel
        have hct : (s.take k).count 98 ≤ k := Nat.le_trans List.count_le_length (by simp; omega)
        by_cases hlt : k < s.length
        · have h0 : 0 ≤ (k : Int) := by omega
          have h1 : (k : Int) < (s.length : Int) := by omega
          have l1 : k < (⟨s.toArray⟩ : ByteArray).size := hlt
          have b1 := byte_val s k hlt l1
          have e2 := byte0_eq s[k] 98 98 rfl
          have hcs := Lib.hid (count_take_succ s hlt)
          cases hq : (s[k] == 98) with
          | true =>
            rw [hq] at e2
            have hqh := Lib.hid hq
            clear hq
            go_wp2_with fail
            go_round
            case rel => exact ⟨k + 1, by omega, by go_num, by rw [hcs.out, hqh.out]; go_num⟩
            case measure => simp [intOf]; omega
          | false =>
            rw [hq] at e2
            have hqh := Lib.hid hq
            clear hq
            go_wp2_with fail
            go_round
            case rel => exact ⟨k + 1, by omega, by go_num, by rw [hcs.out, hqh.out]; go_num⟩
            case measure => simp [intOf]; omega
        · obtain rfl : k = s.length := by omega
          rw [List.take_length] at hct ⊢
          generalize s.count 98 = nb at *
          go_wp2_with fail
          go_loopw [10] (fun i wr => ∃ k : Nat, k ≤ xs.length ∧ i = .int .i64 (k : Int) ∧ w3.grownBy wr none) (fun i _ => xs.length - (intOf i).toNat)
          case atStart => exact ⟨0, Nat.zero_le _, rfl, hg4⟩
          case round =>
            obtain ⟨k, hkl, rfl, hgr⟩ := hrel
            by_cases hlt2 : k < xs.length
            · have hS := hS1.out wr hgr
              obtain ⟨g, o, rfl, _, hcell⟩ := hS (by omega)
              have x1 := hcell k hlt2
              rw [sv_lt xs hlt2] at x1
              obtain ⟨hm1, hm8⟩ := hmv.out xs[k] (List.getElem_mem hlt2)
              have hMV := Lib.hid (fun W => moveValid_any s xs[k] W (by omega) (by omega))
              simp only [hm1] at hMV
              have hnin : hasT (xs.take k) xs[k] = false := by
                unfold hasT
                rw [Bool.eq_false_iff, ne_eq, List.contains_iff_mem]
                intro hmem
                obtain ⟨j, hj, hje⟩ := List.mem_iff_getElem.1 hmem
                simp only [List.length_take] at hj
                rw [List.getElem_take] at hje
                exact (List.pairwise_iff_getElem.1 hndh.out j k (by omega) hlt2 (by omega)) hje
              have hlk : (xs.take k).length = k := by simp; omega
              have hHT := Lib.hid (fun (W : World) (hW : w3.grownBy W none) => hasText_any (xs.take k) xs[k] (some ⟨g, o, none⟩) c1 Al W (by
                rw [hlk]
                intro _
                obtain ⟨g', o', e', _, hc'⟩ := (hS1.out W hW) (by omega)
                refine ⟨g', o', e', trivial, fun i hi => ?_⟩
                rw [hc' i (by omega)]
                simp [sv, List.getD, hi]) (by omega))
              simp only [hlk, hnin] at hHT
              have hkp := Lib.hid (fun (W : World) (hW : wr.grownBy W none) => show W.cell? ⟨g, o + k, none⟩ = some (.string ⟨(xs[k]).toArray⟩) from (World.cell?_of_block (w := wr) (a := ⟨g, o + k, none⟩) (hW.block g (World.block_lt_of_cell? wr _ x1) (by simp))).trans x1)
              have h0 : 0 ≤ (k : Int) := by omega
              have h1 : (k : Int) < (xs.length : Int) := by omega
              have h2 : (k : Int) ≤ (c1 : Int) := by omega
              have hgx : wr.grownBy wr.drew none := gr_drew (gr_refl _ _)
              clear hm1 hm8 hnin hlk hcell x1
              generalize xs[k] = m at *
              go_wp2_with fail
              go_region_held3 (fun w' => w'.cell? ⟨g, o + k, none⟩ = some (.string ⟨m.toArray⟩))
                (first | exact hkp.out _ (gr_trans hgx hg6) | exact hkp.out _ hgx | go_keep)
                (first
                  | (go_at_call 16; refine (hMV.out _).mono ?_; rintro e w6 ⟨rfl, hg6⟩)
                  | (go_at_call 17; refine (hHT.out _ (gr_trans hgr (gr_trans hgx hg6))).mono ?_; rintro e w' ⟨rfl, rfl⟩))
              go_wp2_with fail
              go_roundw
              case rel => exact ⟨k + 1, by omega, by go_num, gr_trans hgr (gr_trans hgx hg6)⟩
              case measure => simp [intOf]; omega
            · have hx3 : ((xs.length : Int)) = 3 * (nb : Int) := by have := hcnth.out; omega
              have hx4 : ((xs.length : Int) == 3 * (nb : Int)) = true := by rw [beq_iff_eq]; exact hx3
              have hx3h := Lib.hid hx3
              clear hx3
              go_wp2_with fail
              go_ret
              exact ⟨rfl, gr_trans hg03 hgr⟩

section
open Go.ChangeShapes Go.WideShapes Go.ChangeAt Go.RowKit
open Go.ChangeMaps (open_string shut_string)
set_option maxRecDepth 100000 in
/-- The door's own heap meets the condition. -/
theorem FnArena_door (os : Os) (args : Array Value) : laidMetH Tryd.prog Rows.fnArenaRow.laid ((World.doorLaid Tryd.prog 62 os).forCall (fun _ _ => 0) ⟨#[], args, []⟩).memory :=
  laidMetH_of_parts3 (fuel := 8) (laidMet_of_run' 8 (by kernel_rfl) (by kernel_rfl)) (by kernel_rfl) (by kernel_rfl)
set_option maxRecDepth 100000 in
theorem FnArena_lifted (os : Os) (started : os.Started) (H : Type) (enc : TypeId × Value → H) :
    ReturnsInHanded {} Tryd.checked os 4 .any (fun w args => (Rows.fnArenaSpec.pre enc Tryd.prog Tryd.f4 [] false w args ∧ laidMetH Tryd.prog Rows.fnArenaRow.laid w) ∧ sizedMet enc Tryd.prog Tryd.f4 (OpenSpec.ofChange Rows.fnArenaSpec) false w args) (Rows.fnArenaSpec.post enc Tryd.prog Tryd.f4 false true false false) := by
  refine returnsInHanded_of_change_and (C := Tryd.checked) (X := fun w _ => laidMetH Tryd.prog Rows.fnArenaRow.laid w) (fun _ _ _ hh h => h.of_heap hh) Tryd.own started (by kernel_rfl) Tryd.func4
    (ChangeSpec.witness_shaped (enc := enc) (C := Tryd.checked) (os := os) (X := fun w _ => laidMetH Tryd.prog Rows.fnArenaRow.laid w) false (World.doorLaid Tryd.prog 62 os) #[.slice none 0 0] 8 rfl (World.shaped_of_RefB (by kernel_rfl) (by kernel_rfl)) (by kernel_rfl) (by kernel_rfl) (by kernel_rfl) (FnArena_door os _)) ?_
  intro W base args ds gs before hval0 hW _ _ _ _
  have hval : ∀ (j : Nat) t v, Tryd.f4.params[j]? = some t → args[j]? = some v → Value.okWide Tryd.prog W .any base t v := hval0
  have hW' := hW
  obtain ⟨p, q, hA0, hV, rfl, hfz, hnd⟩ := hW
  have hA : DataW.TrodAll enc Tryd.prog W 0 (fun _ => true) true Tryd.f4.params.toList args.toList ds p := hA0
  rw [Tryd.params4] at hA hval
  obtain ⟨v0, vs0, d0, ds0, p0, q0, hargs, rfl, rfl, h0, r0⟩ := trodAll_cons hA
  obtain ⟨rfl, rfl, rfl⟩ := trodAll_nil r0
  obtain rfl : args = #[v0] := by cases args; simp_all
  obtain ⟨rfl, rfl⟩ := trodVars_none hV
  obtain ⟨A0, n0, c0, rfl⟩ := okWide_slice Tryd.underlying28 (hval 0 28 v0 rfl rfl)
  have k0 := h0
  have lt0 : ∀ x ∈ p0, x.block < W.heap.size := by obtain ⟨m, hm⟩ := k0; exact DataW.trod_lt m _ _ _ hm
  obtain ⟨z0, w0⟩ : ∃ zs, IsRow .u8 W A0 n0 c0 zs := by
    obtain ⟨fuel, hf⟩ := h0
    rcases open_ints Tryd.underlying28 Tryd.underlying5 (by kernel_rfl) hf with ⟨hcs, _⟩ | ⟨x, l, c, zs, hcs, _, hl, hm, hz, _, hcell, hwz⟩
    · simp [Value.cells] at hcs
      obtain ⟨rfl, rfl, rfl⟩ := hcs
      exact ⟨[], .inl ⟨rfl, rfl, rfl, rfl⟩⟩
    · simp [Value.cells] at hcs
      obtain ⟨rfl, rfl, rfl⟩ := hcs
      exact ⟨zs, .inr ⟨_, rfl, hl, hm, by simpa using hz, hcell, hwz⟩⟩
  clear hA0 hval0
  refine (FnArena_walk A0 n0 c0 z0 W w0).mono fun e W' ⟨he, hg⟩ => ?_
  subst he
  have bel := below_gr hg
  exact ⟨_, rfl, _, _, _, [], _, [], hW', trodAll_mk1 (shut_bool Tryd.underlying4 _), (trodAll_cons_mk (Below.trod Tryd.laidOut (by kernel_rfl) (of_decide_eq_true (by kernel_rfl)) k0 bel lt0) trodAll_mk0), rfl, bel.frame _, fun h => by cases h⟩
end

/-- The statement. -/
theorem FnArena_holds : Rows.FnArenaSaid :=
  OpenClaim.holds_of_wide 4 Tryd.f4 rfl rfl rfl rfl rfl rfl rfl ⟨rfl, rfl, rfl, rfl, rfl⟩ rfl rfl rfl rfl rfl (by kernel_rfl) Tryd.func4 (by kernel_rfl)
    (of_decide_eq_true (by kernel_rfl)) (by unfold Func.isWrapper; first | (rw [if_pos (by decide +kernel)]; kernel_rfl) | (rw [if_neg (by decide +kernel)]; exact ⟨rfl, rfl⟩))
    (fun os started H enc _ => FnArena_lifted os started H enc)

/-- The card: the row, its listed variables tied to the program's text. -/
theorem FnArena_card : Rows.FnArenaCardSaid :=
  Claim7.holds_tied_plain_at .later [] Rows.fnArenaCard.laidKinds true Rows.fnArenaCard.stood.harness Rows.fnArenaCard.stood.looks
    FnArena_holds (fun _ h => by cases h) (by kernel_rfl) (fun _ h => by cases h) fnArena_row_tie rfl ⟨rfl, rfl⟩ (by kernel_rfl) rfl
    (fun f fn hf hfn => by
      obtain rfl : f = 4 := Option.some.inj ((show Tryd.prog.funcNamed "loop.example/innocentgames/laws.FnArena" = some 4 by kernel_rfl).symm.trans hf) |>.symm
      obtain rfl : fn = Tryd.f4 := (Option.some.inj (Tryd.func4.symm.trans hfn)).symm
      exact ⟨by kernel_rfl, fun j t ht => by
        rw [Tryd.params4] at ht
        have hm : t ∈ [28] := by simpa using Array.mem_of_getElem? ht
        have hall : ([28].all fun u => !Tryd.prog.wantsStandIn u) = true := by kernel_rfl
        exact (show Tryd.prog.wantsStandIn t = false by simpa using List.all_eq_true.1 hall t hm)⟩)
    (by kernel_rfl)
end Go.Proofs.YtjkiidcdofikhaaDoor
