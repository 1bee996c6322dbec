/- The program's counter: bodies. -/
import Derived.Test.YtlehnlfgjadleaaIParts
import Derived.Test.YtlehnlfgjadleaaKTx
import Derived.Test.YtlehnlfgjadleaaCMap
import Derived.Test.YtlehnlfgjadleaaIRow
namespace Go.Proofs.Ytlehnlfgjadleaa
open Go.RowKit Go.Maps

/-- Old blocks of F, and new ones. -/
def FN (F : Nat → Prop) (w : World) (x : Nat) : Prop := (F x ∧ x < w.heap.size) ∨ w.heap.size ≤ x
/-- .. but one. -/
def FO (F : Nat → Prop) (w : World) (o x : Nat) : Prop := (F x ∧ x < w.heap.size) ∨ (w.heap.size ≤ x ∧ x ≠ o)
/-- What bodies does. -/
def IBod (M : Nat) : Prop := ∀ (hand : List Ty) (A : Option Addr) (ca b q n N : Nat) (F : Nat → Prop) (w : World), n ≤ M → n ≤ 8 → 1 ≤ n → HandS hand → 2 * hand.length + 7 * n ≤ 70 → HandP w (Off b) A hand → Blk w q 67 #[.map (some b)] → q ≠ b → CMap w F b N → N + 20 ^ n ≤ 1000000000000000 →
  Calls Try.prog 17 #[.pointer (some ⟨q, 0, none⟩), .slice A hand.length ca, .int .i64 (n : Int)] w fun e w' =>
    ∃ v, e = .returned v ∧ CRow w' (FN F w) hand n v ∧ w.grownBy w' (some b) ∧ CMap w' (FN F w) b (N + 20 ^ n)
/-- The row of counts while levels are summed up. -/
def ow (hand : List Ty) (V x : Nat) : Nat := if x ≤ 1 then C hand x else levs hand (x - 1) V
theorem HandP.grownB {w w' : World} {b : Nat} {A : Option Addr} {hand : List Ty} (h : HandP w (Off b) A hand) (hg : w.grownBy w' (some b)) : HandP w' (Off b) A hand := h.keep fun x hx hl => hg.block x hl (fun e => hx (Option.some.inj e))
theorem IRow.ne_map {w : World} {g n b N : Nat} {f : Nat → Nat} {F : Nat → Prop} (h : IRow w g n f) (hm : CMap w F b N) : g ≠ b := fun e => by
  obtain ⟨D, ⟨es, cl, hb, _⟩, _⟩ := hm
  subst e
  have h1 : w.heap[g]? = some (.cells (rowV n f) 3 (0, 0)) := h
  rw [hb] at h1
  cases h1
theorem KindP.isF {w : World} {F : Nat → Prop} {q : Nat} {t : Ty} (h : KindP w F q t) : F q := by
  cases h with
  | mk _ _ A c qs hq hb hA hs hc => exact hq
theorem gr_le {w w' : World} {x : Option Nat} (h : w.grownBy w' x) : w.heap.size ≤ w'.heap.size := h.size
theorem gr_transB {a c d : World} {b : Nat} (h : a.grownBy c (some b)) (k : c.grownBy d none) : a.grownBy d (some b) := gr_trans h (gr_weak k _)
/-- .. while one level's lists are laid on it. -/
def os (f G : Nat → Nat) (I x : Nat) : Nat := if 1 ≤ x ∧ x ≤ I then f x + G (x - 1) else f x
set_option maxRecDepth 100000 in
set_option maxHeartbeats 4000000 in
theorem bodies_step (M : Nat) (ih : IBod M) : IBod (M + 1) := by
  intro hand A ca b q n N F w hM h8 h1 hS hl hh hq hqb hm hN
  have ihh := Lib.hid ih
  clear ih
  obtain ⟨qs, hA, hT⟩ := id hh
  have hqh := Lib.hid (fun W (hW : w.grownBy W (some b)) => hq.grown hW (fun e => hqb (Option.some.inj e)))
  have hKT := Lib.hid (kindTexts_any hand A ca qs (Off b) w (fun t ht => by have := hS t ht; omega) (by omega) hA hT)
  obtain ⟨d, hd⟩ : ∃ d, d = UInt8.ofNat (48 + n) := ⟨_, rfl⟩
  obtain ⟨jj, hjj⟩ : ∃ jj, jj = Lib.join (hand.map Ty.text) [44] := ⟨_, rfl⟩
  obtain ⟨K, hK⟩ : ∃ K, K = keyT hand n := ⟨_, rfl⟩
  have hcv : ∀ W, (convert 21 9 (.int .i32 (48 + (n : Int)))).run Try.prog W = .ok (.string ⟨#[d]⟩) W := fun W => by
    rw [run_convert_int_string (P := Try.prog) W 21 9 .i32 _ (by rw [Try.underlying21]; rfl) Try.underlying9, hd]
    have h3 : ∀ m : Nat, m < 9 → Utf8.encode (48 + (m : Int)) = ⟨#[UInt8.ofNat (48 + m)]⟩ := by decide +kernel
    rw [h3 n (by omega)]
  have hjl : jj.length ≤ 2000 := by have := join_hand hS; rw [hjj]; omega
  have hKj : K = jj ++ [47] ++ [d] := by rw [hK, hjj, hd]; rfl
  have hKl : K.length ≤ maxLen := by rw [hKj]; simp [maxLen]; omega
  have hke : (⟨jj.toArray⟩ : ByteArray) ++ ⟨#[47]⟩ ++ ⟨#[d]⟩ = ⟨K.toArray⟩ := by
    rw [hKj, show (⟨#[47]⟩ : ByteArray) = ⟨([47] : List UInt8).toArray⟩ from rfl, show (⟨#[d]⟩ : ByteArray) = ⟨([d] : List UInt8).toArray⟩ from rfl, ba_app, ba_app]
  have hw32 : IntKind.i32.wrap (48 + (n : Int)) = 48 + (n : Int) := by rw [IntKind.wrap_i32]; omega
  have hkey := keyOfS K hKl
  have h1I : (1 : Int) ≤ (n : Int) := by omega
  have hbF : ∀ x, F x → x ≠ b := fun x hx => hm.ne hx
  have hblt := hm.lt
  obtain ⟨D, hD1, hD2, _, hD3⟩ := id hm
  have hKh := Lib.hid hK
  have hjjh := Lib.hid hjj
  have hD3h := Lib.hid hD3
  have hD2h := Lib.hid hD2
  clear hd hjj hK hKj hKl hD2 hD3 hT hA
  go_enter Try.func17, Try.ntmps17
  go_wp2_with fail
  refine hKT.out.mono ?_
  rintro e w1 ⟨v1, rfl, hown1, hg1⟩
  have hJ := Lib.hid (joinH_any hand v1 w.heap.size w1 hS (by omega) hown1)
  rw [← hjjh.out] at hJ
  go_wp2_with fail
  refine hJ.out.mono ?_
  rintro e w2 ⟨rfl, hg2⟩
  have hg02 := gr_trans hg1 hg2
  have hq2 := hq.grown0 hg02
  have q0 := hq2.cell 0
  have q0l := hq2.lt
  simp only [List.getElem?_toArray, List.getElem?_cons_zero] at q0
  have hown2 := hD1.kept hg02 (by simp)
  clear hown1 hJ hKT
  cases hhas : has D (.string K) with
  | true =>
    go_wp2_with (at_lookup; refine wpList_lookup_own_ok _ rfl _ _ 65 rfl 9 22 keyS Try.underlying65 heldE (zeroSl _) (.held (.slice none 0 0)) [] rfl b N D rfl hown2 _ _ rfl hkey ?_; intro v2 ps2 hv2)
    go_ret
    obtain ⟨v, hv, hcr⟩ := hD3h.out hand n (by omega) (by rw [← hKh.out]; exact hhas)
    rw [← hKh.out] at hv
    obtain rfl : v = v2 := DataW.held.inj ((hv _).symm.trans (heldE_inv hv2))
    exact ⟨v, rfl, (hcr.mono (G := FN F w) (fun x hx hl => .inl ⟨hx, hl⟩)).keep (fun x _ hl => hg02.block x hl (by simp)), gr_weak hg02 _, ((hm.monoF (G := FN F w) (fun x hx hl => .inl ⟨hx, hl⟩) (fun x hx => by rcases hx with hx | hx; exact hbF x hx.1; omega)).grown0 hg02).mono (Nat.le_add_right _ _)⟩
  | false =>
    go_wp2_with (first
      | (at_lookup; refine wpList_lookup_own_ok _ rfl _ _ 65 rfl 9 22 keyS Try.underlying65 heldE (zeroSl _) (.held (.slice none 0 0)) [] rfl b N D rfl hown2 _ _ rfl hkey ?_; intro v2 ps2 hv2)
      | (at_make; refine wpList_make_row _ rfl _ _ rfl _ _ (n + 1) rfl rfl (by go_num) (by go_num) (by omega) (by omega) ?_; intro w3 hr3 hg3; have r1 := hr3.cell (i := 1) (by omega); have r1f := hr3.free 1; have r1l := hr3.lt; have hnI : (1 : Int) < (n : Int) + 1 := by omega))
    have hr4 := hr3.set 1 3
    have hg23 := gr_set hg3 (p := ⟨w2.heap.size, 1, none⟩) (.inr (Nat.le_refl _)) (.int .i64 3)
    have hg04 := gr_trans hg02 hg23
    have hsz02 := gr_le hg02
    have hm4 := (hm.monoF (G := FO F w w2.heap.size) (fun x hx hl => .inl ⟨hx, hl⟩) (fun x hx => by rcases hx with hx | hx; exact hbF x hx.1; omega)).grown0 hg04
    have hg0l := gr_le hg02
    obtain ⟨U, hU1, hU2⟩ : ∃ U, (∀ n', n' + 2 ≤ n → 9 * 20 ^ n' ≤ U) ∧ hand.length * U + 1 ≤ 20 ^ n := by
      by_cases h2 : 2 ≤ n
      · obtain ⟨m, rfl⟩ : ∃ m, n = m + 2 := ⟨n - 2, by omega⟩
        refine ⟨9 * 20 ^ m, fun n' hn' => Nat.mul_le_mul_left _ (Nat.pow_le_pow_right (by decide) (by omega)), ?_⟩
        have hp : 1 ≤ 20 ^ m := Nat.one_le_pow _ _ (by decide)
        rw [Nat.pow_add]
        have : hand.length * (9 * 20 ^ m) ≤ 28 * (9 * 20 ^ m) := Nat.mul_le_mul_right _ (by omega)
        generalize 20 ^ m = P at *
        omega
      · obtain rfl : n = 1 := by omega
        exact ⟨0, fun n' hn' => by omega, by simp⟩
    have hU1h := Lib.hid hU1
    have hU2h := Lib.hid hU2
    have hNh := Lib.hid hN
    have hr4h := Lib.hid hr4
    have hm4h := Lib.hid hm4
    have hg04h := Lib.hid hg04
    clear hU1 hU2 hN r1 r1f r1l hr3 hg3 hr4 hm4 hg23 hv2 hown2 hq2 q0 q0l hg1 hg2 hD1
    generalize hW4 : w3.setCell ⟨w2.heap.size, 1, none⟩ (.int .i64 3) = w4 at *
    clear hW4
    go_loopw [53] (fun i wr => ∃ V, V ≤ hand.length ∧ i = .int .i64 (V : Int) ∧ IRow wr w2.heap.size (n + 1) (ow hand V) ∧ CMap wr (FO F w w2.heap.size) b (N + V * U) ∧ w.grownBy wr (some b)) (fun i _ => hand.length - (intOf i).toNat)
    case atStart => exact ⟨0, Nat.zero_le _, rfl, hr4h.out.congr (fun x _ => by
      unfold upd ow
      rcases x with _ | _ | x
      · rw [if_neg (by omega), if_pos (by omega), C_zero]
      · rw [if_pos rfl, if_pos (by omega), C_one]
      · rw [if_neg (by omega), if_neg (by omega), levs_zero]), hm4h.out.mono (Nat.le_add_right _ _), gr_weak hg04h.out _⟩
    case round =>
      obtain ⟨wi, hwi⟩ : ∃ wo, wo = wr := ⟨_, rfl⟩
      subst hwi
      obtain ⟨V, hV1, rfl, hrV, hmV, hgV⟩ := hrel
      have hoil := hrV.lt
      have hhV := hh.grownB hgV
      by_cases hVl : V < hand.length
      · have hkV : hand[V]? = some hand[V] := List.getElem?_eq_getElem hVl
        obtain ⟨qs2, hS2, hT2⟩ := id hhV
        have hkP := hT2 V _ hkV
        obtain ⟨Ak, ck, qk, hbk, hSk, hTk⟩ := hkP.open_
        obtain ⟨gA, oA, rfl, _, hcA⟩ := hS2 (by omega)
        have cV := hcA V hVl
        have k0 := hbk.cell 0
        have k0l := hbk.lt
        simp only [List.getElem?_toArray, List.getElem?_cons_zero] at k0
        have hbkh := Lib.hid (fun W (hW : wi.grownBy W (some b)) => hbk.grown hW (fun e => hkP.isF (Option.some.inj e)))
        have hka := hS _ (List.getElem_mem hVl)
        have hla := (hand[V]).length_args
        have hkVh := Lib.hid hkV
        clear hkV hcA hS2 hT2 hSk hTk hbk
        generalize hand[V] = k at *
        by_cases hfew : (n : Int) < 3 + (k.args.length : Int)
        · have hrE := Lib.hid (hrV.congr (f' := ow hand (V + 1)) (fun x hx => by
            unfold ow
            by_cases hx1 : x ≤ 1
            · rw [if_pos hx1, if_pos hx1]
            · rw [if_neg hx1, if_neg hx1, levs_next hkVh.out, lev_few (by omega), Nat.add_zero]))
          have hmE := Lib.hid (hmV.mono (M := N + (V + 1) * U) (by rw [Nat.add_mul]; omega))
          go_wp2_with fail
          go_roundw
          case rel => exact ⟨V + 1, by omega, by go_num, hrE.out, hmE.out, hgV⟩
          case measure => simp [intOf]; omega
        · go_wp2_with (at_make; refine wpList_make_row _ rfl _ _ rfl _ _ n rfl rfl (by go_num) (by go_num) (by omega) (by omega) ?_; intro w5 hr5 hg5; have s0 := hr5.cell (i := 0) (by omega); have s0f := hr5.free 0; have s0l := hr5.lt; have hn0 : (0 : Int) < (n : Int) := by omega)
          have hg56 := gr_set hg5 (p := ⟨wi.heap.size, 0, none⟩) (.inr (Nat.le_refl _)) (.int .i64 1)
          have hr6 := hr5.set 0 1
          have hPO := Lib.hid (partsOf_any hand k (some ⟨gA, oA, none⟩) ca (qs2 V) (Off b) (w5.setCell ⟨wi.heap.size, 0, none⟩ (.int .i64 1)) (fun x hx => by unfold Off; have := hmV.lt; have := hg56.size; omega) (hhV.grown0 hg56) (hkP.grown0 hg56) (by omega) (by omega) hka)
          have hfw : k.args.length + 3 ≤ n := by omega
          have hrVh := Lib.hid hrV
          have hmVh := Lib.hid hmV
          have hgVh := Lib.hid hgV
          have hhVh := Lib.hid hhV
          have hr6h := Lib.hid hr6
          have hbl := hmV.lt
          clear hr5 hr6 hrV hmV hgV hhV s0 s0f s0l hfew hkP
          refine hPO.out.mono ?_
          rintro e w7 ⟨A7, c7, rfl, hP7, hg67⟩
          have hg57 := gr_trans hg56 hg67
          have hr7 := hr6h.out.grown0 hg67
          clear hPO hg56 hg67 hg5
          go_wp2_with fail
          obtain ⟨n', hn'⟩ : ∃ n', n' = n - (k.args.length + 2) := ⟨_, rfl⟩
          have hnI := Lib.hid (show (n' : Int) = (n : Int) - 1 - ((k.args.length : Int) + 1) by omega)
          have hn1 : n' + k.args.length + 2 ≤ n := by omega
          have hn2 : n ≤ n' + k.args.length + 2 := by omega
          have hps := Lib.hid (part_small hS hka h8 hl (by omega : k.args.length + 2 ≤ n))
          rw [← hn'] at hps
          clear hn'
          have hPU := hU1h.out n' (by omega)
          obtain ⟨P, hP⟩ : ∃ P, P = 20 ^ n' := ⟨_, rfl⟩
          rw [← hP] at hPU
          have hPh := Lib.hid hP
          clear hP
          have hVU : (V + 1) * U ≤ hand.length * U := Nat.mul_le_mul_right _ hVl
          have hmP : (k.args.length + 2) * P ≤ 9 * P := Nat.mul_le_mul_right _ (by omega)
          rw [Nat.add_mul, Nat.one_mul] at hVU
          have hVUh := Lib.hid hVU
          have hmPh := Lib.hid hmP
          have hPUh := Lib.hid hPU
          clear hVU hmP hPU
          have hm7 := Lib.hid (hmVh.out.grown0 hg57)
          go_loopw [13, 73] (fun wv i wr => ∃ (j gw : Nat), j ≤ k.args.length + 2 ∧ i = .int .i64 (j : Int) ∧ wv = .slice (some ⟨gw, 0, none⟩) n n ∧ wi.heap.size ≤ gw ∧ IRow wr gw n (wy (((parts6 hand k).take j).map fun p => bt n' (C p))) ∧ CMap wr (FO F w w2.heap.size) b (N + V * U + j * P) ∧ w7.grownBy wr (some b)) (fun _ i _ => k.args.length + 2 - (intOf i).toNat)
          case atStart => exact ⟨0, _, Nat.zero_le _, rfl, rfl, Nat.le_refl _, hr7.congr (fun x _ => rfl), hm7.out.mono (Nat.le_add_right _ _), gr_refl _ _⟩
          case round =>
            obtain ⟨wj, hwj⟩ : ∃ wo, wo = wr := ⟨_, rfl⟩
            subst hwj
            obtain ⟨j, gw, hjm, rfl, rfl, hgwl, hrw, hmj, hgj⟩ := hrel
            by_cases hjl : j < k.args.length + 2
            · have hjp : j < (parts6 hand k).length := by rw [parts6_len]; exact hjl
              have hjpe : (parts6 hand k)[j]? = some (parts6 hand k)[j] := List.getElem?_eq_getElem hjp
              obtain ⟨Ap, cp, np, hSp, hTp⟩ := hP7
              obtain ⟨hnp, hHp⟩ := hTp j _ hjpe
              rw [parts6_len] at hSp
              have hSj := hSp.keep (w' := wj) (fun x hx hl => hgj.block x hl (fun e => hx (Option.some.inj e)))
              obtain ⟨g7, o7, rfl, _, hc7⟩ := hSj (by omega)
              have cj := hc7 j hjl
              simp only [hnp] at cj
              have hbkj := hbkh.out wj (gr_trans (gr_weak hg57 _) hgj)
              have m0 := hbkj.cell 0
              have m0l := hbkj.lt
              simp only [List.getElem?_toArray, List.getElem?_cons_zero] at m0
              have hpp := hS.parts hka (List.getElem_mem hjp)
              have hwj7 : w.grownBy wj (some b) := gr_trans (gr_transB hgVh.out hg57) hgj
              have hmPj : (j + 1) * P ≤ (k.args.length + 2) * P := Nat.mul_le_mul_right _ hjl
              rw [Nat.add_mul, Nat.one_mul] at hmPj
              have hBC := ihh.out _ (Ap j) (cp j) b q n' (N + V * U + j * P) (FO F w w2.heap.size) wj (by omega) (by omega) (by omega) hpp.1 (by omega) (hHp.grownB hgj) (hqh.out wj hwj7) hqb hmj (by rw [← hPh.out]; have := hVUh.out; have := hmPh.out; have := hPUh.out; have := hU2h.out; have := hNh.out; omega)
              rw [hnI.out] at hBC
              have hjpeh := Lib.hid hjpe
              have hplen : ((parts6 hand k)[j]).length ≤ 100 := by have := hpp.2; omega
              generalize (parts6 hand k)[j] = p at *
              have hBCh := Lib.hid hBC
              have hrwh := Lib.hid hrw
              clear hBC hc7 hSj hSp hTp hjpe hrw
              go_wp2_with fail
              refine hBCh.out.mono ?_
              rintro e w8 ⟨v8, rfl, ⟨Ac, cc, rfl, hcc8, hSc⟩, hg8, hm8⟩
              go_wp2_with (at_make; refine wpList_make_row _ rfl _ _ rfl _ _ n rfl rfl (by go_num) (by go_num) (by omega) (by omega) ?_; intro w9 hr9 hg9)
              obtain ⟨gc, oc, rfl, _, hcc⟩ := hSc (by omega)
              have hne := hrwh.out.ne_map hmj
              have hrw8 := hrwh.out.grown hg8 (fun e => hne (Option.some.inj e))
              have hbc : ∀ J, J ≤ n' → cv p J = .int .i64 (bt n' (C p) J : Int) := fun J hJ => by unfold bt cv; rw [if_pos hJ]
              have hbN : ∀ J, n' < J → bt n' (C p) J = 0 := fun J hJ => by unfold bt; rw [if_neg (by omega)]
              have htk : wy (((parts6 hand k).take (j + 1)).map fun p => bt n' (C p)) = conv (wy (((parts6 hand k).take j).map fun p => bt n' (C p))) (bt n' (C p)) := by
                obtain ⟨h5, h6⟩ := List.getElem?_eq_some_iff.1 hjpeh.out
                rw [List.take_succ_eq_append_getElem h5, List.map_append, h6]
                exact wy_snoc _ _
              have hcb : ∀ x, x < n → conv (wy (((parts6 hand k).take j).map fun p => bt n' (C p))) (bt n' (C p)) x ≤ 100000000 := fun x hx => by
                rw [← htk]
                exact hps.out (j + 1) x (by omega)
              have htkh := Lib.hid htk
              have hcbh := Lib.hid hcb
              have hSch := Lib.hid hSc
              have hsj8 := gr_le hg8
              have hsij := gr_le (gr_trans (gr_weak hg57 (some b)) hgj)
              have hm8h := Lib.hid (hm8.monoF (G := FO F w w2.heap.size) (fun x hx _ => by
                rcases hx with hx | hx
                · exact hx.1
                · exact .inr ⟨by omega, by omega⟩) (fun x hx => hmj.ne hx))
              have hg8h := Lib.hid hg8
              clear htk hcb hSc hcc hm8 hg8 hmj
              generalize bt n' (C p) = bb at *
              generalize hGj : wy (((parts6 hand k).take j).map fun p => bt n' (C p)) = aa at *
              clear hGj
              go_loopw [93] (fun i wq => ∃ I, I ≤ n ∧ i = .int .i64 (I : Int) ∧ IRow wq w8.heap.size n (part aa bb I) ∧ w8.grownBy wq none) (fun i _ => n - (intOf i).toNat)
              case atStart => exact ⟨0, Nat.zero_le _, rfl, hr9.congr (fun i _ => rfl), hg9⟩
              case round =>
                obtain ⟨wa, hwa⟩ : ∃ wo, wo = wr := ⟨_, rfl⟩
                subst hwa
                obtain ⟨I, hI1, rfl, hrI, hgI⟩ := hrel
                by_cases hIl : I < n
                · have ra := (hrw8.grown0 hgI).cell (i := I) hIl
                  have ral := (hrw8.grown0 hgI).lt
                  go_wp2_with fail
                  clear ra ral
                  go_loopw [100] (fun jv wq => ∃ J, J ≤ n' + 1 ∧ jv = .int .i64 (J : Int) ∧ IRow wq w8.heap.size n (stp aa bb I J) ∧ w8.grownBy wq none) (fun jv _ => n' + 1 - (intOf jv).toNat)
                  case atStart => exact ⟨0, Nat.zero_le _, rfl, hrI.congr (fun x hx => (stp_zero aa bb I x).symm), hgI⟩
                  case round =>
                    obtain ⟨wb, hwb⟩ : ∃ wo, wo = wr := ⟨_, rfl⟩
                    subst hwb
                    obtain ⟨J, hJ1, rfl, hrJ, hgJ⟩ := hrel
                    by_cases hJl : J < n' + 1
                    · have rb := (hSch.out.grown0 hgJ).at_ hJl
                      rw [hbc J (by omega)] at rb
                      have rbl : gc < wb.heap.size := World.block_lt_of_cell? wb ⟨gc, oc + J, none⟩ rb
                      have hst := stp_next aa bb I J
                      by_cases hIJ : I + J < n
                      · have hIJI : (I : Int) + (J : Int) < (n : Int) := by omega
                        have rn := hrJ.cell (i := I + J) (by omega)
                        have rnf := hrJ.free (I + J)
                        have rnl := hrJ.lt
                        have hle := stp_le aa bb I (J + 1) (I + J)
                        rw [hst, if_pos rfl] at hle
                        have hle2 := hcbh.out (I + J) hIJ
                        generalize hx1 : aa I = x1 at *
                        generalize hx2 : bb J = x2 at *
                        generalize hy : stp aa bb I J (I + J) = y at *
                        have hz : y + x1 * x2 ≤ 100000000 := by omega
                        have hmz : (x1 : Int) * (x2 : Int) = ((x1 * x2 : Nat) : Int) := by simp
                        generalize hzz : x1 * x2 = z at *
                        have hwz : IntKind.i64.wrap (z : Int) = (z : Int) := IntWalk.i64_in _ (by omega)
                        have hwy : IntKind.i64.wrap ((y : Int) + (z : Int)) = (y : Int) + (z : Int) := IntWalk.i64_in _ (by omega)
                        have hwi : IntKind.i64.wrap ((I : Int) + (J : Int)) = (I : Int) + (J : Int) := IntWalk.i64_in _ (by omega)
                        have hwi2 : 0 ≤ (I : Int) + (J : Int) := by omega
                        have hIJn : ((I : Int) + (J : Int)).toNat = I + J := by omega
                        have hcI := Lib.hid (fun W => capped_any z W (by omega))
                        have hcO0 := fun W => capped_any (y + z) W (by omega)
                        rw [Int.natCast_add] at hcO0
                        have hcO := Lib.hid hcO0
                        have hset := hrJ.set (I + J) (y + z)
                        rw [Int.natCast_add] at hset
                        have hsch := Lib.hid (hset.congr (f' := stp aa bb I (J + 1)) (fun x _ => by
                          rw [hst x]
                          unfold upd
                          by_cases e : x = I + J
                          · rw [if_pos e, if_pos e, e, hy]
                          · rw [if_neg e, if_neg e]))
                        have hgX := Lib.hid (gr_set hgJ (p := ⟨w8.heap.size, I + J, none⟩) (.inr (Nat.le_refl _)) (.int .i64 ((y : Int) + (z : Int))))
                        clear hcO0 hset
                        go_wp2_with fail
                        go_region_with (go_at_call 31; first
                          | ((with_reducible refine (hcO.out _).mono ?_); rintro e w' ⟨rfl, rfl⟩)
                          | ((with_reducible refine (hcI.out _).mono ?_); rintro e w' ⟨rfl, rfl⟩))
                        all_goals
                          go_wp2_with fail
                          go_roundw
                          case rel => exact ⟨J + 1, by omega, by go_num, hsch.out, gr_drew hgX.out⟩
                          case measure => simp [intOf]; omega
                      · have hIJI : ¬ (I : Int) + (J : Int) < (n : Int) := by omega
                        have hwi : IntKind.i64.wrap ((I : Int) + (J : Int)) = (I : Int) + (J : Int) := IntWalk.i64_in _ (by omega)
                        have hsch := Lib.hid (hrJ.congr (f' := stp aa bb I (J + 1)) (fun x hx => by rw [hst x, if_neg (by omega)]))
                        clear hst
                        go_wp2_with fail
                        go_roundw
                        case rel => exact ⟨J + 1, by omega, by go_num, hsch.out, hgJ⟩
                        case measure => simp [intOf]; omega
                    · have hsch := Lib.hid (hrJ.congr (f' := part aa bb (I + 1)) (fun x hx => stp_done fun j hj1 hj2 => hbN j (by omega)))
                      go_wp2_with fail
                      go_roundw
                      case rel => exact ⟨I + 1, by omega, by go_num, hsch.out, hgJ⟩
                      case measure => simp [intOf]; omega
                · obtain rfl : I = n := by omega
                  have hrE := Lib.hid (hrI.congr (f' := wy (((parts6 hand k).take (j + 1)).map fun p => bt n' (C p))) (fun x hx => by rw [htkh.out]; exact part_conv hx))
                  have hmE := Lib.hid (show CMap wa (FO F w w2.heap.size) b (N + V * U + (j + 1) * P) by
                    have := hm8h.out.grown0 hgI
                    rw [← hPh.out, Nat.add_assoc, ← Nat.succ_mul] at this
                    exact this)
                  have hgE := Lib.hid (gr_trans hgj (gr_transB hg8h.out hgI))
                  go_wp2_with fail
                  go_roundw
                  case rel => exact ⟨j + 1, w8.heap.size, by omega, by go_num, rfl, by omega, hrE.out, hmE.out, hgE.out⟩
                  case measure => simp [intOf]; omega
            · have hjlI : ¬ (j : Int) < (k.args.length : Int) + 2 := by omega
              rw [List.take_of_length_le (by rw [parts6_len]; omega)] at hrw
              have hjP : j * P ≤ (k.args.length + 2) * P := Nat.mul_le_mul_right _ hjm
              have hG : ∀ x, x < n → wy ((parts6 hand k).map fun p => bt n' (C p)) x = wy ((parts6 hand k).map C) x := fun x hx => lev_eq (M := n') (by omega)
              have hrw2 := hrw.congr hG
              have hG0 : wy ((parts6 hand k).map C) 0 = 0 := lev_few (by omega)
              have hGn : ∀ x, levs hand x (V + 1) = levs hand x V + wy ((parts6 hand k).map C) x := fun x => levs_next hkVh.out
              have hGle : ∀ x, x < n → ow hand V (x + 1) + wy ((parts6 hand k).map C) x ≤ 1000000000 := fun x hx => by
                have h3 := Nat.le_trans (C_le 8 (x + 1) hand (by omega) (by omega) hS (by omega)) (tb_small (x + 1) (by omega))
                unfold ow
                by_cases hx1 : x + 1 ≤ 1
                · rw [if_pos hx1]
                  obtain rfl : x = 0 := by omega
                  rw [hG0]
                  omega
                · rw [if_neg hx1, Nat.add_sub_cancel, ← hGn x]
                  have := levs_le (hand := hand) (n := x + 1) (by omega) (V + 1)
                  rw [Nat.add_sub_cancel] at this
                  omega
              have hGleh := Lib.hid hGle
              have hGnh := Lib.hid hGn
              have hmjh := Lib.hid (hmj.mono (M := N + (V + 1) * U) (by have h1 := hmPh.out; have h2 := hPUh.out; have h3 := hjP; rw [show (V + 1) * U = V * U + U by rw [Nat.add_mul, Nat.one_mul]]; omega))
              have hg0V : wi.grownBy wj (some b) := gr_trans (gr_weak hg57 _) hgj
              have hro := hrVh.out.grown hg0V (fun e => (hrVh.out.ne_map hmVh.out) (Option.some.inj e))
              have hgj0 := Lib.hid (gr_trans hgVh.out hg0V)
              clear hG hGle hGn hrw
              generalize wy ((parts6 hand k).map C) = G at *
              go_wp2_with fail
              go_loopw [133] (fun i wq => ∃ I, I ≤ n ∧ i = .int .i64 (I : Int) ∧ IRow wq w2.heap.size (n + 1) (os (ow hand V) G I) ∧ wj.grownBy wq (some w2.heap.size)) (fun i _ => n - (intOf i).toNat)
              case atStart => exact ⟨0, Nat.zero_le _, rfl, hro.congr (fun x hx => by unfold os; rw [if_neg (by omega)]), gr_refl _ _⟩
              case round =>
                obtain ⟨wa, hwa⟩ : ∃ wo, wo = wr := ⟨_, rfl⟩
                subst hwa
                obtain ⟨I, hI1, rfl, hrI, hgI⟩ := hrel
                by_cases hIl : I < n
                · have hrg := hrw2.grown hgI (fun e => by have := Option.some.inj e; omega)
                  have ra := hrg.cell (i := I) hIl
                  have ral := hrg.lt
                  have rn := hrI.cell (i := I + 1) (by omega)
                  have rnf := hrI.free (I + 1)
                  have rnl := hrI.lt
                  have hos : os (ow hand V) G I (I + 1) = ow hand V (I + 1) := by unfold os; rw [if_neg (by omega)]
                  rw [hos] at rn
                  have hz := hGleh.out I hIl
                  have hI2 : (I : Int) + 1 < (n : Int) + 1 := by omega
                  generalize hx : G I = x at *
                  generalize hy : ow hand V (I + 1) = y at *
                  have hcO0 := fun W => capped_any (y + x) W (by omega)
                  have hset := hrI.set (I + 1) (y + x)
                  rw [Int.natCast_add] at hcO0 hset
                  have hcO := Lib.hid hcO0
                  have hsch := Lib.hid (hset.congr (f' := os (ow hand V) G (I + 1)) (fun j _ => by
                    unfold upd os
                    by_cases e : j = I + 1
                    · rw [if_pos e, if_pos (by omega), e, hy, Nat.add_sub_cancel, hx]
                    · rw [if_neg e]
                      by_cases e2 : 1 ≤ j ∧ j ≤ I
                      · rw [if_pos e2, if_pos (by omega)]
                      · rw [if_neg e2, if_neg (by omega)]))
                  have hgX := Lib.hid (gr_set hgI (p := ⟨w2.heap.size, I + 1, none⟩) (.inl rfl) (.int .i64 ((y : Int) + (x : Int))))
                  clear hcO0 hset
                  go_wp2_with fail
                  refine (hcO.out _).mono ?_
                  rintro e w' ⟨rfl, rfl⟩
                  go_wp2_with fail
                  go_roundw
                  case rel => exact ⟨I + 1, by omega, by go_num, hsch.out, hgX.out⟩
                  case measure => simp [intOf]; omega
                · obtain rfl : I = n := by omega
                  have hrE := Lib.hid (hrI.congr (f' := ow hand (V + 1)) (fun x hx => by
                    unfold os ow
                    by_cases hx1 : x ≤ 1
                    · rw [if_pos hx1, if_pos hx1]
                      by_cases hx0 : 1 ≤ x ∧ x ≤ I
                      · rw [if_pos hx0]
                        obtain rfl : x = 1 := by omega
                        rw [hG0, Nat.add_zero]
                      · rw [if_neg hx0]
                    · rw [if_neg hx1, if_pos (by omega), if_neg hx1, hGnh.out]))
                  have hmE := Lib.hid (hmjh.out.grown hgI (fun e => by have := hmjh.out.lt; have := Option.some.inj e; have := hgwl; omega) (fun x hx e => by
                    have := Option.some.inj e
                    rcases hx with hx | hx
                    · omega
                    · omega))
                  have hgE := Lib.hid (gr_trans_new hgj0.out hgI (by omega))
                  go_wp2_with fail
                  go_roundw
                  case rel => exact ⟨V + 1, by omega, by go_num, hrE.out, hmE.out, hgE.out⟩
                  case measure => simp [intOf]; omega
      · obtain rfl : V = hand.length := by omega
        have hmF := hmV.monoF (G := FN F w) (fun x hx _ => by
          rcases hx with hx | hx
          · exact .inl hx
          · exact .inr hx.1) (fun x hx => by
          rcases hx with hx | hx
          · exact hbF x hx.1
          · omega)
        obtain ⟨D2, e1, e2, e3, e4⟩ := hmF
        have e2h := Lib.hid e2
        have e3h := Lib.hid e3
        have e4h := Lib.hid e4
        have hro := hrV.congr (f' := C hand) (fun x hx => by
          unfold ow
          by_cases hx1 : x ≤ 1
          · rw [if_pos hx1]
          · rw [if_neg hx1]
            exact levs_all (by omega))
        have hcr : CRow wi (FN F w) hand n (.slice (some ⟨w2.heap.size, 0, none⟩) (n + 1) (n + 1)) := ⟨_, _, rfl, Nat.le_refl _, hro.sl (.inr hg0l)⟩
        have hcrh := Lib.hid hcr
        have hbq := hqh.out wi hgV
        have q0 := hbq.cell 0
        have q0l := hbq.lt
        simp only [List.getElem?_toArray, List.getElem?_cons_zero] at q0
        have hlim : N + hand.length * U < maxLen := by have := hU2h.out; have := hNh.out; unfold maxLen; omega
        clear e2 e3 e4 hro hcr
        go_wp2_with (at_mapUpdate; refine wpList_mapUpdate_own _ rfl _ _ _ 65 rfl 9 22 keyS Try.underlying65 heldE b (N + hand.length * U) D2 rfl e1 hlim _ _ _ rfl rfl hkey (.held (.slice (some ⟨w2.heap.size, 0, none⟩) (n + 1) (n + 1))) [] rfl ?_; intro w9 hown9 hg9)
        go_ret
        refine ⟨_, rfl, hcrh.out.keep (fun x hx hl => hg9.block x hl (fun e => e3h.out x hx (Option.some.inj e))), gr_trans hgV hg9, ?_⟩
        rw [hKh.out] at hown9
        have := CMap.put (by omega : n ≤ 9) e2h.out e3h.out e4h.out hown9 hg9 hcrh.out
        exact this.mono (by have := hU2h.out; omega)
theorem bodies_any (M : Nat) : IBod M := by
  induction M with
  | zero => intro hand A ca b q n N F w h1 _ h2; omega
  | succ M ih => exact bodies_step M ih
end Go.Proofs.Ytlehnlfgjadleaa
