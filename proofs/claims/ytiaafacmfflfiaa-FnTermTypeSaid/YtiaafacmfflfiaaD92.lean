/- What is drawn: terms. -/
import Derived.Test.YtiaafacmfflfiaaDraw2
import Derived.Test.YtiaafacmfflfiaaTm
import Derived.Test.YtiaafacmfflfiaaType
import Derived.Test.YtiaafacmfflfiaaSText
import Derived.Test.YtiaafacmfflfiaaOwn
import Derived.Deep.QuietTactic
import Derived.BigQuiet
namespace Go.Proofs.Ytiaafacmfflfiaa
open Go.RowKit

def bnd (D K : Nat) : Nat := 100000 * 4 ^ D + 1000 * K
theorem bnd_step (D K : Nat) : 3 * bnd D 15 + 1000 ≤ bnd (D + 1) K := by
  have h : 1 ≤ 4 ^ D := Nat.one_le_pow _ _ (by decide)
  unfold bnd
  rw [Nat.pow_succ]
  generalize 4 ^ D = P at *
  omega
theorem bnd_lam (K : Nat) : bnd 0 K + 1000 ≤ bnd 0 (K + 1) := by unfold bnd; omega
theorem bnd_pos (D K : Nat) : 1000 ≤ bnd D K := by
  have h : 1 ≤ 4 ^ D := Nat.one_le_pow _ _ (by decide)
  unfold bnd
  generalize 4 ^ D = P at *
  omega
theorem bnd_le (D K : Nat) (hD : D ≤ 5) (hK : K ≤ 15) : bnd D K ≤ 1000000000 := by
  have h : 4 ^ D ≤ 4 ^ 5 := Nat.pow_le_pow_right (by decide) hD
  unfold bnd
  generalize 4 ^ D = P at *
  omega
/-- What one draw of a term leaves. -/
def L92Post (D K q p : Nat) (w : World) (e : Ending) (w' : World) : Prop :=
  ∃ t : Tm, t.wf = true ∧ t.small = true ∧ t.text.length ≤ bnd D K ∧ e = .returned (.string ⟨t.text.toArray⟩) ∧ (∃ p', p' ≤ p + bnd D K ∧ Rd w' q p') ∧ w.grownBy w' (some q)
/-- Draws of terms with D levels and types of K arguments. -/
def L92 (D K : Nat) : Prop := ∀ (f g : Nat → List UInt8) (n ca cb : Nat) (A B : Option Addr) (want : List UInt8) (dp : Int) (q p : Nat) (w : World), Rd w q p →
  Sl w (Ne q) A n (fun i => .string ⟨(f i).toArray⟩) → Sl w (Ne q) B n (fun i => .string ⟨(g i).toArray⟩) → (∀ i, i < n → isNm (f i) = true) → n + K + 20 * D ≤ 200 →
  (∀ t, Ty.read want = some t → t.args.length ≤ K) → want.length + 20 * D ≤ 1000 → (dp + 2).toNat = D → -100 ≤ dp - K → dp ≤ 3 → p + bnd D K ≤ 1000000000000 →
  Calls Try.prog 38 #[.pointer (some ⟨q, 0, none⟩), .slice A n ca, .slice B n cb, .string ⟨want.toArray⟩, .int .i64 dp] w (L92Post D K q p w)
theorem l92_leaf {D K q p p' : Nat} {w w' : World} {c : List UInt8} (hc : isWd c = true) (hr : Rd w' q p') (hp : p' ≤ p + 1000) (hg : w.grownBy w' (some q)) : L92Post D K q p w (.returned (.string ⟨c.toArray⟩)) w' :=
  ⟨.w c, hc, rfl, by have := bnd_pos D K; have := (isWd_noSep hc).2.2.1; simp only [Tm.text]; omega, rfl, ⟨p', by have := bnd_pos D K; omega, hr⟩, hg⟩
theorem l92_name {D K q p p' : Nat} {w w' : World} {x : List UInt8} (hx : isNm x = true) (hr : Rd w' q p') (hp : p' ≤ p + 1000) (hg : w.grownBy w' (some q)) : L92Post D K q p w (.returned (.string ⟨x.toArray⟩)) w' :=
  ⟨.nm x, hx, rfl, by have := bnd_pos D K; obtain ⟨_, _, _, _, h⟩ := isNm_head hx; simp only [Tm.text]; omega, rfl, ⟨p', by have := bnd_pos D K; omega, hr⟩, hg⟩
theorem l92_app {D' K q p p' : Nat} {w w' : World} {t1 t2 : Tm} (h1 : t1.wf = true ∧ t1.small = true ∧ t1.text.length ≤ bnd D' 15) (h2 : t2.wf = true ∧ t2.small = true ∧ t2.text.length ≤ bnd D' 15) (hr : Rd w' q p') (hp : p' ≤ p + bnd (D' + 1) K) (hg : w.grownBy w' (some q)) :
    L92Post (D' + 1) K q p w (.returned (.string (⟨#[40, 97, 112, 112, 32]⟩ ++ ⟨t1.text.toArray⟩ ++ ⟨#[32]⟩ ++ ⟨t2.text.toArray⟩ ++ ⟨#[41]⟩))) w' := by
  refine ⟨.app t1 t2, by simp [Tm.wf, h1.1, h2.1], by simp [Tm.small, h1.2.1, h2.2.1], ?_, ?_, ⟨p', hp, hr⟩, hg⟩
  · have := bnd_step D' K
    simp only [Tm.text, List.length_cons, List.length_append, appW, List.length_nil]
    omega
  · rw [ba_app, ba_app, ba_app, ba_app]
    simp [Tm.text, appW]
theorem l92_ite {D' K q p p' : Nat} {w w' : World} {t1 t2 t3 : Tm} (h1 : t1.wf = true ∧ t1.small = true ∧ t1.text.length ≤ bnd D' 15) (h2 : t2.wf = true ∧ t2.small = true ∧ t2.text.length ≤ bnd D' 15) (h3 : t3.wf = true ∧ t3.small = true ∧ t3.text.length ≤ bnd D' 15) (hr : Rd w' q p') (hp : p' ≤ p + bnd (D' + 1) K) (hg : w.grownBy w' (some q)) :
    L92Post (D' + 1) K q p w (.returned (.string (⟨#[40, 105, 102, 32]⟩ ++ ⟨t1.text.toArray⟩ ++ ⟨#[32]⟩ ++ ⟨t2.text.toArray⟩ ++ ⟨#[32]⟩ ++ ⟨t3.text.toArray⟩ ++ ⟨#[41]⟩))) w' := by
  refine ⟨.ite t1 t2 t3, by simp [Tm.wf, h1.1, h2.1, h3.1], by simp [Tm.small, h1.2.1, h2.2.1, h3.2.1], ?_, ?_, ⟨p', hp, hr⟩, hg⟩
  · have := bnd_step D' K
    simp only [Tm.text, List.length_cons, List.length_append, ifW, List.length_nil]
    omega
  · rw [ba_app, ba_app, ba_app, ba_app, ba_app, ba_app]
    simp [Tm.text, ifW]
theorem l92_lam {D K q p p' : Nat} {w w' : World} {x : List UInt8} {a : Ty} {t : Tm} (hx : isNm x = true ∧ x.length ≤ 1) (ha : a.atoms ≤ 15) (h1 : t.wf = true ∧ t.small = true ∧ t.text.length + 1000 ≤ bnd D K) (hr : Rd w' q p') (hp : p' ≤ p + bnd D K) (hg : w.grownBy w' (some q)) :
    L92Post D K q p w (.returned (.string (⟨#[40, 108, 97, 109, 32]⟩ ++ ⟨x.toArray⟩ ++ ⟨#[32]⟩ ++ ⟨a.text.toArray⟩ ++ ⟨#[32]⟩ ++ ⟨t.text.toArray⟩ ++ ⟨#[41]⟩))) w' := by
  refine ⟨.lam x a t, by simp [Tm.wf, h1.1, hx.1], by simp [Tm.small, h1.2.1, ha], ?_, ?_, ⟨p', hp, hr⟩, hg⟩
  · have := Ty.length_text a
    have := hx.2
    simp only [Tm.text, List.length_cons, List.length_append, lamW, List.length_nil]
    omega
  · rw [ba_app, ba_app, ba_app, ba_app, ba_app, ba_app]
    simp [Tm.text, lamW]
theorem targs_le {l : List UInt8} {t : Ty} (h : Ty.read l = some t) : t.args.length ≤ 15 := by
  have := Ty.length_args t
  have := (Ty.read_some h).2
  omega
def snocF (f : Nat → List UInt8) (n : Nat) (x : List UInt8) (i : Nat) : List UInt8 := if i < n then f i else x
theorem snoc_sl {w : World} {base q n cap : Nat} {A : Option Addr} {f : Nat → List UInt8} {x : List UInt8} (h : w.ownsRow base 9 1 (.slice A (n + 1) cap) (n + 1) ((List.range n).map (fun i => Value.string ⟨(f i).toArray⟩) ++ (List.range 1).map (fun _ => Value.string ⟨x.toArray⟩))) (hq : q < base) :
    Sl w (Ne q) A (n + 1) (fun i => .string ⟨(snocF f n x i).toArray⟩) := by
  obtain ⟨A', cap', e, hs⟩ := own_form h
  cases e
  have hs := hs (Ne q) (fun g hg => by have := own_base h hg; unfold Ne; omega)
  intro h0
  obtain ⟨g, o, e, hg, hc⟩ := hs (by omega)
  refine ⟨g, o, e, hg, fun i hi => ?_⟩
  rw [hc i (by omega)]
  unfold snocF
  by_cases hin : i < n
  · simp [List.getD, hin, List.getElem?_append_left]
  · obtain rfl : i = n := by omega
    simp [List.getD]
theorem snocF_nm {f : Nat → List UInt8} {n : Nat} {x : List UInt8} (h : ∀ i, i < n → isNm (f i) = true) (hx : isNm x = true) : ∀ i, i < n + 1 → isNm (snocF f n x i) = true := by
  intro i hi
  unfold snocF
  split
  · exact h i (by assumption)
  · exact hx
theorem l92_rec {D K n : Nat} {dp : Int} {c : Ty} (hA : ∀ D', D = D' + 1 → L92 D' 15) (hB : ∀ K', D = 0 → K = K' + 1 → L92 0 K') (hc : c.atoms ≤ 15) (hK : c.args.length + 1 ≤ K) (hn : n + K + 20 * D ≤ 200) (hD : (dp + 2).toNat = D) (hdp : -100 ≤ dp - K) :
    ∃ D2 K2, L92 D2 K2 ∧ bnd D2 K2 + 1000 ≤ bnd D K ∧ (n + 1) + K2 + 20 * D2 ≤ 200 ∧ (∀ t, Ty.read c.text = some t → t.args.length ≤ K2) ∧ c.text.length + 20 * D2 ≤ 1000 ∧ (dp - 1 + 2).toNat = D2 ∧ -100 ≤ dp - 1 - K2 := by
  have hl := Ty.length_text c
  have hr := Ty.read_text hc
  cases D with
  | zero =>
    obtain ⟨K', rfl⟩ : ∃ K', K = K' + 1 := ⟨K - 1, by omega⟩
    refine ⟨0, K', hB K' rfl rfl, bnd_lam K', by omega, fun t ht => ?_, by omega, by omega, by omega⟩
    rw [hr] at ht
    cases ht
    omega
  | succ D' =>
    refine ⟨D', 15, hA D' rfl, by have := bnd_step D' K; omega, by omega, fun t ht => targs_le ht, by omega, by omega, by omega⟩
/-- A function type's result, as the rest of the slice. -/
theorem treeV_tail {w : World} {F : Nat → Prop} {a c : Ty} {gA oA c1 : Nat} (h : TreeV w F (.slice (some ⟨gA, oA, none⟩) (c.args.length + 1) c1) (.arr a c)) (A' : Option Addr) (hA : c1 ≠ 1 → A' = some ⟨gA, oA + 1, none⟩) :
    TreeV w F (.slice A' c.args.length (c1 - 1)) c := by
  have hcap := h.cap
  have hln : (Ty.arr a c).args.length = c.args.length + 1 := rfl
  rw [hln] at hcap
  obtain ⟨_, _, vs, hv, hS, hch⟩ := h.open_
  injection hv with hv1 hv2 hv3
  subst hv1 hv3
  rw [hln] at hS
  obtain ⟨g', o', e, hgA, hcell⟩ := hS (by omega)
  cases e
  refine .mk c A' (c1 - 1) (fun i => vs (i + 1)) (fun h0 => ⟨gA, oA + 1, hA (by omega), hgA, fun i hi => ?_⟩) (fun i u hu => hch (i + 1) u hu) (by omega)
  have := hcell (i + 1) (by omega)
  rw [show oA + 1 + i = oA + (i + 1) by omega]
  exact this
def words3 : List (List UInt8) := [[116], [102], [117]]
theorem words3_wd : ∀ c ∈ words3, isWd c = true := by decide
def kinds3 : List (List UInt8) := [[98], [98], [40, 62, 32, 98, 32, 98, 41]]
theorem kinds3_le : ∀ c ∈ kinds3, c.length ≤ 7 := by decide
def xs3 : List (List UInt8) := [[120], [121], [122]]
theorem xs3_nm : ∀ c ∈ xs3, isNm c = true ∧ c.length ≤ 1 := by decide
set_option maxRecDepth 100000 in
set_option maxHeartbeats 40000000 in
/-- The first part: the names, or a word. -/
theorem l92_step (D K : Nat) (hA : ∀ D', D = D' + 1 → L92 D' 15) (hB : ∀ K', D = 0 → K = K' + 1 → L92 0 K') : L92 D K := by
  intro f g n ca cb A B want dp q p w hr hf hg hnm hnK hwK hwl hD hdp0 hdp3 hpb
  have hAh := Lib.hid hA
  have hBh := Lib.hid hB
  have hnmh := Lib.hid hnm
  have hwKh := Lib.hid hwK
  have hP7 := Lib.hid (pick_any q p 7 w hr (by omega) (by decide) (by decide))
  clear hA hB hnm hwK
  have hfk := Lib.hid (fun (W : World) (hW : w.grownBy W (some q)) => show Sl W (Ne q) A n (fun i => .string ⟨(f i).toArray⟩) from hf.keep fun b hb hl => hW.block b hl (fun e => hb (Option.some.inj e)))
  have hgk := Lib.hid (fun (W : World) (hW : w.grownBy W (some q)) => show Sl W (Ne q) B n (fun i => .string ⟨(g i).toArray⟩) from hg.keep fun b hb hl => hW.block b hl (fun e => hb (Option.some.inj e)))
  have hgw0 := gr_refl w (some q)
  clear hf hg
  go_enter Try.func38, Try.ntmps38
  by_cases hd0 : dp ≤ 0
  case' pos =>
    obtain ⟨p1, hpe⟩ : ∃ (p1 : Nat), p1 = p := ⟨_, rfl⟩
    have hr1 : Rd w q p1 := by rw [hpe]; exact hr
    have hg1 := hgw0
    have hp1 : p1 ≤ p + 1 := by omega
    clear hpe
    go_wp2_with fail
  case' neg =>
    go_wp2_with fail
    refine hP7.out.mono ?_
    rintro e w1 ⟨i7, hi7, rfl, hr1, hg1⟩
    obtain ⟨p1, hpe⟩ : ∃ (p1 : Nat), p1 = p + 1 := ⟨_, rfl⟩
    rw [← hpe] at hr1
    have hp1 : p1 ≤ p + 1 := by omega
    clear hpe
    by_cases hi0 : i7 = 0
    case' pos =>
      subst hi0
      go_wp2_with fail
    case' neg =>
      have hib : ((i7 : Int) == 0) = false := by rw [beq_eq_false_iff_ne]; omega
      obtain ⟨w2, hw2⟩ : ∃ (w2 : World), w2 = w1 := ⟨_, rfl⟩
      obtain ⟨p2, hp2e⟩ : ∃ (p2 : Nat), p2 = p1 := ⟨_, rfl⟩
      rw [← hw2, ← hp2e] at hr1
      rw [← hw2] at hg1
      have hr2 := hr1
      have hg2 := hg1
      have hp2 : p2 ≤ p + 1 + n := by omega
      clear hi0 hr1 hg1 hp1 hp2e hi7
      go_wp2_with fail
      rw [← hw2]
      clear hw2
  case' pos =>
    go_loopw [12] (fun i wr => ∃ (j p2 : Nat), j ≤ n ∧ i = .int .i64 ((j : Int) - 1) ∧ p2 + j ≤ p1 + n ∧ Rd wr q p2 ∧ w.grownBy wr (some q)) (fun i _ => (intOf i + 1).toNat)
  case' atStart => exact ⟨n, p1, Nat.le_refl _, rfl, Nat.le_refl _, hr1, hg1⟩
  case' round =>
    obtain ⟨j, p2, hj, rfl, hp2, hr2, hg2⟩ := hrel
    obtain ⟨w2, hw2⟩ : ∃ (w2 : World), w2 = wr := ⟨_, rfl⟩
    rw [← hw2] at hr2 hg2
    have hp2' : p2 ≤ p + 1 + n := by omega
    by_cases hj0 : j = 0
    case' pos =>
      clear hr1 hg1 hp1 hp2
      subst hj0
      by_cases hb : want = [98]
      case pos =>
        subst hb
        have hga := World.grownBy_alloc w2 (.cells (words3.map fun t => Value.string ⟨t.toArray⟩).toArray 9) none
        have hO := Lib.hid (of_any q p2 _ _ 3 _ _ (hr2.grown0 hga) (by omega) (by decide) (by decide) (lits_sl w2 q hr2.lt words3))
        rw [← hw2]
        clear hw2
        go_wp2_with fail
        refine hO.out.mono ?_
        rintro e w3 ⟨i3, hi3, rfl, hr3, hg3⟩
        go_wp2_with fail
        go_ret
        have h3 : i3 < words3.length := by simpa [words3] using hi3
        have hF : L92Post D K q p w _ w3 := l92_leaf (words3_wd _ (List.getElem_mem h3)) hr3 (by omega) (gr_trans hg2 (gr_trans (gr_weak hga _) hg3))
        exact hF
      case' neg =>
        have hb2 : (want == [98]) = false := by rw [beq_eq_false_iff_ne]; exact hb
        go_wp2_with fail
        rw [← hw2]
        clear hw2 hb hb2
    case neg =>
      clear hr1 hg1
      obtain ⟨jj, rfl⟩ : ∃ jj, j = jj + 1 := ⟨j - 1, by omega⟩
      clear hj0
      have ej : (((jj + 1 : Nat) : Int) - 1) = (jj : Int) := by omega
      rw [ej]
      rw [← hw2]
      clear hw2 ej
      have hfj := hfk.out _ hg2
      have hgj := hgk.out _ hg2
      obtain ⟨gf, of, rfl, hqf, hcf⟩ := hfj (by omega)
      obtain ⟨gg, og, rfl, hqg, hcg⟩ := hgj (by omega)
      have cf := hcf jj (by omega)
      have cg := hcg jj (by omega)
      have hcfh := Lib.hid hcf
      have hlf := World.block_lt_of_cell? w2 ⟨gf, of + jj, none⟩ cf
      have hlg := World.block_lt_of_cell? w2 ⟨gg, og + jj, none⟩ cg
      have hkf := Lib.hid (fun (W : World) (hW : w2.grownBy W none) (kk : Nat) (h : kk < n) => (World.cell?_of_block (w := w2) (a := ⟨gf, of + kk, none⟩) (hW.block gf hlf (by simp))).trans (hcf kk h))
      have hkg := Lib.hid (fun (W : World) (hW : w2.grownBy W none) => (World.cell?_of_block (w := w2) (a := ⟨gg, og + jj, none⟩) (hW.block gg hlg (by simp))).trans cg)
      clear hfj hgj hcf hcg cf cg hcfh
      have hrf := gr_refl w2 none
      have hP4 := Lib.hid (fun (W : World) (hW : w2.grownBy W none) => pick_any q p2 4 W (hr2.grown0 hW) (by omega) (by decide) (by decide))
      go_wp2_with fail
      go_loopw [13, 14] (fun s k wi => ∃ (b : Bool) (kk : Nat), kk ≤ n ∧ s = .bool b ∧ k = .int .i64 (kk : Int) ∧ w2.grownBy wi none) (fun _ k _ => n - (intOf k).toNat)
      case atStart => exact ⟨false, jj + 1, by omega, rfl, by go_num, hrf⟩
      case round =>
        obtain ⟨b, kk, hkk, rfl, rfl, hgi⟩ := hrel
        obtain ⟨wi, hwi⟩ : ∃ wi, wi = wr := ⟨_, rfl⟩
        rw [← hwi] at hgi ⊢
        clear hwi
        have cg := hkg.out _ hgi
        have cf := hkf.out _ hgi jj (by omega)
        by_cases hkn : kk < n
        · have ck := hkf.out _ hgi kk hkn
          have hgd := gr_drew hgi
          cases b with
          | true =>
            go_wp2_with fail
            go_quiet (fail)
            go_wp2_with fail
            go_roundw
            case rel => exact ⟨true, kk + 1, by omega, rfl, by go_num, gr_drewN hgi _⟩
            case measure => simp [intOf]; omega
          | false =>
            go_wp2_with fail
            go_quiet (fail)
            go_wp2_with fail
            go_roundw
            case rel => exact ⟨_, kk + 1, by omega, rfl, by go_num, gr_drewN hgi _⟩
            case measure => simp [intOf]; omega
        · have hrE := Lib.hid (hr2.grown0 hgi)
          have hgE := Lib.hid (gr_trans hg2 (gr_weak hgi (some q)))
          have hP := Lib.hid (hP4.out wi hgi)
          cases b with
          | true =>
            go_wp2_with fail
            exact ⟨⟨jj, p2, by omega, rfl, by omega, hrE.out, hgE.out⟩, by simp [intOf]⟩
          | false =>
            by_cases hwt : g jj = want
            · have hwt2 : (g jj == want) = true := by rw [hwt]; exact beq_self_eq_true _
              go_wp2_with fail
              refine hP.out.mono ?_
              rintro e w4 ⟨i4, hi4, rfl, hr4, hg4⟩
              by_cases h40 : i4 = 0
              · subst h40
                go_wp2_with fail
                exact ⟨⟨jj, p2 + 1, by omega, rfl, by omega, hr4, gr_trans hgE.out hg4⟩, by simp [intOf]⟩
              · have cf4 : w4.cell? ⟨gf, of + jj, none⟩ = some (.string ⟨(f jj).toArray⟩) := (World.cell?_of_block (w := wi) (a := ⟨gf, of + jj, none⟩) (hg4.block gf (World.block_lt_of_cell? wi ⟨gf, of + jj, none⟩ cf) (by unfold Ne at hqf; simpa using hqf))).trans cf
                go_wp2_with fail
                go_ret
                exact l92_name (hnmh.out jj (by omega)) hr4 (by omega) (gr_trans hgE.out hg4)
            · have hwt2 : (g jj == want) = false := by rw [beq_eq_false_iff_ne]; exact hwt
              go_wp2_with fail
              exact ⟨⟨jj, p2, by omega, rfl, by omega, hrE.out, hgE.out⟩, by simp [intOf]⟩
  case' pos =>
    go_loopw [12] (fun i wr => ∃ (j p2 : Nat), j ≤ n ∧ i = .int .i64 ((j : Int) - 1) ∧ p2 + j ≤ p1 + n ∧ Rd wr q p2 ∧ w.grownBy wr (some q)) (fun i _ => (intOf i + 1).toNat)
  case' atStart => exact ⟨n, p1, Nat.le_refl _, rfl, Nat.le_refl _, hr1, hg1⟩
  case' round =>
    obtain ⟨j, p2, hj, rfl, hp2, hr2, hg2⟩ := hrel
    obtain ⟨w2, hw2⟩ : ∃ (w2 : World), w2 = wr := ⟨_, rfl⟩
    rw [← hw2] at hr2 hg2
    have hp2' : p2 ≤ p + 1 + n := by omega
    by_cases hj0 : j = 0
    case' pos =>
      clear hr1 hg1 hp1 hp2
      subst hj0
      by_cases hb : want = [98]
      case pos =>
        subst hb
        have hga := World.grownBy_alloc w2 (.cells (words3.map fun t => Value.string ⟨t.toArray⟩).toArray 9) none
        have hO := Lib.hid (of_any q p2 _ _ 3 _ _ (hr2.grown0 hga) (by omega) (by decide) (by decide) (lits_sl w2 q hr2.lt words3))
        rw [← hw2]
        clear hw2
        go_wp2_with fail
        refine hO.out.mono ?_
        rintro e w3 ⟨i3, hi3, rfl, hr3, hg3⟩
        go_wp2_with fail
        go_ret
        have h3 : i3 < words3.length := by simpa [words3] using hi3
        have hF : L92Post D K q p w _ w3 := l92_leaf (words3_wd _ (List.getElem_mem h3)) hr3 (by omega) (gr_trans hg2 (gr_trans (gr_weak hga _) hg3))
        exact hF
      case' neg =>
        have hb2 : (want == [98]) = false := by rw [beq_eq_false_iff_ne]; exact hb
        go_wp2_with fail
        rw [← hw2]
        clear hw2 hb hb2
    case neg =>
      clear hr1 hg1
      obtain ⟨jj, rfl⟩ : ∃ jj, j = jj + 1 := ⟨j - 1, by omega⟩
      clear hj0
      have ej : (((jj + 1 : Nat) : Int) - 1) = (jj : Int) := by omega
      rw [ej]
      rw [← hw2]
      clear hw2 ej
      have hfj := hfk.out _ hg2
      have hgj := hgk.out _ hg2
      obtain ⟨gf, of, rfl, hqf, hcf⟩ := hfj (by omega)
      obtain ⟨gg, og, rfl, hqg, hcg⟩ := hgj (by omega)
      have cf := hcf jj (by omega)
      have cg := hcg jj (by omega)
      have hcfh := Lib.hid hcf
      have hlf := World.block_lt_of_cell? w2 ⟨gf, of + jj, none⟩ cf
      have hlg := World.block_lt_of_cell? w2 ⟨gg, og + jj, none⟩ cg
      have hkf := Lib.hid (fun (W : World) (hW : w2.grownBy W none) (kk : Nat) (h : kk < n) => (World.cell?_of_block (w := w2) (a := ⟨gf, of + kk, none⟩) (hW.block gf hlf (by simp))).trans (hcf kk h))
      have hkg := Lib.hid (fun (W : World) (hW : w2.grownBy W none) => (World.cell?_of_block (w := w2) (a := ⟨gg, og + jj, none⟩) (hW.block gg hlg (by simp))).trans cg)
      clear hfj hgj hcf hcg cf cg hcfh
      have hrf := gr_refl w2 none
      have hP4 := Lib.hid (fun (W : World) (hW : w2.grownBy W none) => pick_any q p2 4 W (hr2.grown0 hW) (by omega) (by decide) (by decide))
      go_wp2_with fail
      go_loopw [13, 14] (fun s k wi => ∃ (b : Bool) (kk : Nat), kk ≤ n ∧ s = .bool b ∧ k = .int .i64 (kk : Int) ∧ w2.grownBy wi none) (fun _ k _ => n - (intOf k).toNat)
      case atStart => exact ⟨false, jj + 1, by omega, rfl, by go_num, hrf⟩
      case round =>
        obtain ⟨b, kk, hkk, rfl, rfl, hgi⟩ := hrel
        obtain ⟨wi, hwi⟩ : ∃ wi, wi = wr := ⟨_, rfl⟩
        rw [← hwi] at hgi ⊢
        clear hwi
        have cg := hkg.out _ hgi
        have cf := hkf.out _ hgi jj (by omega)
        by_cases hkn : kk < n
        · have ck := hkf.out _ hgi kk hkn
          have hgd := gr_drew hgi
          cases b with
          | true =>
            go_wp2_with fail
            go_quiet (fail)
            go_wp2_with fail
            go_roundw
            case rel => exact ⟨true, kk + 1, by omega, rfl, by go_num, gr_drewN hgi _⟩
            case measure => simp [intOf]; omega
          | false =>
            go_wp2_with fail
            go_quiet (fail)
            go_wp2_with fail
            go_roundw
            case rel => exact ⟨_, kk + 1, by omega, rfl, by go_num, gr_drewN hgi _⟩
            case measure => simp [intOf]; omega
        · have hrE := Lib.hid (hr2.grown0 hgi)
          have hgE := Lib.hid (gr_trans hg2 (gr_weak hgi (some q)))
          have hP := Lib.hid (hP4.out wi hgi)
          cases b with
          | true =>
            go_wp2_with fail
            exact ⟨⟨jj, p2, by omega, rfl, by omega, hrE.out, hgE.out⟩, by simp [intOf]⟩
          | false =>
            by_cases hwt : g jj = want
            · have hwt2 : (g jj == want) = true := by rw [hwt]; exact beq_self_eq_true _
              go_wp2_with fail
              refine hP.out.mono ?_
              rintro e w4 ⟨i4, hi4, rfl, hr4, hg4⟩
              by_cases h40 : i4 = 0
              · subst h40
                go_wp2_with fail
                exact ⟨⟨jj, p2 + 1, by omega, rfl, by omega, hr4, gr_trans hgE.out hg4⟩, by simp [intOf]⟩
              · have cf4 : w4.cell? ⟨gf, of + jj, none⟩ = some (.string ⟨(f jj).toArray⟩) := (World.cell?_of_block (w := wi) (a := ⟨gf, of + jj, none⟩) (hg4.block gf (World.block_lt_of_cell? wi ⟨gf, of + jj, none⟩ cf) (by unfold Ne at hqf; simpa using hqf))).trans cf
                go_wp2_with fail
                go_ret
                exact l92_name (hnmh.out jj (by omega)) hr4 (by omega) (gr_trans hgE.out hg4)
            · have hwt2 : (g jj == want) = false := by rw [beq_eq_false_iff_ne]; exact hwt
              go_wp2_with fail
              exact ⟨⟨jj, p2, by omega, rfl, by omega, hrE.out, hgE.out⟩, by simp [intOf]⟩
  all_goals (
    have hP6 := Lib.hid (pick_any q p2 6 w2 hr2 (by omega) (by decide) (by decide))
    clear hr2
    refine hP6.out.mono ?_
    rintro e w3 ⟨i6, hi6, rfl, hr3, hg3⟩
    have hg03 := gr_trans hg2 hg3
    have hnn := Lib.hid hnK
    have hww := Lib.hid hwl
    have hn2 : n ≤ 200 := by omega
    have hw2 : want.length ≤ 1000 := by omega
    clear hnK hwl hg2 hg3 hP6 hP7 hgw0
    by_cases hi0 : i6 = 0
    case' pos =>
      subst hi0
      by_cases hd2 : dp ≤ -2
      case' pos =>
        go_wp2_with fail
      case neg =>
        obtain ⟨D', hD'⟩ : ∃ D', D = D' + 1 := ⟨D - 1, by omega⟩
        have hst := bnd_step D' K
        have hLa := Lib.hid (hAh.out D' hD')
        have hbk : bnd D K = bnd (D' + 1) K := by rw [hD']
        have hga := World.grownBy_alloc w3 (.cells (kinds3.map fun t => Value.string ⟨t.toArray⟩).toArray 9) none
        have hO := Lib.hid (of_any q (p2 + 1) _ _ 3 _ _ (hr3.grown0 hga) (by omega) (by decide) (by decide) (lits_sl w3 q hr3.lt kinds3))
        go_wp2_with fail
        refine hO.out.mono ?_
        rintro e w4 ⟨i3, hi3, rfl, hr4, hg4⟩
        have h3 : i3 < kinds3.length := by simpa [kinds3] using hi3
        have e3 : kinds3.getD i3 [] = kinds3[i3] := by simp [List.getD, h3]
        rw [e3]
        have hkl := kinds3_le _ (List.getElem_mem h3)
        generalize kinds3[i3] = kd at *
        have hg04 := gr_trans hg03 (gr_trans (gr_weak hga _) hg4)
        clear e3 h3 hO hga hr3
        have hc1 := Lib.hid (hLa.out f g n ca cb A B ([40, 62, 32] ++ kd ++ [32] ++ want ++ [41]) (dp - 1) q (p2 + 2) w4 hr4 (hfk.out _ hg04) (hgk.out _ hg04) hnmh.out (by have := hnn.out; omega) (fun t ht => targs_le ht) (by have := hww.out; simp only [List.length_append, List.length_cons, List.length_nil]; omega) (by omega) (by omega) (by omega) (by omega))
        go_wp2_with fail
        rw [ba_app, ba_app, ba_app, ba_app]
        refine hc1.out.mono ?_
        rintro e w5 ⟨t1, f1, f2, f3, rfl, ⟨p5, hp5, hr5⟩, hg5⟩
        have hg05 := gr_trans hg04 hg5
        have hc2 := Lib.hid (hLa.out f g n ca cb A B kd (dp - 1) q p5 w5 hr5 (hfk.out _ hg05) (hgk.out _ hg05) hnmh.out (by have := hnn.out; omega) (fun t ht => targs_le ht) (by have := hww.out; omega) (by omega) (by omega) (by omega) (by omega))
        clear hc1 hg04 hg5 hr5
        go_wp2_with fail
        refine hc2.out.mono ?_
        rintro e w6 ⟨t2, g1, g2, g3, rfl, ⟨p6, hp6, hr6⟩, hg6⟩
        subst hD'
        go_wp2_with fail
        go_ret
        exact l92_app ⟨f1, f2, f3⟩ ⟨g1, g2, g3⟩ hr6 (by omega) (gr_trans hg05 hg6)
    case' neg =>
      have hib0 : ((i6 : Int) == 0) = false := by rw [beq_eq_false_iff_ne]; omega
      by_cases hi1 : i6 = 1
      case' pos =>
        subst hi1
        by_cases hd2 : dp ≤ -2
        case' pos =>
          go_wp2_with fail
        case neg =>
          obtain ⟨D', hD'⟩ : ∃ D', D = D' + 1 := ⟨D - 1, by omega⟩
          have hst := bnd_step D' K
          have hLa := Lib.hid (hAh.out D' hD')
          have hbk : bnd D K = bnd (D' + 1) K := by rw [hD']
          have hc1 := Lib.hid (hLa.out f g n ca cb A B [98] (dp - 1) q (p2 + 1) w3 hr3 (hfk.out _ hg03) (hgk.out _ hg03) hnmh.out (by have := hnn.out; omega) (fun t ht => targs_le ht) (by have := hww.out; simp only [List.length_cons, List.length_nil]; omega) (by omega) (by omega) (by omega) (by omega))
          go_wp2_with fail
          refine hc1.out.mono ?_
          rintro e w5 ⟨t1, f1, f2, f3, rfl, ⟨p5, hp5, hr5⟩, hg5⟩
          have hg05 := gr_trans hg03 hg5
          have hc2 := Lib.hid (hLa.out f g n ca cb A B want (dp - 1) q p5 w5 hr5 (hfk.out _ hg05) (hgk.out _ hg05) hnmh.out (by have := hnn.out; omega) (fun t ht => targs_le ht) (by have := hww.out; omega) (by omega) (by omega) (by omega) (by omega))
          clear hc1 hg5 hr5 hr3
          go_wp2_with fail
          refine hc2.out.mono ?_
          rintro e w6 ⟨t2, g1, g2, g3, rfl, ⟨p6, hp6, hr6⟩, hg6⟩
          have hg06 := gr_trans hg05 hg6
          have hc3 := Lib.hid (hLa.out f g n ca cb A B want (dp - 1) q p6 w6 hr6 (hfk.out _ hg06) (hgk.out _ hg06) hnmh.out (by have := hnn.out; omega) (fun t ht => targs_le ht) (by have := hww.out; omega) (by omega) (by omega) (by omega) (by omega))
          clear hc2 hg6 hr6
          go_wp2_with fail
          refine hc3.out.mono ?_
          rintro e w7 ⟨t3, k1, k2, k3, rfl, ⟨p7, hp7, hr7⟩, hg7⟩
          subst hD'
          go_wp2_with fail
          go_ret
          exact l92_ite ⟨f1, f2, f3⟩ ⟨g1, g2, g3⟩ ⟨k1, k2, k3⟩ hr7 (by omega) (gr_trans hg06 hg7)
      case' neg =>
        have hib1 : ((i6 : Int) == 1) = false := by rw [beq_eq_false_iff_ne]; omega
        by_cases hi2 : i6 = 2
        case' pos =>
          subst hi2
          by_cases hd2 : dp ≤ -2
          case' pos =>
            go_wp2_with fail
          case neg =>
            obtain ⟨D', hD'⟩ : ∃ D', D = D' + 1 := ⟨D - 1, by omega⟩
            have hst := bnd_step D' K
            have hLa := Lib.hid (hAh.out D' hD')
            have hbk : bnd D K = bnd (D' + 1) K := by rw [hD']
            have hc1 := Lib.hid (hLa.out f g n ca cb A B [98] (dp - 1) q (p2 + 1) w3 hr3 (hfk.out _ hg03) (hgk.out _ hg03) hnmh.out (by have := hnn.out; omega) (fun t ht => targs_le ht) (by have := hww.out; simp only [List.length_cons, List.length_nil]; omega) (by omega) (by omega) (by omega) (by omega))
            go_wp2_with fail
            refine hc1.out.mono ?_
            rintro e w5 ⟨t1, f1, f2, f3, rfl, ⟨p5, hp5, hr5⟩, hg5⟩
            have hg05 := gr_trans hg03 hg5
            have hc2 := Lib.hid (hLa.out f g n ca cb A B want (dp - 1) q p5 w5 hr5 (hfk.out _ hg05) (hgk.out _ hg05) hnmh.out (by have := hnn.out; omega) (fun t ht => targs_le ht) (by have := hww.out; omega) (by omega) (by omega) (by omega) (by omega))
            clear hc1 hg5 hr5 hr3
            go_wp2_with fail
            refine hc2.out.mono ?_
            rintro e w6 ⟨t2, g1, g2, g3, rfl, ⟨p6, hp6, hr6⟩, hg6⟩
            have hg06 := gr_trans hg05 hg6
            have hc3 := Lib.hid (hLa.out f g n ca cb A B want (dp - 1) q p6 w6 hr6 (hfk.out _ hg06) (hgk.out _ hg06) hnmh.out (by have := hnn.out; omega) (fun t ht => targs_le ht) (by have := hww.out; omega) (by omega) (by omega) (by omega) (by omega))
            clear hc2 hg6 hr6
            go_wp2_with fail
            refine hc3.out.mono ?_
            rintro e w7 ⟨t3, k1, k2, k3, rfl, ⟨p7, hp7, hr7⟩, hg7⟩
            subst hD'
            go_wp2_with fail
            go_ret
            exact l92_ite ⟨f1, f2, f3⟩ ⟨g1, g2, g3⟩ ⟨k1, k2, k3⟩ hr7 (by omega) (gr_trans hg06 hg7)
        case' neg =>
          have hib2 : ((i6 : Int) == 2) = false := by rw [beq_eq_false_iff_ne]; omega
          go_wp2_with fail
    all_goals (
      have hgw03 := Lib.hid hg03
      refine (l1Type_any want w3 (by omega)).mono ?_
      rintro e w4 ⟨hg4, hm⟩
      have hr4 := hr3.grown0 hg4
      have hg04 := gr_trans hg03 (gr_weak hg4 (some q))
      have hp4 : p2 + 1 ≤ p + 300 := by omega
      clear hr3 hg03 hg4
      cases hT : Ty.read want with
      | none =>
        rw [hT] at hm
        obtain ⟨t, A1, c1, rfl, hA1⟩ := hm
        have hga := World.grownBy_alloc w4 (.cells #[.slice A1 t.args.length c1] 43) none
        have hgb := gr_alloc hga (.cells (words3.map fun t => Value.string ⟨t.toArray⟩).toArray 9)
        have hO := Lib.hid (of_any q (p2 + 1) _ _ 3 _ _ (hr4.grown0 hgb) (by omega) (by decide) (by decide) (lits_sl (w4.alloc (.cells #[.slice A1 t.args.length c1] 43)) q (hr4.grown0 hga).lt words3))
        simp only [World.size_alloc] at hO
        go_wp2_with fail
        refine hO.out.mono ?_
        rintro e w5 ⟨i3, hi3, rfl, hr5, hg5⟩
        have h3 : i3 < words3.length := by simpa [words3] using hi3
        go_wp2_with fail
        go_ret
        exact l92_leaf (words3_wd _ (List.getElem_mem h3)) hr5 (by omega) (gr_trans hg04 (gr_trans (gr_weak hgb (some q)) hg5))
      | some t =>
        rw [hT] at hm
        obtain ⟨A1, c1, rfl, hA1⟩ := hm
        have hK := hwKh.out t hT
        have ht15 := (Ty.read_some hT).2
        have htx := (Ty.read_some hT).1
        cases t with
        | b =>
          have hga := World.grownBy_alloc w4 (.cells #[.slice A1 Ty.b.args.length c1] 43) none
          have hgb := gr_alloc hga (.cells (words3.map fun t => Value.string ⟨t.toArray⟩).toArray 9)
          have hO := Lib.hid (of_any q (p2 + 1) _ _ 3 _ _ (hr4.grown0 hgb) (by omega) (by decide) (by decide) (lits_sl (w4.alloc (.cells #[.slice A1 Ty.b.args.length c1] 43)) q (hr4.grown0 hga).lt words3))
          simp only [World.size_alloc] at hO
          go_wp2_with fail
          refine hO.out.mono ?_
          rintro e w5 ⟨i3, hi3, rfl, hr5, hg5⟩
          have h3 : i3 < words3.length := by simpa [words3] using hi3
          go_wp2_with fail
          go_ret
          exact l92_leaf (words3_wd _ (List.getElem_mem h3)) hr5 (by omega) (gr_trans hg04 (gr_trans (gr_weak hgb (some q)) hg5))
        | arr a c =>
          have hcap := hA1.cap
          obtain ⟨_, _, vs, hv, hS, hch⟩ := hA1.open_
          injection hv with hv1 hv2 hv3
          subst hv1 hv3
          clear hv2
          have hln : (Ty.arr a c).args.length = c.args.length + 1 := rfl
          rw [hln] at hS hcap hK ⊢
          obtain ⟨gA, oA, rfl, hgA, hcell⟩ := hS (by omega)
          obtain ⟨A2, c2, vs2, hv0, hS2, hch2⟩ := (hch 0 a rfl).open_
          have hTa : TreeV w4 (Fr w3.heap.size) (.slice A2 a.args.length c2) a := by rw [← hv0]; exact hch 0 a rfl
          have hc0 := hcell 0 (by omega)
          rw [hv0, Nat.add_zero] at hc0
          rw [hln] at hA1
          have hTc := Lib.hid (fun A' h => treeV_tail hA1 A' h)
          have hga := World.grownBy_alloc w4 (.cells #[.slice (some ⟨gA, oA, none⟩) (c.args.length + 1) c1] 43) none
          have hbx := Blk.new w4 43 #[.slice (some ⟨gA, oA, none⟩) (c.args.length + 1) c1]
          have hlA : gA < w4.heap.size := World.block_lt_of_cell? w4 ⟨gA, oA, none⟩ hc0
          have hc0' := (World.cell?_of_block (w := w4) (a := ⟨gA, oA, none⟩) (hga.block gA hlA (by simp))).trans hc0
          have hat : a.atoms ≤ 15 ∧ c.atoms ≤ 15 := by simp only [Ty.atoms] at ht15; omega
          have hX := Lib.hid (fun W hW => l1Text_any a.atoms a A2 c2 _ W (Nat.le_refl _) (by omega) (hTa.grown0 hW))
          clear hcell hch hS hS2 hch2 hv0 hA1 hc0
          go_wp2_with fail
          refine (hX.out _ hga).mono ?_
          rintro e w5 ⟨rfl, hg5⟩
          have hb5 := (hbx.grown0 hg5).cell 0
          simp only [List.getElem?_toArray, List.getElem?_cons_zero] at hb5
          have hl5 := (hbx.grown0 hg5).lt
          have hg45 := gr_trans hga hg5
          clear hX hc0' hbx
          by_cases hc1 : c1 = 1
          case' pos =>
            subst hc1
            have hTc1 := (hTc.out (some ⟨gA, oA, none⟩) (fun h => absurd rfl h)).grown0 hg45
            have h0 : c.args.length = 0 := by omega
            have hX := Lib.hid (l1Text_any c.atoms c _ _ _ w5 (Nat.le_refl _) (by omega) hTc1)
            rw [h0] at hX
            go_wp2_with fail
            refine hX.out.mono ?_
          case' neg =>
            have hTc1 := (hTc.out (some ⟨gA, oA + 1, none⟩) (fun _ => rfl)).grown0 hg45
            have hX := Lib.hid (l1Text_any c.atoms c _ _ _ w5 (Nat.le_refl _) (by omega) hTc1)
            go_wp2_with fail
            refine hX.out.mono ?_
          all_goals (
            rintro e w6 ⟨rfl, hg6⟩
            have hg46 := gr_trans hg45 hg6
            clear hX hTc1 hTc hg45 hg6 hb5 hl5 hTa hg5
            have hgb := World.grownBy_alloc w6 (.cells (xs3.map fun t => Value.string ⟨t.toArray⟩).toArray 9) none
            have hr6 := hr4.grown0 hg46
            have hO := Lib.hid (of_any q (p2 + 1) _ _ 3 _ _ (hr6.grown0 hgb) (by omega) (by decide) (by decide) (lits_sl w6 q hr6.lt xs3))
            go_wp2_with fail
            refine hO.out.mono ?_
            rintro e w7 ⟨i3, hi3, rfl, hr7, hg7⟩
            have h3 : i3 < xs3.length := by simpa [xs3] using hi3
            have e3 : xs3.getD i3 [] = xs3[i3] := by simp [List.getD, h3]
            rw [e3]
            have hxn := xs3_nm _ (List.getElem_mem h3)
            generalize xs3[i3] = x at *
            have hg07 := gr_trans hg04 (gr_trans (gr_weak (gr_trans hg46 hgb) (some q)) hg7)
            have hal : a.text.length ≤ 45 := by have := Ty.length_text a; omega
            have hxl := hxn.2
            have hE7 := own_empty (w := w7) (base := w7.heap.size) 9 (Nat.le_refl _)
            have hg7a := World.grownBy_alloc w7 (.cells #[] 9) none
            have hf7 := hfk.out _ (gr_trans hg07 (gr_weak hg7a (some q)))
            have hq7 := hr7.lt
            have hb0 : w7.heap.size ≤ (w7.alloc (.cells #[] 9)).heap.size := by rw [World.size_alloc]; omega
            clear e3 h3 hO hgb hr6 hr4 hg7 hg46
            go_wp2_with (at_builtin; first
              | (refine wpList_app rfl _ _ 53 rfl w7.heap.size 9 (.string ⟨#[]⟩) 16 Try.underlying53 info_str rfl _ _ _ _ rfl hE7 _ n ca _ rfl _ hf7 (fun _ _ => rfl) (by unfold maxLen; omega) (by omega) hb0 ?_; intro A8 c8 w8 hown8 hg8 hat8; simp only [Nat.zero_add, List.nil_append] at hown8; have hgn8 := gr_own (gr_trans (gr_refl w7 none) hg7a) hE7 hg8; have hown8b := own_keep hown8 (World.grownBy_alloc w8 (.cells #[.string ⟨x.toArray⟩] 9) none); have hb8 : w7.heap.size ≤ (w8.alloc (.cells #[.string ⟨x.toArray⟩] 9)).heap.size := by have := hgn8.size; rw [World.size_alloc]; omega)
              | (refine wpList_app rfl _ _ 53 rfl w7.heap.size 9 (.string ⟨#[]⟩) 16 Try.underlying53 info_str rfl _ _ _ _ rfl hown8b _ 1 1 _ rfl _ (sl_one w8 9 (.string ⟨x.toArray⟩)) (fun _ _ => rfl) (by unfold maxLen; omega) (by omega) hb8 ?_; intro A9 c9 w9 hown9 hg9 hat9; have hgn9 := gr_own (gr_alloc hgn8 _) hown8b hg9; have hE9 := own_empty (w := w9) (base := w9.heap.size) 9 (Nat.le_refl _); have hg9a := World.grownBy_alloc w9 (.cells #[] 9) none; have hf9 := hgk.out _ (gr_trans hg07 (gr_weak (gr_trans hgn9 hg9a) (some q))); have hb9 : w9.heap.size ≤ (w9.alloc (.cells #[] 9)).heap.size := by rw [World.size_alloc]; omega)
              | (refine wpList_app rfl _ _ 53 rfl w9.heap.size 9 (.string ⟨#[]⟩) 16 Try.underlying53 info_str rfl _ _ _ _ rfl hE9 _ n cb _ rfl _ hf9 (fun _ _ => rfl) (by unfold maxLen; omega) (by omega) hb9 ?_; intro A10 c10 w10 hown10 hg10 hat10; simp only [Nat.zero_add, List.nil_append] at hown10; have hgn10 := gr_own (gr_trans (gr_refl w9 none) hg9a) hE9 hg10; have hown10b := own_keep hown10 (World.grownBy_alloc w10 (.cells #[.string ⟨a.text.toArray⟩] 9) none); have hb10 : w9.heap.size ≤ (w10.alloc (.cells #[.string ⟨a.text.toArray⟩] 9)).heap.size := by have := hgn10.size; rw [World.size_alloc]; omega)
              | (refine wpList_app rfl _ _ 53 rfl w9.heap.size 9 (.string ⟨#[]⟩) 16 Try.underlying53 info_str rfl _ _ _ _ rfl hown10b _ 1 1 _ rfl _ (sl_one w10 9 (.string ⟨a.text.toArray⟩)) (fun _ _ => rfl) (by unfold maxLen; omega) (by omega) hb10 ?_; intro A11 c11 w11 hown11 hg11 hat11; have hgn11 := gr_own (gr_alloc hgn10 _) hown10b hg11))
            obtain ⟨D2, K2, hL, hb2, hn3, hw3, hl3, hD2, hdp2⟩ := l92_rec hAh.out hBh.out hat.2 hK hnn.out hD hdp0
            have hq9 : q < w9.heap.size := by have := hgn9.size; omega
            have hcR := Lib.hid (hL (snocF f n x) (snocF g n a.text) (n + 1) c9 c11 A9 A11 c.text (dp - 1) q (p2 + 1 + 1) w11 (hr7.grown0 (gr_trans hgn9 hgn11)) (snoc_sl (own_keep hown9 hgn11) hq7) (snoc_sl hown11 hq9) (snocF_nm hnmh.out hxn.1) hn3 hw3 hl3 hD2 hdp2 (by omega) (by omega))
            refine hcR.out.mono ?_
            rintro e w12 ⟨t2, g1, g2, g3, rfl, ⟨p12, hp12, hr12⟩, hg12⟩
            go_wp2_with fail
            go_ret
            exact l92_lam hxn hat.1 ⟨g1, g2, by omega⟩ hr12 (by omega) (gr_trans hg07 (gr_trans (gr_weak (gr_trans hgn9 hgn11) _) hg12)))))
/-- A term is drawn, of a type, with names. -/
theorem l92Term_any (D : Nat) : ∀ K, L92 D K := by
  induction D with
  | zero =>
    intro K
    induction K with
    | zero => exact l92_step 0 0 (fun _ h => by omega) (fun _ _ h => by omega)
    | succ K ih => exact l92_step 0 (K + 1) (fun _ h => by omega) (fun K' _ h => by obtain rfl : K = K' := (by omega); exact ih)
  | succ D ih => intro K; exact l92_step (D + 1) K (fun D' h => by obtain rfl : D = D' := (by omega); exact ih 15) (fun _ h => by omega)
end Go.Proofs.Ytiaafacmfflfiaa
