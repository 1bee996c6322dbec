/- TypeMake on both sides. -/
import Derived.Test.YtjkiidcdofikhaaLists
import Derived.Test.YtjkiidcdofikhaaArgs
namespace Go.Proofs.Ytjkiidcdofikhaa
open Go.RowKit

/-- The type with some arguments. -/
def ofArgs : List Ty → Ty
  | [] => .b
  | a :: l => .arr a (ofArgs l)
theorem args_ofArgs (l : List Ty) : (ofArgs l).args = l := by
  induction l with
  | nil => rfl
  | cons a l ih => simp only [ofArgs, Ty.args, ih]
/-- What TypeMake makes. -/
def mkTy (xs : List (List UInt8)) : Option Ty :=
  if (xs.all fun x => (Ty.read x).isSome) = true ∧ (ofArgs (xs.filterMap Ty.read)).atoms ≤ 15 then some (ofArgs (xs.filterMap Ty.read)) else none
theorem mkTy_bad {xs : List (List UInt8)} {k : Nat} (h : k < xs.length) (hr : Ty.read xs[k] = none) : mkTy xs = none := by
  unfold mkTy
  rw [if_neg]
  rintro ⟨h1, _⟩
  have := List.all_eq_true.1 h1 xs[k] (List.getElem_mem h)
  rw [hr] at this
  cases this
theorem fm_length : ∀ {xs : List (List UInt8)}, (∀ x ∈ xs, (Ty.read x).isSome = true) → (xs.filterMap Ty.read).length = xs.length
  | [], _ => rfl
  | x :: xs, h => by
    obtain ⟨t, ht⟩ := Option.isSome_iff_exists.1 (h x (by simp))
    rw [List.filterMap_cons_some ht, List.length_cons, List.length_cons, fm_length fun y hy => h y (by simp [hy])]
theorem mkTy_long {xs : List (List UInt8)} (h : 7 < xs.length) : mkTy xs = none := by
  unfold mkTy
  rw [if_neg]
  rintro ⟨h1, h2⟩
  have h3 := fm_length (List.all_eq_true.1 h1)
  have h4 := (ofArgs (xs.filterMap Ty.read)).length_args
  rw [args_ofArgs] at h4
  omega
theorem mkTy_all {xs : List (List UInt8)} (h : ∀ x ∈ xs, (Ty.read x).isSome = true) : mkTy xs = if (ofArgs (xs.filterMap Ty.read)).atoms ≤ 15 then some (ofArgs (xs.filterMap Ty.read)) else none := by
  unfold mkTy
  simp only [List.all_eq_true.2 h, true_and]

theorem atoms_ofArgs {l : List Ty} (h : ∀ t ∈ l, t.atoms ≤ 15) : (ofArgs l).atoms ≤ 1 + 16 * l.length := by
  induction l with
  | nil => simp [ofArgs, Ty.atoms]
  | cons a l ih =>
    have h1 := ih fun t ht => h t (by simp [ht])
    have h2 := h a (by simp)
    simp only [ofArgs, Ty.atoms, List.length_cons]
    omega
theorem atoms_fm {xs : List (List UInt8)} {t : Ty} (h : t ∈ xs.filterMap Ty.read) : t.atoms ≤ 15 := by
  obtain ⟨x, _, hx⟩ := List.mem_filterMap.1 h
  exact (Ty.read_some hx).2

/-- Blocks but B and the one of a row. -/
def Off (B : Nat) (v : Value) : Nat → Prop := fun b => b ≠ B ∧ v.ownBlock ≠ some b

/-- The kind under construction. -/
def MkInv (wr : World) (B : Nat) (ts : List Ty) : Prop :=
  ∃ (A : Option Addr) (cap : Nat) (qs : Nat → Nat), Blk wr B 53 #[.slice A ts.length cap] ∧
    wr.ownsRow (B + 1) 50 1 (.slice A ts.length cap) ts.length ((List.range ts.length).map fun i => .pointer (some ⟨qs i, 0, none⟩)) ∧
    ∀ i u, ts[i]? = some u → KindP wr (Off B (.slice A ts.length cap)) (qs i) u

theorem mkInv_step {wr w2 w4 : World} {B n : Nat} {ts : List Ty} {Ak A' : Option Addr} {ck cap' : Nat} {qs : Nat → Nat} {q : Nat} {t : Ty} {o : Obj} (hn : ts.length = n) (hB : B < wr.heap.size) (hg2 : wr.grownBy w2 none)
    (hown : wr.ownsRow (B + 1) 50 1 (.slice Ak n ck) n ((List.range n).map fun i => .pointer (some ⟨qs i, 0, none⟩)))
    (hks : ∀ i u, ts[i]? = some u → KindP wr (Off B (.slice Ak n ck)) (qs i) u) (hkq : KindP w2 (Fr wr.heap.size) q t)
    (hown4 : w4.ownsRow (B + 1) 50 1 (.slice A' (n + 1) cap') (n + 1) ((List.range n).map (fun i => .pointer (some ⟨qs i, 0, none⟩)) ++ [.pointer (some ⟨q, 0, none⟩)]))
    (hg3 : (w2.alloc o).grownBy w4 (Value.slice Ak n ck).ownBlock)
    (hat : (Value.slice A' (n + 1) cap').ownBlock = (Value.slice Ak n ck).ownBlock ∨ (Value.slice A' (n + 1) cap').ownBlock = some (w2.alloc o).heap.size)
    (hb : Blk w4 B 53 #[.slice Ak n ck]) : MkInv (w4.setCell ⟨B, 0, none⟩ (.slice A' (n + 1) cap')) B (ts ++ [t]) := by
  subst hn
  have hs2 := hg2.size
  have hl : (ts ++ [t]).length = ts.length + 1 := by simp
  have hsz : (w2.alloc o).heap.size = w2.heap.size + 1 := World.size_alloc _ _
  have hlt : ∀ g, (Value.slice Ak ts.length ck).ownBlock = some g → g < wr.heap.size := fun g hg => (hown.lt g hg).2
  refine ⟨A', cap', fun i => if i < ts.length then qs i else q, ?_, ?_, ?_⟩
  · rw [hl]
    have := Blk.set hb 0 (.slice A' (ts.length + 1) cap')
    simpa using this
  · rw [hl]
    have h1 := ownsRow_setCell_below hown4 (a := ⟨B, 0, none⟩) (Nat.lt_succ_self B) (.slice A' (ts.length + 1) cap')
    have e : ((List.range ts.length).map (fun i => Value.pointer (some ⟨qs i, 0, none⟩)) ++ [Value.pointer (some ⟨q, 0, none⟩)]) = (List.range (ts.length + 1)).map (fun i => Value.pointer (some ⟨if i < ts.length then qs i else q, 0, none⟩)) := by
      rw [List.range_succ, List.map_append]
      congr 1
      · refine List.map_congr_left fun i hi => ?_
        rw [if_pos (by simpa using hi)]
      · simp
    rw [← e]
    exact h1
  · intro i u hu
    rw [hl]
    by_cases hi : i < ts.length
    · rw [List.getElem?_append_left hi] at hu
      dsimp only
      rw [if_pos hi]
      have h1 := (hks i u hu).mono (G := fun b => b < wr.heap.size ∧ Off B (.slice Ak ts.length ck) b) (fun b h1 h2 => ⟨h2, h1⟩)
      refine (h1.keep (w' := w4.setCell ⟨B, 0, none⟩ (.slice A' (ts.length + 1) cap')) fun b hb _ => ?_).mono fun b hb _ => ⟨hb.2.1, fun he => ?_⟩
      · rw [heap_setCell_other _ _ _ _ hb.2.1, hg3.block b (by have := hb.1; omega) (fun e => hb.2.2 e.symm), (gr_alloc hg2 o).block b hb.1 (by simp)]
      · rcases hat with h | h
        · exact hb.2.2 (h.symm.trans he)
        · rw [h] at he
          have := hb.1
          cases he
          omega
    · have hi2 : i = ts.length := by
        have := (List.getElem?_eq_some_iff.1 hu).1
        omega
      subst hi2
      obtain rfl : t = u := by simpa using hu
      dsimp only
      rw [if_neg (by omega)]
      have h1 := hkq.mono (G := fun b => b < w2.heap.size ∧ wr.heap.size ≤ b) (fun b h1 h2 => ⟨h2, h1⟩)
      refine (h1.keep (w' := w4.setCell ⟨B, 0, none⟩ (.slice A' (ts.length + 1) cap')) fun b hb _ => ?_).mono fun b hb _ => ⟨by have := hb.2; omega, fun he => ?_⟩
      · rw [heap_setCell_other _ _ _ _ (by have := hb.2; show b ≠ B; omega), hg3.block b (by have := hb.1; omega) (fun e => by have := hlt b e.symm; have := hb.2; omega), (World.grownBy_alloc w2 o none).block b hb.1 (by simp)]
      · rcases hat with h | h
        · have := hlt b (h.symm.trans he)
          have := hb.2
          omega
        · rw [h] at he
          have := hb.1
          cases he
          omega

set_option maxHeartbeats 1000000 in
theorem typeMake_any (xs : List (List UInt8)) (A : Option Addr) (cA : Nat) (F : Nat → Prop) (w : World) (hA : Sl w F A xs.length (sv xs)) (hsm : Small xs) :
    Calls Try.prog 10 #[.slice A xs.length cA] w fun e w' => e = .returned (.tuple #[.string ⟨(txt (mkTy xs)).toArray⟩, .bool (mkTy xs).isSome]) ∧ w.grownBy w' none := by
  obtain ⟨hx, hlen⟩ := hsm
  have hlenh := Lib.hid hlen
  clear hlen
  have hb0 := Blk.new w 53 #[.slice none 0 0]
  have hg0 := World.grownBy_alloc w (.cells #[.slice none 0 0] 53) none
  go_enter Try.func10, Try.ntmps10
  go_wp2_with fail
  go_loopw [12] (fun i wr => ∃ (k : Nat), k ≤ xs.length ∧ k ≤ 16 ∧ i = .int .i64 (k : Int) ∧ (∀ x ∈ xs.take k, (Ty.read x).isSome = true) ∧ MkInv wr w.heap.size ((xs.take k).filterMap Ty.read) ∧ w.grownBy wr none) (fun i _ => xs.length - (intOf i).toNat)
  case atStart => exact ⟨0, Nat.zero_le _, by omega, rfl, by simp, ⟨none, 0, fun _ => 0, hb0, own_nil _ _ _, fun i u h => by simp at h⟩, hg0⟩
  case round =>
    obtain ⟨k, hkl, hk16, rfl, hall, hinv, hgw⟩ := hrel
    have htl := fm_length hall
    rw [List.length_take, Nat.min_eq_left hkl] at htl
    generalize hts : (xs.take k).filterMap Ty.read = ts at *
    have htsh := Lib.hid hts
    have hallh := Lib.hid hall
    clear hts hall
    obtain ⟨Ak, ck, qs, hblk, hown, hks⟩ := hinv
    subst htl
    have hksh := Lib.hid hks
    clear hks
    by_cases hlt : ts.length < xs.length
    · obtain ⟨g, o, rfl, _, hcell⟩ := (hA.grown0 hgw) (by omega)
      have c1 := hcell ts.length hlt
      rw [sv_lt xs hlt] at c1
      have hxl := hlenh.out xs[ts.length] (List.getElem_mem hlt)
      clear hcell
      have hcB := hblk.cell 0
      simp only [List.getElem?_toArray, List.getElem?_cons_zero] at hcB
      go_wp2_with fail
      refine (readKind_any xs[ts.length] wr (by omega)).mono ?_
      rintro e w2 ⟨hg2, hm2⟩
      have hb2 := hblk.grown0 hg2
      have hc2 := hb2.cell 0
      have hf2 := hb2.free 0
      have hl2 := hb2.lt
      simp only [List.getElem?_toArray, List.getElem?_cons_zero] at hc2
      cases hp : Ty.read xs[ts.length] with
      | none =>
        rw [hp] at hm2
        subst hm2
        have hR := Lib.hid (mkTy_bad hlt hp)
        clear hp
        go_wp2_with fail
        go_ret2
        exact ⟨by rw [hR.out]; rfl, gr_trans hgw hg2⟩
      | some t =>
        rw [hp] at hm2
        obtain ⟨q, rfl, hkq⟩ := hm2
        have hpa := Lib.hid hp
        clear hp
        by_cases h15 : ts.length ≤ 15
        · have hg3 := gr_alloc hg2 (.cells #[.pointer (some ⟨q, 0, none⟩)] 50)
          have hown2 := own_keep hown hg3
          have hsz2 := hg2.size
          have hszw := hgw.size
          have hltB := hblk.lt
          go_wp2_with (at_builtin; refine wpList_app rfl _ _ 51 rfl (w.heap.size + 1) 50 (.pointer none) 8 Try.underlying51 info_pkind rfl _ _ _ _ rfl hown2 _ 1 1 _ rfl _ (sl_one w2 50 (.pointer (some ⟨q, 0, none⟩))) (fun _ _ => rfl) (by unfold maxLen; omega) (by omega) (by rw [World.size_alloc]; omega) ?_; intro A' cap' w4 hown4 hg4 hat4; have hb4 := (hb2.alloc (.cells #[.pointer (some ⟨q, 0, none⟩)] 50)).grown hg4 (fun e => by have := own_base hown2 e.symm; omega); have hc4 := hb4.cell 0; have hf4 := hb4.free 0; have hl4 := hb4.lt; simp only [List.getElem?_toArray, List.getElem?_cons_zero] at hc4)
          go_roundw
          case rel =>
            have hI := mkInv_step rfl hltB hg2 hown hksh.out hkq hown4 hg4 hat4 hb4
            have hgw4 := gr_own (w0 := w) (gr_trans hgw hg3) (own_weak hown2 (by omega)) hg4
            refine ⟨ts.length + 1, by omega, by omega, by go_num, ?_, ?_, gr_set hgw4 (.inr (Nat.le_refl _)) _⟩
            · intro x hx
              rw [List.take_succ_eq_append_getElem hlt] at hx
              rcases List.mem_append.1 hx with h | h
              · exact hallh.out x h
              · obtain rfl : x = xs[ts.length] := by simpa using h
                rw [hpa.out]; rfl
            · rw [List.take_succ_eq_append_getElem hlt, List.filterMap_append, htsh.out]
              simp only [List.filterMap_cons, hpa.out, List.filterMap_nil]
              exact hI
          case measure => simp [intOf]; omega
        · have hR := Lib.hid (mkTy_long (xs := xs) (by omega))
          go_wp2_with fail
          go_ret2
          exact ⟨by rw [hR.out]; rfl, gr_trans hgw hg2⟩
    · have hkx : ts.length = xs.length := by omega
      have hta : (ofArgs ts).args = ts := args_ofArgs ts
      have hkp : KindP wr Al w.heap.size (ofArgs ts) := by
        refine .mk w.heap.size (ofArgs ts) Ak ck qs trivial (by rw [hta]; exact hblk) ?_ ?_
        · rw [hta]
          obtain ⟨A', c', e1, hS⟩ := own_form hown
          cases e1
          intro h0
          obtain ⟨g, o, e2, hg, hc⟩ := hS Al (fun _ _ => trivial) h0
          refine ⟨g, o, e2, hg, fun i hi => ?_⟩
          rw [hc i hi]
          simp [List.getD, hi]
        · rw [hta]
          exact fun i u hu => (hksh.out i u hu).all
      have hM := Lib.hid (show mkTy xs = if (ofArgs ts).atoms ≤ 15 then some (ofArgs ts) else none by
        have h1 := hallh.out
        have h2 := htsh.out
        rw [hkx, List.take_length] at h1 h2
        rw [mkTy_all h1, h2])
      have hat : (ofArgs ts).atoms ≤ 1 + 16 * ts.length := atoms_ofArgs fun t ht => by
        rw [← htsh.out] at ht
        exact atoms_fm ht
      by_cases h15 : (ofArgs ts).atoms ≤ 15
      · have hV := Lib.hid (show mkTy xs = some (ofArgs ts) by rw [hM.out, if_pos h15])
        go_wp2_with fail
        refine (atoms_any (ofArgs ts).atoms (ofArgs ts) w.heap.size Al wr (Nat.le_refl _) (by omega) hkp).mono ?_
        rintro e w2 ⟨rfl, rfl⟩
        go_wp2_with fail
        refine (text_any (ofArgs ts).atoms (ofArgs ts) w.heap.size Al wr (Nat.le_refl _) (by omega) hkp).mono ?_
        rintro e w2 ⟨rfl, hg2⟩
        go_wp2_with fail
        go_ret2
        exact ⟨by rw [hV.out]; rfl, gr_trans hgw hg2⟩
      · have hV := Lib.hid (show mkTy xs = none by rw [hM.out, if_neg h15])
        go_wp2_with fail
        refine (atoms_any (ofArgs ts).atoms (ofArgs ts) w.heap.size Al wr (Nat.le_refl _) (by omega) hkp).mono ?_
        rintro e w2 ⟨rfl, rfl⟩
        go_wp2_with fail
        go_ret2
        exact ⟨by rw [hV.out]; rfl, hgw⟩
/-- The tree under construction. -/
def TrInv (wr : World) (B : Nat) (ts : List Ty) : Prop :=
  ∃ (A : Option Addr) (cap : Nat) (vs : Nat → Value), Blk wr B 59 #[.slice A ts.length cap] ∧
    wr.ownsRow (B + 1) 59 1 (.slice A ts.length cap) ts.length ((List.range ts.length).map vs) ∧
    ∀ i u, ts[i]? = some u → TreeV wr (Off B (.slice A ts.length cap)) (vs i) u

theorem trInv_step {wr w2 w3 w4 : World} {B n : Nat} {ts : List Ty} {Ak A' : Option Addr} {ck cap' : Nat} {vs : Nat → Value} {v : Value} {t : Ty} (hn : ts.length = n) (hB : B < wr.heap.size) (hg2 : wr.grownBy w2 none)
    (hown : wr.ownsRow (B + 1) 59 1 (.slice Ak n ck) n ((List.range n).map vs))
    (hks : ∀ i u, ts[i]? = some u → TreeV wr (Off B (.slice Ak n ck)) (vs i) u) (hkq : TreeV w2 (Fr wr.heap.size) v t) (hg23 : w2.grownBy w3 none)
    (hown4 : w4.ownsRow (B + 1) 59 1 (.slice A' (n + 1) cap') (n + 1) ((List.range n).map vs ++ [v]))
    (hg3 : w3.grownBy w4 (Value.slice Ak n ck).ownBlock)
    (hat : (Value.slice A' (n + 1) cap').ownBlock = (Value.slice Ak n ck).ownBlock ∨ (Value.slice A' (n + 1) cap').ownBlock = some w3.heap.size)
    (hb : Blk w4 B 59 #[.slice Ak n ck]) : TrInv (w4.setCell ⟨B, 0, none⟩ (.slice A' (n + 1) cap')) B (ts ++ [t]) := by
  subst hn
  have hs2 := hg2.size
  have hs3 := hg23.size
  have hl : (ts ++ [t]).length = ts.length + 1 := by simp
  have hlt : ∀ g, (Value.slice Ak ts.length ck).ownBlock = some g → g < wr.heap.size := fun g hg => (hown.lt g hg).2
  refine ⟨A', cap', fun i => if i < ts.length then vs i else v, ?_, ?_, ?_⟩
  · rw [hl]
    have := Blk.set hb 0 (.slice A' (ts.length + 1) cap')
    simpa using this
  · rw [hl]
    have h1 := ownsRow_setCell_below hown4 (a := ⟨B, 0, none⟩) (Nat.lt_succ_self B) (.slice A' (ts.length + 1) cap')
    have e : ((List.range ts.length).map vs ++ [v]) = (List.range (ts.length + 1)).map (fun i => if i < ts.length then vs i else v) := by
      rw [List.range_succ, List.map_append]
      congr 1
      · refine List.map_congr_left fun i hi => ?_
        rw [if_pos (by simpa using hi)]
      · simp
    rw [← e]
    exact h1
  · intro i u hu
    rw [hl]
    by_cases hi : i < ts.length
    · rw [List.getElem?_append_left hi] at hu
      dsimp only
      rw [if_pos hi]
      have h1 := (hks i u hu).mono (G := fun b => b < wr.heap.size ∧ Off B (.slice Ak ts.length ck) b) (fun b h1 h2 => ⟨h2, h1⟩)
      refine (h1.keep (w' := w4.setCell ⟨B, 0, none⟩ (.slice A' (ts.length + 1) cap')) fun b hb _ => ?_).mono fun b hb _ => ⟨hb.2.1, fun he => ?_⟩
      · rw [heap_setCell_other _ _ _ _ hb.2.1, hg3.block b (by have := hb.1; omega) (fun e => hb.2.2 e.symm), (gr_trans hg2 hg23).block b hb.1 (by simp)]
      · rcases hat with h | h
        · exact hb.2.2 (h.symm.trans he)
        · rw [h] at he
          have := hb.1
          cases he
          omega
    · have hi2 : i = ts.length := by
        have := (List.getElem?_eq_some_iff.1 hu).1
        omega
      subst hi2
      obtain rfl : t = u := by simpa using hu
      dsimp only
      rw [if_neg (by omega)]
      have h1 := hkq.mono (G := fun b => b < w2.heap.size ∧ wr.heap.size ≤ b) (fun b h1 h2 => ⟨h2, h1⟩)
      refine (h1.keep (w' := w4.setCell ⟨B, 0, none⟩ (.slice A' (ts.length + 1) cap')) fun b hb _ => ?_).mono fun b hb _ => ⟨by have := hb.2; omega, fun he => ?_⟩
      · rw [heap_setCell_other _ _ _ _ (by have := hb.2; show b ≠ B; omega), hg3.block b (by have := hb.1; omega) (fun e => by have := hlt b e.symm; have := hb.2; omega), hg23.block b hb.1 (by simp)]
      · rcases hat with h | h
        · have := hlt b (h.symm.trans he)
          have := hb.2
          omega
        · rw [h] at he
          have := hb.1
          cases he
          omega

set_option maxHeartbeats 1000000 in
theorem sTypeMake_any (xs : List (List UInt8)) (A : Option Addr) (cA : Nat) (F : Nat → Prop) (w : World) (hA : Sl w F A xs.length (sv xs)) (hsm : Small xs) :
    Calls Try.prog 11 #[.slice A xs.length cA] w fun e w' => e = .returned (.tuple #[.string ⟨(txt (mkTy xs)).toArray⟩, .bool (mkTy xs).isSome]) ∧ w.grownBy w' none := by
  obtain ⟨hx, hlen⟩ := hsm
  have hlenh := Lib.hid hlen
  clear hlen
  have hb0 := Blk.new w 59 #[.slice none 0 0]
  have hg0 := World.grownBy_alloc w (.cells #[.slice none 0 0] 59) none
  by_cases hx15 : xs.length ≤ 15
  · go_enter Try.func11, Try.ntmps11
    go_wp2_with fail
    go_loopw [5] (fun i wr => ∃ (k : Nat), k ≤ xs.length ∧ i = .int .i64 (k : Int) ∧ (∀ x ∈ xs.take k, (Ty.read x).isSome = true) ∧ TrInv wr w.heap.size ((xs.take k).filterMap Ty.read) ∧ w.grownBy wr none) (fun i _ => xs.length - (intOf i).toNat)
    case atStart => exact ⟨0, Nat.zero_le _, rfl, by simp, ⟨none, 0, fun _ => undef, hb0, own_nil _ _ _, fun i u h => by simp at h⟩, hg0⟩
    case round =>
      obtain ⟨k, hkl, rfl, hall, hinv, hgw⟩ := hrel
      have htl := fm_length hall
      rw [List.length_take, Nat.min_eq_left hkl] at htl
      generalize hts : (xs.take k).filterMap Ty.read = ts at *
      have htsh := Lib.hid hts
      have hallh := Lib.hid hall
      clear hts hall
      obtain ⟨Ak, ck, vs, hblk, hown, hks⟩ := hinv
      subst htl
      have hksh := Lib.hid hks
      clear hks
      by_cases hlt : ts.length < xs.length
      · obtain ⟨g, o, rfl, _, hcell⟩ := (hA.grown0 hgw) (by omega)
        have c1 := hcell ts.length hlt
        rw [sv_lt xs hlt] at c1
        have hxl := hlenh.out xs[ts.length] (List.getElem_mem hlt)
        clear hcell
        have hcB := hblk.cell 0
        simp only [List.getElem?_toArray, List.getElem?_cons_zero] at hcB
        go_wp2_with fail
        refine (l1Type_any xs[ts.length] wr (by omega)).mono ?_
        rintro e w2 ⟨hg2, hm2⟩
        have hb2 := hblk.grown0 hg2
        have hc2 := hb2.cell 0
        have hf2 := hb2.free 0
        have hl2 := hb2.lt
        simp only [List.getElem?_toArray, List.getElem?_cons_zero] at hc2
        cases hp : Ty.read xs[ts.length] with
        | none =>
          rw [hp] at hm2
          obtain ⟨t, At, ct, rfl, ht⟩ := hm2
          have hR := Lib.hid (mkTy_bad hlt hp)
          clear hp
          go_wp2_with fail
          go_ret2
          exact ⟨by rw [hR.out]; rfl, gr_alloc (gr_trans hgw hg2) _⟩
        | some t =>
          rw [hp] at hm2
          obtain ⟨At, ct, rfl, hkq⟩ := hm2
          have hpa := Lib.hid hp
          clear hp
          have hg23a := World.grownBy_alloc w2 (.cells #[.slice At t.args.length ct] 59) none
          have hg23 := gr_alloc hg23a (.cells #[.slice At t.args.length ct] 59)
          have hg3 := gr_trans hg2 hg23
          have hown2 := own_keep hown hg3
          have hsz2 := hg2.size
          have hszw := hgw.size
          have hltB := hblk.lt
          have hb2a := hb2.grown0 hg23a
          have hc2a := hb2a.cell 0
          simp only [List.getElem?_toArray, List.getElem?_cons_zero] at hc2a
          have hsl := sl_one (w2.alloc (.cells #[.slice At t.args.length ct] 59)) 59 (.slice At t.args.length ct)
          rw [World.size_alloc] at hsl
          go_wp2_with (at_builtin; refine wpList_app rfl _ _ 57 rfl (w.heap.size + 1) 59 (.agg #[.slice none 0 0]) 24 Try.underlying57 info_tree rfl _ _ _ _ rfl hown2 _ 1 1 _ rfl _ hsl (fun _ _ => rfl) (by unfold maxLen; omega) (by omega) (by rw [World.size_alloc, World.size_alloc]; omega) ?_; intro A' cap' w4 hown4 hg4 hat4; have hb4 := (hb2.grown0 hg23).grown hg4 (fun e => by have := own_base hown2 e.symm; omega); have hc4 := hb4.cell 0; have hf4 := hb4.free 0; have hl4 := hb4.lt; simp only [List.getElem?_toArray, List.getElem?_cons_zero] at hc4)
          go_roundw
          case rel =>
            have hI := trInv_step rfl hltB hg2 hown hksh.out hkq hg23 hown4 hg4 hat4 hb4
            have hgw4 := gr_own (w0 := w) (gr_trans hgw hg3) (own_weak hown2 (by omega)) hg4
            refine ⟨ts.length + 1, by omega, by go_num, ?_, ?_, gr_set hgw4 (.inr (Nat.le_refl _)) _⟩
            · intro x hx
              rw [List.take_succ_eq_append_getElem hlt] at hx
              rcases List.mem_append.1 hx with h | h
              · exact hallh.out x h
              · obtain rfl : x = xs[ts.length] := by simpa using h
                rw [hpa.out]; rfl
            · rw [List.take_succ_eq_append_getElem hlt, List.filterMap_append, htsh.out]
              simp only [List.filterMap_cons, hpa.out, List.filterMap_nil]
              exact hI
          case measure => simp [intOf]; omega
      · have hkx : ts.length = xs.length := by omega
        have hta : (ofArgs ts).args = ts := args_ofArgs ts
        have hcB := hblk.cell 0
        simp only [List.getElem?_toArray, List.getElem?_cons_zero] at hcB
        have hkp : TreeV wr Al (.slice Ak ts.length ck) (ofArgs ts) := by
          have hkp' : TreeV wr Al (.slice Ak (ofArgs ts).args.length ck) (ofArgs ts) := by
            refine .mk (ofArgs ts) Ak ck vs ?_ ?_
            · rw [hta]
              obtain ⟨A', c', e1, hS⟩ := own_form hown
              cases e1
              intro h0
              obtain ⟨g, o, e2, hg, hc⟩ := hS Al (fun _ _ => trivial) h0
              refine ⟨g, o, e2, hg, fun i hi => ?_⟩
              rw [hc i hi]
              simp [List.getD, hi]
            · rw [hta]
              exact fun i u hu => (hksh.out i u hu).all
          rw [hta] at hkp'
          exact hkp'
        have hM := Lib.hid (show mkTy xs = if (ofArgs ts).atoms ≤ 15 then some (ofArgs ts) else none by
          have h1 := hallh.out
          have h2 := htsh.out
          rw [hkx, List.take_length] at h1 h2
          rw [mkTy_all h1, h2])
        have hat : (ofArgs ts).atoms ≤ 1 + 16 * ts.length := atoms_ofArgs fun t ht => by
          rw [← htsh.out] at ht
          exact atoms_fm ht
        have hS := Lib.hid (fun W h => l1Size_any (ofArgs ts).atoms (ofArgs ts) Ak ck Al W (Nat.le_refl _) (by omega) h)
        have hX := Lib.hid (fun W hb h => l1Text_any (ofArgs ts).atoms (ofArgs ts) Ak ck Al W (Nat.le_refl _) hb h)
        rw [hta] at hS hX
        clear hta hkx
        by_cases h15 : (ofArgs ts).atoms ≤ 15
        · have hV := Lib.hid (show mkTy xs = some (ofArgs ts) by rw [hM.out, if_pos h15])
          go_wp2_with fail
          refine (hS.out wr hkp).mono ?_
          rintro e w2 ⟨rfl, hg2⟩
          have hc2 := (hblk.grown0 hg2).cell 0
          simp only [List.getElem?_toArray, List.getElem?_cons_zero] at hc2
          go_wp2_with fail
          refine (hX.out w2 (by omega) (hkp.grown0 hg2)).mono ?_
          rintro e w3 ⟨rfl, hg3⟩
          go_wp2_with fail
          go_ret2
          exact ⟨by rw [hV.out]; rfl, gr_trans (gr_trans hgw hg2) hg3⟩
        · have hV := Lib.hid (show mkTy xs = none by rw [hM.out, if_neg h15])
          go_wp2_with fail
          refine (hS.out wr hkp).mono ?_
          rintro e w2 ⟨rfl, hg2⟩
          go_wp2_with fail
          go_ret2
          exact ⟨by rw [hV.out]; rfl, gr_trans hgw hg2⟩
  · have hR := Lib.hid (mkTy_long (xs := xs) (by omega))
    go_enter Try.func11, Try.ntmps11
    go_wp2_with fail
    go_ret2
    exact ⟨by rw [hR.out]; rfl, gr_refl _ _⟩
end Go.Proofs.Ytjkiidcdofikhaa
