/- The program's types of terms. -/
import Derived.Test.YtiaafacmfflfiaaTerm2
import Derived.Test.YtiaafacmfflfiaaTyp
import Derived.Test.YtiaafacmfflfiaaText
import Derived.Deep.QuietTactic
import Derived.BigQuiet
import Derived.Deep.RegionHeld3
import Derived.Deep.DrawnRows
namespace Go.Proofs.Ytiaafacmfflfiaa
open Go.RowKit

/-- A slice of names with types, the newest last. -/
def BoundS (w : World) (F : Nat → Prop) (A : Option Addr) (E : Env) : Prop :=
  0 < E.length → ∃ g o, A = some ⟨g, o, none⟩ ∧ F g ∧ ∀ j p, E[j]? = some p → ∃ q, w.cell? ⟨g, o + (E.length - 1 - j) * 2, none⟩ = some (.string ⟨p.1.toArray⟩) ∧ w.cell? ⟨g, o + (E.length - 1 - j) * 2 + 1, none⟩ = some (ptrv q) ∧ KindP w F q p.2
theorem BoundS.keep {w w' : World} {F : Nat → Prop} {A : Option Addr} {E : Env} (h : BoundS w F A E) (hk : ∀ b, F b → b < w.heap.size → w'.heap[b]? = w.heap[b]?) : BoundS w' F A E := by
  intro h0
  obtain ⟨g, o, e, hg, hc⟩ := h h0
  refine ⟨g, o, e, hg, fun j p hp => ?_⟩
  obtain ⟨q, h1, h2, h3⟩ := hc j p hp
  have hl : g < w.heap.size := World.block_lt_of_cell? w ⟨g, _, none⟩ h1
  exact ⟨q, (World.cell?_of_block (w := w) (a := ⟨g, _, none⟩) (hk g hg hl)).trans h1, (World.cell?_of_block (w := w) (a := ⟨g, _, none⟩) (hk g hg hl)).trans h2, h3.keep hk⟩
theorem BoundS.grown0 {w w' : World} {F : Nat → Prop} {A : Option Addr} {E : Env} (h : BoundS w F A E) (hg : w.grownBy w' none) : BoundS w' F A E := h.keep fun b _ hl => hg.block b hl (by simp)
/-- One name more. -/
theorem boundS_more {w w3 : World} {base g o : Nat} {A : Option Addr} {E : Env} {x : List UInt8} {k : Ty} {qk : Nat} {v' : Value} {olds : List Value} (hE : BoundS w Al A E) (hA : 0 < E.length → A = some ⟨g, o, none⟩)
    (hol : olds = (List.range (E.length * 2)).map (fun j => (w.cell? ⟨g, o + j, none⟩).getD default)) (hk : KindP w Al qk k) (hg : w.grownBy w3 none)
    (hown : w3.ownsRow base 74 2 v' (E.length + 1) (olds ++ [.string ⟨x.toArray⟩, ptrv qk])) : ∃ A' c', v' = .slice A' (E.length + 1) c' ∧ BoundS w3 Al A' ((x, k) :: E) ∧ E.length + 1 ≤ c' := by
  obtain ⟨hl, ⟨rfl, h0⟩ | ⟨g', cap, cur, rfl, hb, hr, hn, hm, hs, ht⟩⟩ := hown
  · omega
  · have hlo : olds.length = E.length * 2 := by rw [hol]; simp
    have hcell : ∀ i, i < (E.length + 1) * 2 → w3.cell? ⟨g', 0 + i, none⟩ = (olds ++ [.string ⟨x.toArray⟩, ptrv qk])[i]? := by
      intro i hi
      rw [cell_of_row w3 g' (0 + i) cur _ (0, 0) hr, ← ht]
      have hc : i < cur.size := by omega
      simp [hi]
    refine ⟨_, cap, rfl, fun _ => ⟨g', 0, rfl, trivial, fun j p hp => ?_⟩, hn⟩
    cases j with
    | zero =>
      cases hp
      refine ⟨qk, ?_, ?_, hk.grown0 hg⟩
      · have := hcell (E.length * 2) (by omega)
        simp only [List.length_cons, Nat.add_sub_cancel, Nat.sub_zero]
        rw [this, List.getElem?_append_right (by omega), hlo, Nat.sub_self]
        rfl
      · have := hcell (E.length * 2 + 1) (by omega)
        simp only [List.length_cons, Nat.add_sub_cancel, Nat.sub_zero]
        rw [Nat.add_assoc, this, List.getElem?_append_right (by omega), hlo, Nat.add_sub_cancel_left]
        rfl
    | succ j =>
      have hp : E[j]? = some p := hp
      have hj : j < E.length := (List.getElem?_eq_some_iff.1 hp).1
      obtain ⟨g2, o2, e2, _, hc⟩ := hE (by omega)
      rw [hA (by omega)] at e2
      cases e2
      obtain ⟨q, h1, h2, h3⟩ := hc j p hp
      have hold : ∀ i, i < E.length * 2 → (olds ++ [.string ⟨x.toArray⟩, ptrv qk])[i]? = some ((w.cell? ⟨g, o + i, none⟩).getD default) := by
        intro i hi
        rw [List.getElem?_append_left (by omega), hol]
        simp [hi]
      have e : E.length + 1 - 1 - (j + 1) = E.length - 1 - j := by omega
      refine ⟨q, ?_, ?_, h3.grown0 hg⟩
      · simp only [List.length_cons]
        rw [e, hcell _ (by omega), hold _ (by omega), h1]
        rfl
      · simp only [List.length_cons]
        rw [e, Nat.add_assoc, hcell _ (by omega), hold _ (by omega), ← Nat.add_assoc, h2]
        rfl
theorem bounds_olds {w : World} {A : Option Addr} {E : Env} (hE : BoundS w Al A E) : ∃ g o, (0 < E.length → A = some ⟨g, o, none⟩) ∧ ∀ w', w.grownBy w' none → ∀ b, A = some b → ∀ j u, ((List.range (E.length * 2)).map (fun j => (w.cell? ⟨g, o + j, none⟩).getD default))[j]? = some u → w'.cell? (b.add j) = some u := by
  rcases Nat.eq_zero_or_pos E.length with h0 | h0
  · refine ⟨0, 0, fun h => absurd h (by omega), fun w' _ b _ j u hu => ?_⟩
    rw [h0] at hu
    simp at hu
  · obtain ⟨g, o, rfl, _, hc⟩ := hE h0
    have hsome : ∀ j, j < E.length * 2 → ∃ u, w.cell? ⟨g, o + j, none⟩ = some u := by
      intro j hj
      have hi : E.length - 1 - j / 2 < E.length := by omega
      obtain ⟨q, h1, h2, _⟩ := hc (E.length - 1 - j / 2) _ (List.getElem?_eq_getElem hi)
      have e : E.length - 1 - (E.length - 1 - j / 2) = j / 2 := by omega
      rw [e] at h1 h2
      rcases Nat.mod_two_eq_zero_or_one j with hm | hm
      · exact ⟨_, by rw [show o + j = o + j / 2 * 2 by omega]; exact h1⟩
      · exact ⟨_, by rw [show o + j = o + j / 2 * 2 + 1 by omega]; exact h2⟩
    refine ⟨g, o, fun _ => rfl, fun w' hw b hb j u hu => ?_⟩
    cases hb
    have hj : j < E.length * 2 := by
      have := (List.getElem?_eq_some_iff.1 hu).1
      simpa using this
    obtain ⟨v, hv⟩ := hsome j hj
    rw [Addr.add_lit, World.cell?_of_block (w := w) (a := ⟨g, o + j, none⟩) (hw.block g (World.block_lt_of_cell? w ⟨g, o + j, none⟩ hv) (by simp)), hv]
    simp [hj, hv] at hu
    rw [hu]
def findI (x : List UInt8) : Env → Int
  | [] => -1
  | p :: E => if p.1 = x then E.length else findI x E
theorem find_spec (x : List UInt8) (E : Env) : match look E x with
    | none => findI x E = -1
    | some k => ∃ j p, E[j]? = some p ∧ p.2 = k ∧ findI x E = ((E.length - 1 - j : Nat) : Int) := by
  induction E with
  | nil => rfl
  | cons p E ih =>
    unfold look
    by_cases h : p.1 = x
    · rw [List.find?_cons_of_pos (by simpa using h)]
      refine ⟨0, p, rfl, rfl, ?_⟩
      unfold findI
      rw [if_pos h]
      simp
    · rw [List.find?_cons_of_neg (by simpa using h)]
      unfold look at ih
      unfold findI
      rw [if_neg h]
      revert ih
      cases hf : E.find? (fun p => p.1 == x) with
      | none => exact id
      | some r =>
        rintro ⟨j, p', h1, h2, h3⟩
        exact ⟨j + 1, p', h1, h2, by rw [h3]; simp only [List.length_cons]; omega⟩
set_option maxHeartbeats 1000000 in
theorem find_any (x : List UInt8) (E : Env) (A : Option Addr) (c : Nat) (F : Nat → Prop) (w : World) (h : BoundS w F A E) (hn : E.length ≤ 1000) :
    Calls Try.prog 33 #[.slice A E.length c, .string ⟨x.toArray⟩] w fun e w' => e = .returned (.int .i64 (findI x E)) ∧ w.grownBy w' none := by
  have hk := Lib.hid (fun W (hW : w.grownBy W none) => h.grown0 hW)
  have hrf := gr_refl w none
  clear h
  go_enter Try.func33, Try.ntmps33
  go_wp2_with fail
  go_loopw [5] (fun i wr => ∃ j m, j + m = E.length ∧ i = .int .i64 ((m : Int) - 1) ∧ findI x E = findI x (E.drop j) ∧ w.grownBy wr none) (fun i _ => (intOf i + 1).toNat)
  case atStart => exact ⟨0, E.length, by omega, rfl, rfl, hrf⟩
  case round =>
    obtain ⟨j, m, hjm, rfl, hf, hg⟩ := hrel
    obtain ⟨wi, hwi⟩ : ∃ wi, wi = wr := ⟨_, rfl⟩
    rw [← hwi] at hg ⊢
    clear hwi
    cases m with
    | zero =>
      have hE : findI x E = -1 := by
        rw [hf, List.drop_of_length_le (by omega)]
        rfl
      clear hf
      go_wp2_with fail
      go_ret
      exact ⟨by rw [hE]; rfl, hg⟩
    | succ m =>
      have ej : (((m + 1 : Nat) : Int) - 1) = (m : Int) := by omega
      rw [ej]
      have hj : E[j]? = some E[j] := List.getElem?_eq_getElem (by omega)
      obtain ⟨gA, o, rfl, _, hc⟩ := hk.out wi hg (by omega)
      obtain ⟨q, c0, c1, _⟩ := hc j _ hj
      have hm : E.length - 1 - j = m := by omega
      rw [hm] at c0 c1
      have hd := List.drop_eq_getElem_cons (show j < E.length by omega)
      rw [hd] at hf
      have hm0 : (0 : Int) ≤ (m : Int) := by omega
      have hm1 : (m : Int) < (E.length : Int) := by omega
      have hln : (E.drop (j + 1)).length = m := by rw [List.length_drop]; omega
      by_cases hx : E[j].1 = x
      · have hx2 : (E[j].1 == x) = true := by rw [hx]; exact beq_self_eq_true _
        have hE : findI x E = m := by rw [hf]; show (if E[j].1 = x then ((E.drop (j + 1)).length : Int) else _) = _; rw [if_pos hx, hln]
        clear hf hc hj hd
        generalize E[j] = p at *
        go_wp2_with fail
        go_ret
        exact ⟨by rw [hE]; rfl, hg⟩
      · have hx2 : (E[j].1 == x) = false := by rw [beq_eq_false_iff_ne]; exact hx
        have hE := Lib.hid (show findI x E = findI x (E.drop (j + 1)) by rw [hf]; exact if_neg hx)
        clear hf hc hj hd
        generalize E[j] = p at *
        go_wp2_with fail
        exact ⟨⟨j + 1, m, by omega, rfl, hE.out, hg⟩, by simp [intOf]⟩
set_option maxHeartbeats 1000000 in
theorem same_any (q1 q2 : Nat) (a b' : Ty) (F G : Nat → Prop) (w : World) (h1 : KindP w F q1 a) (h2 : KindP w G q2 b') (l1 : a.atoms ≤ 1000000) (l2 : b'.atoms ≤ 1000000) :
    Calls Try.prog 35 #[ptrv q1, ptrv q2] w fun e w' => e = .returned (.bool (decide (a = b'))) ∧ w.grownBy w' none := by
  have hb : (a.text == b'.text) = decide (a = b') := by
    rw [Bool.eq_iff_iff, beq_iff_eq, decide_eq_true_eq]
    exact ⟨Ty.text_inj, congrArg Ty.text⟩
  have c1 := Lib.hid (text_any a.atoms a q1 F w (Nat.le_refl _) l1 h1)
  have c2 := Lib.hid (fun W (hW : w.grownBy W none) => text_any b'.atoms b' q2 G W (Nat.le_refl _) l2 (h2.grown0 hW))
  have hbh := Lib.hid hb
  clear hb h1 h2 l1 l2
  go_enter Try.func35, Try.ntmps35
  go_wp2_with fail
  refine c1.out.mono ?_
  rintro e w1 ⟨rfl, hg1⟩
  go_wp2_with fail
  refine (c2.out _ hg1).mono ?_
  rintro e w2 ⟨rfl, hg2⟩
  go_wp2_with fail
  go_ret
  exact ⟨by rw [← hbh.out]; rfl, gr_trans hg1 hg2⟩
/-- A type behind a pointer, or nil for none. -/
def TyRes (w : World) (v : Option Addr) : Option Ty → Prop
  | none => v = none
  | some k => ∃ q, v = some ⟨q, 0, none⟩ ∧ KindP w Al q k
theorem TyRes.grown0 {w w' : World} {v : Option Addr} {o : Option Ty} (h : TyRes w v o) (hg : w.grownBy w' none) : TyRes w' v o := by
  cases o with
  | none => exact h
  | some k => obtain ⟨q, e, hk⟩ := h; exact ⟨q, e, hk.grown0 hg⟩
/-- What 'typed' leaves. -/
def TypedPost (t : Tm) (E : Env) (w : World) (e : Ending) (w' : World) : Prop :=
  w.grownBy w' none ∧ ∃ v, e = .returned (.pointer v) ∧ TyRes w' v (t.ty E)
theorem TypedPost.no {t : Tm} {E : Env} {w w' : World} (h : t.ty E = none) (hg : w.grownBy w' none) : TypedPost t E w (.returned (.pointer none)) w' := ⟨hg, none, rfl, by rw [h]; rfl⟩
theorem TypedPost.yes {t : Tm} {E : Env} {w w' : World} {k : Ty} {q : Nat} (h : t.ty E = some k) (hg : w.grownBy w' none) (hk : KindP w' Al q k) : TypedPost t E w (.returned (.pointer (some ⟨q, 0, none⟩))) w' := ⟨hg, _, rfl, by rw [h]; exact ⟨q, rfl, hk⟩⟩
/-- What is to be shown of a term. -/
def TypIH (t : Tm) : Prop := ∀ (E : Env) (q : Nat) (A : Option Addr) (c : Nat) (w : World), TermP w Al q t → t.wf = true → BoundS w Al A E → E.ok → E.length + t.atoms ≤ 500 → E.length ≤ c →
    Calls Try.prog 21 #[.pointer (some ⟨q, 0, none⟩), .slice A E.length c] w (TypedPost t E w)
/-- A function type's result, as the rest of the slice, in a new block. -/
theorem kindP_tail {w : World} {a r : Ty} {gk ok ck : Nat} {qks : Nat → Nat} (hA : Sl w Al (some ⟨gk, ok, none⟩) (r.args.length + 1) (fun i => .pointer (some ⟨qks i, 0, none⟩))) (hs : ∀ i u, (Ty.arr a r).args[i]? = some u → KindP w Al (qks i) u)
    (hcap : r.args.length + 1 ≤ ck) (A' : Option Addr) (hA' : ck ≠ 1 → A' = some ⟨gk, ok + 1, none⟩) : KindP (w.alloc (.cells #[.slice A' r.args.length (ck - 1)] 77)) Al w.heap.size r := by
  have hg := World.grownBy_alloc w (.cells #[.slice A' r.args.length (ck - 1)] 77) none
  refine .mk _ r A' (ck - 1) (fun i => qks (i + 1)) trivial (Blk.new w _ _) (Sl.grown0 (fun h0 => ⟨gk, ok + 1, hA' (by omega), trivial, fun i hi => ?_⟩) hg) (fun i u hu => (hs (i + 1) u hu).grown0 hg) (by omega)
  have := hA.at_ (show i + 1 < r.args.length + 1 by omega)
  rw [show ok + 1 + i = ok + (i + 1) by omega]
  exact this
attribute [local go_sem ↓] Go.wp_at_zero Go.wp_at_succ
set_option maxRecDepth 100000 in
set_option maxHeartbeats 4000000 in
theorem typed_w (cc : List UInt8) : TypIH (.w cc) := by
  intro E q A c w ht hwf hE hok hsz hcE
  cases ht with
  | w _ _ hq hb =>
  have c0 := hb.cell 0
  have c1 := hb.cell 1
  have hlt := hb.lt
  simp only [List.getElem?_toArray, List.getElem?_cons_zero, List.getElem?_cons_succ] at c0 c1
  have hga := World.grownBy_alloc w (.cells #[.slice none 0 0] 77) none
  have hkb := kind_b (F := Al) w trivial
  have hA := Lib.hid (atoms_any 1 .b _ Al _ (by decide) (by decide) hkb)
  have hty := Lib.hid (show (Tm.w cc).ty E = some .b from rfl)
  have hkbh := Lib.hid hkb
  clear hkb
  rcases isWd_iff.1 hwf with rfl | rfl | rfl
  all_goals
    go_enter Try.func21, Try.ntmps21
    go_wp2_with fail
    refine hA.out.mono ?_
    rintro e w1 ⟨rfl, rfl⟩
    go_wp2_with fail
    go_ret
    exact TypedPost.yes hty.out hga hkbh.out
set_option maxRecDepth 100000 in
set_option maxHeartbeats 4000000 in
theorem typed_nm (x : List UInt8) : TypIH (.nm x) := by
  intro E q A c w ht hwf hE hok hsz hcE
  cases ht with
  | nm _ _ hq hb =>
  have c0 := hb.cell 0
  have c1 := hb.cell 1
  have hlt := hb.lt
  simp only [List.getElem?_toArray, List.getElem?_cons_zero, List.getElem?_cons_succ] at c0 c1
  have hF := Lib.hid (find_any x E A c Al w hE (by omega))
  have hbh := Lib.hid (fun (W : World) (hW : w.grownBy W none) => hb.grown0 hW)
  have hEh := Lib.hid (fun (W : World) (hW : w.grownBy W none) => hE.grown0 hW)
  have hS := find_spec x E
  clear hE
  cases hl : look E x with
  | none =>
    rw [hl] at hS
    have hS : findI x E = -1 := hS
    rw [hS] at hF
    have hty := Lib.hid (show (Tm.nm x).ty E = none from hl)
    clear hl hS
    go_enter Try.func21, Try.ntmps21
    go_wp2_with fail
    refine hF.out.mono ?_
    rintro e w1 ⟨rfl, hg1⟩
    go_wp2_with fail
    go_ret
    exact TypedPost.no hty.out hg1
  | some k =>
    rw [hl] at hS
    obtain ⟨j, p, hj, rfl, hS⟩ := hS
    rw [hS] at hF
    have hty := Lib.hid (show (Tm.nm x).ty E = some p.2 from hl)
    have h15 := look_le hok hl
    have hjl : j < E.length := (List.getElem?_eq_some_iff.1 hj).1
    have hi1 : ((E.length - 1 - j : Nat) : Int) < (E.length : Int) := by omega
    have hi0 : (0 : Int) ≤ ((E.length - 1 - j : Nat) : Int) := by omega
    have hjh := Lib.hid hj
    have hE0 : 0 < E.length := by omega
    have hcell := Lib.hid (fun W hW => (hEh.out W hW) hE0)
    clear hl hS hj
    obtain ⟨gA, oA, rfl, _, _⟩ := hcell.out w (gr_refl w none)
    have hcell2 : ∀ W, w.grownBy W none → ∃ q, W.cell? ⟨gA, oA + (E.length - 1 - j) * 2 + 1, none⟩ = some (ptrv q) ∧ KindP W Al q p.2 := by
      intro W hW
      obtain ⟨g', o', e', _, hc⟩ := hcell.out W hW
      cases e'
      obtain ⟨q, _, h1, h2⟩ := hc j p hjh.out
      exact ⟨q, h1, h2⟩
    have hc2 := Lib.hid hcell2
    clear hcell2 hcell hEh hjl hE0
    generalize E.length - 1 - j = i at *
    go_enter Try.func21, Try.ntmps21
    go_wp2_with fail
    refine hF.out.mono ?_
    rintro e w1 ⟨rfl, hg1⟩
    obtain ⟨qk, ck, hk⟩ := hc2.out w1 hg1
    unfold ptrv at ck
    have hA := Lib.hid (atoms_any p.2.atoms p.2 qk Al w1 (Nat.le_refl _) (by omega) hk)
    have hkh := Lib.hid hk
    clear hk
    go_wp2_with fail
    refine hA.out.mono ?_
    rintro e w2 ⟨rfl, rfl⟩
    go_wp2_with fail
    go_ret
    exact TypedPost.yes hty.out hg1 hkh.out
end Go.Proofs.Ytiaafacmfflfiaa
