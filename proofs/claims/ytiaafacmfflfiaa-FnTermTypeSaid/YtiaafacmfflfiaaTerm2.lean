/- Counting the atoms of a term; the whole reader; TermSize. -/
import Derived.Test.YtiaafacmfflfiaaTerm
namespace Go.Proofs.Ytiaafacmfflfiaa
open Go.RowKit

def Tm.parts : Tm → List Tm
  | .w _ => []
  | .nm _ => []
  | .lam _ _ b => [b]
  | .app m n => [m, n]
  | .ite l m n => [l, m, n]
def sumT : List Tm → Nat
  | [] => 0
  | a :: l => a.atoms + sumT l
theorem sumT_snoc (l : List Tm) (a : Tm) : sumT (l ++ [a]) = sumT l + a.atoms := by
  induction l with
  | nil => simp [sumT]
  | cons y l ih => simp only [List.cons_append, sumT, ih]; omega
theorem sumT_take_le (l : List Tm) (k : Nat) : sumT (l.take k) ≤ sumT l := by
  induction l generalizing k with
  | nil => simp
  | cons a l ih =>
    cases k with
    | zero => simp [sumT]
    | succ k => have := ih k; simp only [List.take_succ_cons, sumT]; omega
theorem Tm.parts_length (t : Tm) : t.parts.length ≤ 3 := by cases t <;> simp [parts]
/-- What lies behind the pointer. -/
theorem TermP.open_ {w : World} {F : Nat → Prop} {q : Nat} {t : Tm} (h : TermP w F q t) :
    ∃ (a b kv : Value) (A : Option Addr) (cp : Nat) (qs : Nat → Nat), Blk w q 63 #[a, b, kv, .slice A t.parts.length cp] ∧ Sl w F A t.parts.length (fun i => ptrv (qs i)) ∧ (∀ i u, t.parts[i]? = some u → TermP w F (qs i) u) ∧
      ((kv = .pointer none ∧ t.atoms = 1 + sumT t.parts) ∨ ∃ qk k, kv = ptrv qk ∧ KindP w F qk k ∧ t.atoms = 1 + (1 + k.atoms) + sumT t.parts) := by
  cases h with
  | w _ c hq hb => exact ⟨_, _, _, none, 0, fun _ => 0, hb, Sl.nil_, fun i u hu => by simp [Tm.parts] at hu, .inl ⟨rfl, rfl⟩⟩
  | nm _ x hq hb => exact ⟨_, _, _, none, 0, fun _ => 0, hb, Sl.nil_, fun i u hu => by simp [Tm.parts] at hu, .inl ⟨rfl, rfl⟩⟩
  | lam _ x k b qk q0 A cp hq hb hA hk h0 =>
    refine ⟨_, _, _, A, cp, fun _ => q0, hb, hA, fun i u hu => ?_, .inr ⟨qk, k, rfl, hk, by simp only [Tm.atoms, Tm.parts, sumT]; omega⟩⟩
    cases i with
    | zero => obtain rfl : b = u := by simpa [Tm.parts] using hu
              exact h0
    | succ i => simp [Tm.parts] at hu
  | app _ m n q0 q1 A cp hq hb hA h0 h1 =>
    refine ⟨_, _, _, A, cp, fun i => if i = 0 then q0 else q1, hb, hA, fun i u hu => ?_, .inl ⟨rfl, by simp only [Tm.atoms, Tm.parts, sumT]; omega⟩⟩
    match i with
    | 0 => obtain rfl : m = u := by simpa [Tm.parts] using hu
           exact h0
    | 1 => obtain rfl : n = u := by simpa [Tm.parts] using hu
           exact h1
    | i + 2 => simp [Tm.parts] at hu
  | ite _ l m n q0 q1 q2 A cp hq hb hA h0 h1 h2 =>
    refine ⟨_, _, _, A, cp, fun i => if i = 0 then q0 else if i = 1 then q1 else q2, hb, hA, fun i u hu => ?_, .inl ⟨rfl, by simp only [Tm.atoms, Tm.parts, sumT]; omega⟩⟩
    match i with
    | 0 => obtain rfl : l = u := by simpa [Tm.parts] using hu
           exact h0
    | 1 => obtain rfl : m = u := by simpa [Tm.parts] using hu
           exact h1
    | 2 => obtain rfl : n = u := by simpa [Tm.parts] using hu
           exact h2
    | i + 3 => simp [Tm.parts] at hu

set_option maxRecDepth 100000 in
set_option maxHeartbeats 1000000 in
theorem tatoms_any (m : Nat) : ∀ (t : Tm) (q : Nat) (F : Nat → Prop) (w : World), t.atoms ≤ m → t.atoms ≤ 1099511627776 → TermP w F q t →
    Calls Try.prog 16 #[.pointer (some ⟨q, 0, none⟩)] w fun e w' => e = .returned (.int .i64 (t.atoms : Int)) ∧ w = w' := by
  induction m with
  | zero => intro t q F w h; have := t.atoms_pos; omega
  | succ m ih =>
    intro t q F w hm hb hk
    have ih := Lib.hid ih
    obtain ⟨a, b, kv, A, cp, qs, hblk, hA, hs, hkv⟩ := hk.open_
    have c2 := hblk.cell 2
    have c3 := hblk.cell 3
    simp only [List.getElem?_toArray, List.getElem?_cons_zero, List.getElem?_cons_succ] at c2 c3
    have hs := Lib.hid hs
    have hla2 := t.parts_length
    have hle := Lib.hid (sumT_take_le t.parts)
    obtain ⟨z, hz, hz1⟩ : ∃ z : Nat, t.atoms = z + sumT t.parts ∧ 1 ≤ z := by
      rcases hkv with ⟨_, h⟩ | ⟨_, k, _, _, h⟩
      · exact ⟨_, h, Nat.le_refl _⟩
      · exact ⟨_, h, by omega⟩
    have hat := Lib.hid hz
    rcases hkv with ⟨rfl, h⟩ | ⟨qk, k, rfl, hkk, h⟩
    case' inl =>
      obtain rfl : z = 1 := by omega
      clear hz h
      go_enter Try.func16, Try.ntmps16
      go_wp2_with fail
      have hzI : (1 : Int) = ((1 : Nat) : Int) := rfl
    case' inr =>
      have hz2 : z = 1 + (1 + k.atoms) := by omega
      have hK := Lib.hid (atoms_any k.atoms k qk F w (Nat.le_refl _) (by omega) hkk)
      have hz2h := Lib.hid hz2
      unfold ptrv at hblk c2
      clear hz h hz2
      go_enter Try.func16, Try.ntmps16
      go_wp2_with fail
      refine hK.out.mono ?_
      rintro e w' ⟨rfl, rfl⟩
      have hka : k.atoms ≤ 1099511627776 := by have := hat.out; have := hz2h.out; omega
      go_wp2_with fail
      have hzI : (1 : Int) + (1 + (k.atoms : Int)) = (z : Int) := by have := hz2h.out; omega
    all_goals
      have hzh := Lib.hid hzI
      clear hzI
      go_loop [3, 24] (fun n i => ∃ j : Nat, j ≤ t.parts.length ∧ i = .int .i64 (j : Int) ∧ ∃ y : Int, n = .int .i64 y ∧ RowKit.Hid (y = (t.atoms : Int) - (sumT t.parts : Int) + (sumT (t.parts.take j) : Int))) (fun _ i => t.parts.length - (intOf i).toNat)
      case atStart => exact ⟨0, Nat.zero_le _, rfl, _, rfl, by have := hat.out; have := hzh.out; unfold RowKit.Hid; simp only [List.take_zero, sumT]; omega⟩
      case round =>
        obtain ⟨j, hjl, rfl, y, rfl, hy⟩ := hrel
        have hl1 := hle.out j
        by_cases hlt : j < t.parts.length
        · obtain ⟨g, o, rfl, _, hcell⟩ := hA (by omega)
          have hck := hcell j hlt
          unfold ptrv at hck
          have hkk : t.parts[j]? = some t.parts[j] := List.getElem?_eq_getElem hlt
          have hch := hs.out j _ hkk
          have hl2 := hle.out (j + 1)
          have hsn := Ty.take_snoc hkk
          rw [hsn, sumT_snoc] at hl2
          have hsn := Lib.hid hsn
          clear hkk hcell
          have hb2 := hat.out
          have hIH := Lib.hid (ih.out t.parts[j] (qs j) F w (by omega) (by omega) hch)
          have hyb : 0 ≤ y ∧ y ≤ 1099511627776 := by have := hy.out; omega
          have hya : (t.parts[j].atoms : Int) ≤ 1099511627776 := by omega
          clear hb2
          go_wp2_with fail
          refine hIH.out.mono ?_
          rintro e w' ⟨rfl, rfl⟩
          go_wp2_with fail
          go_round
          case rel => exact ⟨j + 1, by omega, by go_num, _, rfl, by have := hy.out; unfold RowKit.Hid; rw [hsn.out, sumT_snoc]; push_cast; omega⟩
          case measure => simp [intOf]; omega
        · go_wp2_with fail
          go_ret
          refine ⟨ret_int ?_, rfl⟩
          have h1 := hy.out
          rw [List.take_of_length_le (by omega)] at h1
          omega

/-- What the whole reader gives. -/
def ReadTPost (r : List UInt8) (w : World) (e : Ending) (w' : World) : Prop :=
  w.grownBy w' none ∧ match readT r with
    | none => e = .returned (.pointer none)
    | some t => ∃ q, e = .returned (.pointer (some ⟨q, 0, none⟩)) ∧ TermP w' (Fr w.heap.size) q t
theorem ReadTPost.no {r : List UInt8} {w w' : World} (h : readT r = none) (hg : w.grownBy w' none) : ReadTPost r w (.returned (.pointer none)) w' := ⟨hg, by rw [h]⟩
theorem ReadTPost.yes {r : List UInt8} {w w' : World} {t : Tm} {q : Nat} (h : readT r = some t) (hg : w.grownBy w' none) (hk : TermP w' (Fr w.heap.size) q t) : ReadTPost r w (.returned (.pointer (some ⟨q, 0, none⟩))) w' := ⟨hg, by rw [h]; exact ⟨q, rfl, hk⟩⟩
theorem atoms_text (t : Tm) (h : t.wf = true) : t.atoms ≤ t.text.length := by
  induction t with
  | w c => have := (isWd_noSep (c := c) h).2.2.1; simp only [Tm.atoms, Tm.text]; omega
  | nm x => obtain ⟨c, r, rfl, _, _⟩ := isNm_head (x := x) h; simp [Tm.atoms, Tm.text]
  | lam x k b ih =>
    simp only [Tm.wf, Bool.and_eq_true] at h
    have := ih h.2
    have h2 := Ty.length_text k
    have h3 := Ty.atoms_pos k
    simp only [Tm.atoms, Tm.text, List.length_cons, List.length_append, List.length_nil]
    omega
  | app m n ihm ihn =>
    simp only [Tm.wf, Bool.and_eq_true] at h
    have := ihm h.1
    have := ihn h.2
    simp only [Tm.atoms, Tm.text, List.length_cons, List.length_append, List.length_nil]
    omega
  | ite l m n ihl ihm ihn =>
    simp only [Tm.wf, Bool.and_eq_true] at h
    have := ihl h.1.1
    have := ihm h.1.2
    have := ihn h.2
    simp only [Tm.atoms, Tm.text, List.length_cons, List.length_append, List.length_nil]
    omega
set_option maxRecDepth 100000 in
set_option maxHeartbeats 1000000 in
theorem readTerm_any (r : List UInt8) (w : World) (hr : r.length ≤ 4000000000) : Calls Try.prog 15 #[.string ⟨r.toArray⟩] w (ReadTPost r w) := by
  have hbo := Blk.new w 59 #[.string ⟨r.toArray⟩]
  have hgo := World.grownBy_alloc w (.cells #[.string ⟨r.toArray⟩] 59) none
  have hT := Lib.hid (term_any 60 w.heap.size r _ hbo hr (by omega))
  have hbh := Lib.hid hbo
  clear hbo
  go_enter Try.func15, Try.ntmps15
  go_wp2_with fail
  refine hT.out.mono ?_
  rintro e w1 ⟨r', hs1, hl1, hg1, hm⟩
  have hg01 : w.grownBy w1 none := gr_trans_new hgo hg1 (Nat.le_refl _)
  have c0 := Blk.cell hs1 0
  simp only [List.getElem?_toArray, List.getElem?_cons_zero] at c0
  cases ht : tparse 60 r with
  | none =>
    rw [ht] at hm
    subst hm
    have hR := Lib.hid (show readT r = none by unfold readT; rw [ht])
    clear ht
    go_wp2_with fail
    go_ret
    exact ReadTPost.no hR.out hg01
  | some v =>
    obtain ⟨t, r2⟩ := v
    rw [ht] at hm
    obtain ⟨rfl, q, rfl, hk⟩ := hm
    have hsnd := tparse_sound _ _ _ _ ht
    have hbig := atoms_text t hsnd.2.1
    have hbig2 := congrArg List.length hsnd.1
    rw [List.length_append] at hbig2
    have hK := Lib.hid (tatoms_any t.atoms t q _ w1 (Nat.le_refl _) (by omega) hk)
    have hkh := Lib.hid hk
    have hth := Lib.hid ht
    have hap := t.atoms_pos
    have hkq : TermP w1 (Fr w.heap.size) q t := hk.fr (by rw [World.size_alloc]; omega)
    have hkqh := Lib.hid hkq
    have hbig3 : t.atoms ≤ 4000000000 := by omega
    clear hk hkq ht hsnd hbig2 hbig
    cases r' with
    | cons c d =>
      have hR := Lib.hid (show readT r = none by unfold readT; rw [hth.out])
      have hne : ((⟨(c :: d).toArray⟩ : ByteArray).toList.isEmpty) = false := by rw [ByteArray.toList_eq]; rfl
      go_wp2_with fail
      go_ret
      exact ReadTPost.no hR.out hg01
    | nil =>
      by_cases h60 : t.atoms ≤ 60
      · have hR := Lib.hid (show readT r = some t by unfold readT; rw [hth.out]; simp [h60])
        have h60' : ¬ (60 : Int) < (t.atoms : Int) := by omega
        go_wp2_with fail
        refine hK.out.mono ?_
        rintro e w2 ⟨rfl, rfl⟩
        go_wp2_with fail
        go_ret
        exact ReadTPost.yes hR.out hg01 hkqh.out
      · have hR := Lib.hid (show readT r = none by unfold readT; rw [hth.out]; simp [h60])
        have h60' : (60 : Int) < (t.atoms : Int) := by omega
        go_wp2_with fail
        refine hK.out.mono ?_
        rintro e w2 ⟨rfl, rfl⟩
        go_wp2_with fail
        go_ret
        exact ReadTPost.no hR.out hg01
def tsize (r : List UInt8) : Int := match readT r with
  | some t => t.atoms
  | none => -1
set_option maxHeartbeats 400000 in
theorem termSize_any (r : List UInt8) (w : World) (hr : r.length ≤ 4000000000) : Calls Try.prog 7 #[.string ⟨r.toArray⟩] w fun e w' => e = .returned (.int .i64 (tsize r)) ∧ w.grownBy w' none := by
  have hR := Lib.hid (readTerm_any r w hr)
  have hS := Lib.hid (show tsize r = match readT r with | some t => (t.atoms : Int) | none => -1 from rfl)
  generalize tsize r = z at *
  go_enter Try.func7, Try.ntmps7
  go_wp2_with fail
  refine hR.out.mono ?_
  rintro e w1 ⟨hg1, hm⟩
  cases ht : readT r with
  | none =>
    rw [ht] at hm hS
    subst hm
    clear ht
    go_wp2_with fail
    go_ret
    exact ⟨congrArg (fun z => Ending.returned (.int .i64 z)) hS.out.symm, hg1⟩
  | some t =>
    rw [ht] at hm hS
    obtain ⟨q, rfl, hk⟩ := hm
    have h60 := (readT_some.1 ht).2.2
    have hK := Lib.hid (tatoms_any t.atoms t q _ w1 (Nat.le_refl _) (by omega) hk)
    clear ht hk
    go_wp2_with fail
    refine hK.out.mono ?_
    rintro e w2 ⟨rfl, rfl⟩
    go_wp2_with fail
    go_ret
    exact ⟨congrArg (fun z => Ending.returned (.int .i64 z)) hS.out.symm, hg1⟩
end Go.Proofs.Ytiaafacmfflfiaa
