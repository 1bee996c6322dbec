/- The reader of codes from which inputs are drawn. -/
import Derived.Test.YtlehnlfgjadleaaRow
import Derived.Test.YtlehnlfgjadleaaKind2
import Derived.Deep.QuietTactic
import Derived.BigQuiet
namespace Go.Proofs.Ytlehnlfgjadleaa
open Go.RowKit

/-- What is known of a slice of bytes that came in. -/
def IsRow (k : IntKind) (w : World) (a : Option Addr) (len cap : Nat) (zs : List Int) : Prop :=
  (a = none ∧ len = 0 ∧ cap = 0 ∧ zs = []) ∨
  ∃ x, a = some x ∧ len ≤ cap ∧ cap ≤ maxLen ∧ zs.length = cap ∧ (∀ i, i < zs.length → w.cell? (x.add i) = some (.int k (zs.getD i 0))) ∧ ∀ n ∈ zs, (Lit.int k n).wf = true

theorem wf_u8 {n : Int} (h : (Lit.int .u8 n).wf = true) : 0 ≤ n ∧ n ≤ 255 := by
  have := bounds_u8 h
  omega

theorem IsRow.sl {w : World} {a : Option Addr} {len cap : Nat} {zs : List Int} (h : IsRow .u8 w a len cap zs) :
    Sl w Al a len (fun i => .int .u8 (zs.getD i 0)) ∧ (∀ i, i < len → 0 ≤ zs.getD i 0 ∧ zs.getD i 0 ≤ 255) ∧ len ≤ cap ∧ cap ≤ maxLen := by
  rcases h with ⟨rfl, rfl, rfl, rfl⟩ | ⟨x, rfl, hl, hm, hz, hc, hw⟩
  · exact ⟨Sl.nil_, fun i hi => absurd hi (by omega), Nat.le_refl _, by unfold maxLen; omega⟩
  · refine ⟨fun hn => ?_, fun i hi => ?_, hl, hm⟩
    · have h0 := hc 0 (by omega)
      obtain ⟨g, o, s⟩ := x
      have hs : s = none := by
        cases s with
        | none => rfl
        | some s =>
          simp only [World.cell?, Addr.add, if_true] at h0
          split at h0
          · simp at h0
          · cases h0
      subst hs
      refine ⟨g, o, rfl, trivial, fun i hi => ?_⟩
      have := hc i (by omega)
      rw [Addr.add_lit] at this
      exact this
    · have hi' : i < zs.length := by omega
      have : zs.getD i 0 = zs[i] := by simp [List.getD, hi']
      rw [this]
      exact wf_u8 (hw _ (List.getElem_mem hi'))

/-- Blocks ahead of one. -/
def Lt (g : Nat) : Nat → Prop := fun b => b < g

/-- Block q is a reader of a code, at place p. -/
def Rd (w : World) (q p : Nat) : Prop :=
  ∃ (A : Option Addr) (n c : Nat) (x : Nat → Int), Blk w q 75 #[.slice A n c, .int .i64 (p : Int)] ∧ Sl w (Lt q) A n (fun i => .int .u8 (x i)) ∧ (∀ i, i < n → 0 ≤ x i ∧ x i ≤ 255) ∧ n ≤ 2000

theorem Rd.grown0 {w w' : World} {q p : Nat} (h : Rd w q p) (hg : w.grownBy w' none) : Rd w' q p := by
  obtain ⟨A, n, c, x, hb, hs, hx, hn⟩ := h
  exact ⟨A, n, c, x, hb.grown0 hg, hs.grown0 hg, hx, hn⟩
theorem Rd.grown {w w' : World} {q p : Nat} {x : Option Nat} (h : Rd w q p) (hg : w.grownBy w' x) (hx : ∀ g, x = some g → q < g) : Rd w' q p := by
  obtain ⟨A, n, c, z, hb, hs, hz, hn⟩ := h
  exact ⟨A, n, c, z, hb.grown hg (fun e => by have := hx q e.symm; omega), hs.keep (fun b hb hl => hg.block b hl (fun e => by have := hx b e.symm; unfold Lt at hb; omega)), hz, hn⟩
theorem Rd.lt {w : World} {q p : Nat} (h : Rd w q p) : q < w.heap.size := by
  obtain ⟨A, n, c, x, hb, _⟩ := h
  exact hb.lt

set_option maxHeartbeats 1000000 in
theorem l6Open_any (A : Option Addr) (n c : Nat) (zs : List Int) (w : World) (h : IsRow .u8 w A n c zs) :
    Calls Try.prog 20 #[.slice A n c] w fun e w' => ∃ q, e = .returned (.pointer (some ⟨q, 0, none⟩)) ∧ w.heap.size ≤ q ∧ Rd w' q 0 ∧ w.grownBy w' none := by
  obtain ⟨hS, hx, hl, hm⟩ := h.sl
  unfold maxLen at hm
  have fin : ∀ m, m ≤ n → m ≤ 2000 → Rd (w.alloc (.cells #[.slice A m c, .int .i64 0] 75)) w.heap.size 0 := fun m hmn hm2 =>
    ⟨A, m, c, fun i => zs.getD i 0, Blk.new _ _ _, by
      have h1 : Sl w (Lt w.heap.size) A m (fun i => .int .u8 (zs.getD i 0)) := fun hm0 => by
        obtain ⟨g, o, e, _, hc⟩ := hS (by omega)
        exact ⟨g, o, e, by have : g < w.heap.size := World.block_lt_of_cell? w ⟨g, o + 0, none⟩ (hc 0 (by omega)); unfold Lt; omega, fun i hi => hc i (by omega)⟩
      exact h1.grown0 (World.grownBy_alloc _ _ _), fun i hi => hx i (by omega), hm2⟩
  have finh := Lib.hid fin
  clear fin
  have hxh := Lib.hid hx
  clear hx
  by_cases h2 : n > 2000
  · go_enter Try.func20, Try.ntmps20
    go_wp2_with fail
    go_ret
    exact ⟨_, rfl, Nat.le_refl _, finh.out 2000 (by omega) (by omega), World.grownBy_alloc _ _ _⟩
  · go_enter Try.func20, Try.ntmps20
    go_wp2_with fail
    go_ret
    exact ⟨_, rfl, Nat.le_refl _, finh.out n (by omega) (by omega), World.grownBy_alloc _ _ _⟩

theorem i64_xor_nat (a b : Nat) (ha : a < 9223372036854775808) (hb : b < 9223372036854775808) : bits .xor .i64 (a : Int) (b : Int) = ((a ^^^ b : Nat) : Int) := by
  have hx : a ^^^ b < 2 ^ 63 := Nat.xor_lt_two_pow (by omega) (by omega)
  have e : ∀ c : Nat, c < 9223372036854775808 → (BitVec.ofInt 64 (c : Int)).toNat = c := fun c hc => by
    rw [BitVec.ofInt_natCast, BitVec.toNat_ofNat]; exact Nat.mod_eq_of_lt (by omega)
  show IntKind.i64.wrap ((BitVec.ofInt 64 (a : Int) ^^^ BitVec.ofInt 64 (b : Int)).toNat : Int) = _
  rw [BitVec.toNat_xor, e a ha, e b hb, IntKind.wrap_i64]
  omega

set_option maxHeartbeats 1000000 in
/-- 'pick' gives some number below n. -/
theorem pick_any (q p k : Nat) (w : World) (h : Rd w q p) (hp : p ≤ 1099511627776) (hk0 : 1 ≤ k) (hk : k ≤ 1048576) :
    Calls Try.prog 22 #[.pointer (some ⟨q, 0, none⟩), .int .i64 (k : Int)] w fun e w' => ∃ i : Nat, i < k ∧ e = .returned (.int .i64 (i : Int)) ∧ Rd w' q (p + 1) ∧ w.grownBy w' (some q) := by
  obtain ⟨A, n, c, x, hb, hS, hx, hn⟩ := h
  have hc0 := hb.cell 0
  have hc1 := hb.cell 1
  have hf1 := hb.free 1
  simp only [List.getElem?_toArray, List.getElem?_cons_zero, List.getElem?_cons_succ] at hc0 hc1
  have hlt := hb.lt
  have fin : Rd (w.setCell ⟨q, 1, none⟩ (.int .i64 ((p : Int) + 1))) q (p + 1) := ⟨A, n, c, x, by
      have := hb.set 1 (.int .i64 ((p : Int) + 1))
      simpa using this, hS.keep fun b hb _ => heap_setCell_other _ _ _ _ (Nat.ne_of_lt hb), hx, hn⟩
  have fing : w.grownBy (w.setCell ⟨q, 1, none⟩ (.int .i64 ((p : Int) + 1))) (some q) := gr_set (gr_refl w _) (.inl rfl) _
  have finh := Lib.hid fin
  clear fin
  by_cases hn0 : n = 0
  · subst hn0
    go_enter Try.func22, Try.ntmps22
    go_wp2_with fail
    go_ret
    exact ⟨0, by omega, rfl, finh.out, fing⟩
  · obtain ⟨g, o, rfl, hgq, hcell⟩ := hS (by omega)
    have hcell2 : ∀ j, j < n → (w.setCell ⟨q, 1, none⟩ (.int .i64 ((p : Int) + 1))).cell? ⟨g, o + j, none⟩ = some (.int .u8 (x j)) := fun j hj =>
      (World.cell?_of_block (w := w) (a := ⟨g, o + j, none⟩) (heap_setCell_other w ⟨q, 1, none⟩ g _ (Nat.ne_of_lt hgq))).trans (hcell j hj)
    have hcell2h := Lib.hid hcell2
    clear hcell hcell2
    have hnb : ((n : Int) == 0) = false := by rw [beq_eq_false_iff_ne]; omega
    by_cases hpn : p < n
    · have hxp := hx p hpn
      have hcp2 := hcell2h.out p hpn
      go_enter Try.func22, Try.ntmps22
      go_wp2_with fail
      go_ret
      have hm0 : 0 ≤ x p % (k : Int) := Int.emod_nonneg _ (by omega)
      have hm1 : x p % (k : Int) < (k : Int) := Int.emod_lt_of_pos _ (by omega)
      exact ⟨(x p % (k : Int)).toNat, by omega, ret_int (by omega), finh.out, fing⟩
    · have hm1 : p % n < n := Nat.mod_lt _ (by omega)
      have hm2 : (p * 7 + 3) % n < n := Nat.mod_lt _ (by omega)
      have hx1 := hx _ hm1
      have hx2 := hx _ hm2
      have hc1 := hcell2h.out _ hm1
      have hc2 := hcell2h.out _ hm2
      have t1 : (p : Int).tmod (n : Int) = (p : Int) % (n : Int) := Int.tmod_eq_emod_of_nonneg (by omega)
      have t2 : IntKind.i64.wrap ((p : Int) % (n : Int)) = (p : Int) % (n : Int) := IntWalk.i64_in _ (by omega)
      have t3 : ((p : Int) % (n : Int)).toNat = p % n := by omega
      have t4 : 0 ≤ (p : Int) % (n : Int) := by omega
      have t5 : (p : Int) % (n : Int) < (n : Int) := by omega
      have u1 : IntKind.i64.wrap ((p : Int) * 7) = (p : Int) * 7 := IntWalk.i64_in _ (by omega)
      have u2 : IntKind.i64.wrap ((p : Int) * 7 + 3) = (p : Int) * 7 + 3 := IntWalk.i64_in _ (by omega)
      have u3 : ((p : Int) * 7 + 3).tmod (n : Int) = ((p : Int) * 7 + 3) % (n : Int) := Int.tmod_eq_emod_of_nonneg (by omega)
      have u4 : 0 ≤ ((p : Int) * 7 + 3) % (n : Int) := Int.emod_nonneg _ (by omega)
      have u5 : ((p : Int) * 7 + 3) % (n : Int) < (n : Int) := Int.emod_lt_of_pos _ (by omega)
      have u6 : IntKind.i64.wrap (((p : Int) * 7 + 3) % (n : Int)) = ((p : Int) * 7 + 3) % (n : Int) := IntWalk.i64_in _ (by omega)
      have u7 : (((p : Int) * 7 + 3) % (n : Int)).toNat = (p * 7 + 3) % n := by
        have e : ((p : Int) * 7 + 3) % (n : Int) = (((p * 7 + 3) % n : Nat) : Int) := by simp
        rw [e, Int.toNat_natCast]
      have v1 : IntKind.i64.wrap (x (p % n)) = x (p % n) := IntWalk.i64_in _ (by omega)
      have v2 : IntKind.i64.wrap (x (p % n) * 131) = x (p % n) * 131 := IntWalk.i64_in _ (by omega)
      have v3 : IntKind.i64.wrap (x ((p * 7 + 3) % n)) = x ((p * 7 + 3) % n) := IntWalk.i64_in _ (by omega)
      have v4 : IntKind.i64.wrap (x ((p * 7 + 3) % n) * 1117) = x ((p * 7 + 3) % n) * 1117 := IntWalk.i64_in _ (by omega)
      have v5 : IntKind.i64.wrap (x (p % n) * 131 + x ((p * 7 + 3) % n) * 1117) = x (p % n) * 131 + x ((p * 7 + 3) % n) * 1117 := IntWalk.i64_in _ (by omega)
      have v6 : IntKind.i64.wrap ((p : Int) * 29) = (p : Int) * 29 := IntWalk.i64_in _ (by omega)
      have v7 : IntKind.i64.wrap (x (p % n) * 131 + x ((p * 7 + 3) % n) * 1117 + (p : Int) * 29) = x (p % n) * 131 + x ((p * 7 + 3) % n) * 1117 + (p : Int) * 29 := IntWalk.i64_in _ (by omega)
      have d0 : 0 ≤ (p : Int) / (n : Int) := Int.ediv_nonneg (by omega) (by omega)
      have d1 : (p : Int) / (n : Int) ≤ (p : Int) := Int.ediv_le_self _ (by omega)
      have v8 : (p : Int).tdiv (n : Int) = (p : Int) / (n : Int) := Int.tdiv_eq_ediv_of_nonneg (by omega)
      have v9 : IntKind.i64.wrap ((p : Int) / (n : Int)) = (p : Int) / (n : Int) := IntWalk.i64_in _ (by omega)
      have v10 : IntKind.i64.wrap ((p : Int) / (n : Int) * 53) = (p : Int) / (n : Int) * 53 := IntWalk.i64_in _ (by omega)
      have v11 : IntKind.i64.wrap (x (p % n) * 131 + x ((p * 7 + 3) % n) * 1117 + (p : Int) * 29 + (p : Int) / (n : Int) * 53) = x (p % n) * 131 + x ((p * 7 + 3) % n) * 1117 + (p : Int) * 29 + (p : Int) / (n : Int) * 53 := IntWalk.i64_in _ (by omega)
      have hv0 : 0 ≤ x (p % n) * 131 + x ((p * 7 + 3) % n) * 1117 + (p : Int) * 29 + (p : Int) / (n : Int) * 53 := by omega
      have hv1 : x (p % n) * 131 + x ((p * 7 + 3) % n) * 1117 + (p : Int) * 29 + (p : Int) / (n : Int) * 53 ≤ 1000000000000000 := by omega
      go_enter Try.func22, Try.ntmps22
      go_wp2_with fail
      go_quiet (fail)
      clear t1 t2 t3 t4 t5 u1 u2 u3 u4 u5 u6 u7 v1 v2 v3 v4 v5 v6 v7 d0 d1 v8 v9 v10 v11 hx1 hx2 hc1 hc2
      generalize x (p % n) * 131 + x ((p * 7 + 3) % n) * 1117 + (p : Int) * 29 + (p : Int) / (n : Int) * 53 = V at *
      obtain ⟨V, rfl⟩ := Int.eq_ofNat_of_zero_le hv0
      have hxor := i64_xor_nat V (V / 64) (by omega) (by omega)
      rw [show ((V / 64 : Nat) : Int) = (V : Int) / 64 by omega] at hxor
      have hxh := Lib.hid hxor
      clear hxor
      go_wp2_with fail
      go_ret
      refine ⟨(V ^^^ (V / 64)) % k, Nat.mod_lt _ (by omega), ret_int ?_, finh.out.grown0 (gr_drewN (gr_refl _ _) _), gr_drewN fing _⟩
      rw [hxh.out, Int.tmod_eq_emod_of_nonneg (by omega), Int.natCast_emod]

theorem len_of (l : List UInt8) : (⟨l.toArray⟩ : ByteArray).size = l.length := rfl

/-- A draw among n texts gives one of them. -/
theorem of_any (q p : Nat) (A : Option Addr) (n c : Nat) (f : Nat → List UInt8) (w : World) (h : Rd w q p) (hp : p ≤ 1099511627776) (hn : 1 ≤ n) (hn2 : n ≤ 1048576) (hS : Sl w (Ne q) A n (fun i => .string ⟨(f i).toArray⟩)) :
    Calls Try.prog 33 #[.pointer (some ⟨q, 0, none⟩), .slice A n c] w fun e w' => ∃ i : Nat, i < n ∧ e = .returned (.string ⟨(f i).toArray⟩) ∧ Rd w' q (p + 1) ∧ w.grownBy w' (some q) := by
  obtain ⟨g, o, rfl, hgq, hcell⟩ := hS (by omega)
  have hch := Lib.hid hcell
  clear hcell
  go_enter Try.func33, Try.ntmps33
  go_wp2_with fail
  refine (pick_any q p n w h hp hn hn2).mono ?_
  rintro e w1 ⟨i, hi, rfl, hr1, hg1⟩
  have hlt : g < w.heap.size := World.block_lt_of_cell? w ⟨g, o + i, none⟩ (hch.out i hi)
  have hci : w1.cell? ⟨g, o + i, none⟩ = some (.string ⟨(f i).toArray⟩) := (World.cell?_of_block (w := w) (a := ⟨g, o + i, none⟩) (hg1.block g hlt (by unfold Ne at hgq; simpa using hgq))).trans (hch.out i hi)
  go_wp2_with fail
  go_ret
  exact ⟨i, hi, rfl, hr1, hg1⟩
end Go.Proofs.Ytlehnlfgjadleaa
