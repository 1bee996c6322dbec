/- The program's CountOf. -/
import Derived.Test.YtlehnlfgjadleaaIBod
import Derived.Test.YtlehnlfgjadleaaSCnt3
namespace Go.Proofs.Ytlehnlfgjadleaa
open Go.RowKit Go.Maps

theorem counterOf_any (w : World) : Calls Try.prog 16 #[] w fun e w' => ∃ q b, e = .returned (.pointer (some ⟨q, 0, none⟩)) ∧ Blk w' q 67 #[.map (some b)] ∧ q ≠ b ∧ CMap w' (Off b) b 0 ∧ w.grownBy w' none ∧ w.heap.size ≤ b := by
  have hmm := @run_makeMap Try.prog
  go_enter Try.func16, Try.ntmps16
  go_wp2_with fail
  go_ret
  refine ⟨w.heap.size + 1, w.heap.size, rfl, ?_, by omega, ?_, gr_alloc (World.grownBy_alloc w _ none) _, Nat.le_refl _⟩
  · have h := Blk.new (w.alloc (.map #[] 0)) 67 #[.map (some w.heap.size)]
    rw [World.size_alloc] at h
    exact h
  · exact (CMap.made w (Off w.heap.size) (fun _ h => h)).grown0 (World.grownBy_alloc _ _ none)
theorem cntbig_any (n : Nat) (w : World) (h : n ≤ 1000000000) : Calls Try.prog 19 #[.int .i64 (n : Int)] w fun e w' => e = .returned (.bool false) ∧ w = w' := by
  have h1 : ¬ (1000000000 : Int) < (n : Int) := by omega
  go_enter Try.func19, Try.ntmps19
  go_wp2_with fail
  go_ret
  exact ⟨by first | rfl | (rw [decide_eq_false h1]), rfl⟩
theorem idxFunc_any (n : Nat) (f : Nat → Nat) (A : Option Addr) (c : Nat) (F : Nat → Prop) (w : World) (hA : Sl w F A n (fun i => .int .i64 (f i : Int))) (hf : ∀ i, i < n → f i ≤ 1000000000) (hn : n ≤ 1000) :
    Calls Try.prog 32 #[.slice A n c, .func (.func 19) #[] #[]] w fun e w' => e = .returned (.int .i64 (-1)) ∧ w = w' := by
  have hfh := Lib.hid hf
  clear hf
  go_enter Try.func32, Try.ntmps32
  go_wp2_with fail
  go_loopw [8] (fun i wr => ∃ k, k ≤ n ∧ i = .int .i64 (k : Int) ∧ wr = w) (fun i _ => n - (intOf i).toNat)
  case atStart => exact ⟨0, Nat.zero_le _, rfl, rfl⟩
  case round =>
    obtain ⟨k, hk, rfl, rfl⟩ := hrel
    by_cases hkl : k < n
    · obtain ⟨g, o, rfl, _, hc⟩ := hA (by omega)
      have ck := hc k hkl
      have hx := hfh.out k hkl
      have hcl : g < wr.heap.size := World.block_lt_of_cell? wr ⟨g, o + k, none⟩ ck
      have hC := Lib.hid (fun W => cntbig_any (f k) W hx)
      clear hc
      go_wp2_with fail
      refine (hC.out _).mono ?_
      rintro e w' ⟨rfl, rfl⟩
      go_wp2_with fail
      go_roundw
      case rel => exact ⟨k + 1, by omega, by go_num, trivial⟩
      case measure => simp [intOf]; omega
    · obtain rfl : k = n := by omega
      go_wp2_with fail
      go_ret
      exact ⟨rfl, rfl⟩
theorem contF_any (n : Nat) (f : Nat → Nat) (A : Option Addr) (c : Nat) (F : Nat → Prop) (w : World) (hA : Sl w F A n (fun i => .int .i64 (f i : Int))) (hf : ∀ i, i < n → f i ≤ 1000000000) (hn : n ≤ 1000) :
    Calls Try.prog 18 #[.slice A n c, .func (.func 19) #[] #[]] w fun e w' => e = .returned (.bool false) ∧ w = w' := by
  have hC := Lib.hid (idxFunc_any n f A c F w hA hf hn)
  go_enter Try.func18, Try.ntmps18
  go_wp2_with fail
  refine hC.out.mono ?_
  rintro e w' ⟨rfl, rfl⟩
  go_wp2_with fail
  go_ret
  exact ⟨rfl, rfl⟩
/-- What the program's CountOf leaves: a row of its own. -/
def ICntPost (s : List UInt8) (most : Int) (w : World) (e : Ending) (w' : World) : Prop :=
  w.grownBy w' none ∧ match cntRes s most with
    | some L => ∃ A c, e = .returned (.tuple #[.slice A L.length c, .bool true]) ∧ w'.ownsRow w.heap.size 3 1 (.slice A L.length c) L.length (L.map intv)
    | none => e = .returned (.tuple #[.slice none 0 0, .bool false])
theorem ICntPost.no {s : List UInt8} {most : Int} {w w' : World} (h : cntRes s most = none) (hg : w.grownBy w' none) : ICntPost s most w (.returned (.tuple #[.slice none 0 0, .bool false])) w' := ⟨hg, by rw [h]⟩
theorem ICntPost.yes {s : List UInt8} {most : Int} {w w' : World} {A : Option Addr} {n c : Nat} {L : List Int} (h : cntRes s most = some L) (hl : L.length = n) (hg : w.grownBy w' none) (ho : w'.ownsRow w.heap.size 3 1 (.slice A n c) n (L.map intv)) : ICntPost s most w (.returned (.tuple #[.slice A n c, .bool true])) w' := ⟨hg, by subst hl; rw [h]; exact ⟨A, c, rfl, ho⟩⟩
set_option maxRecDepth 100000 in
set_option maxHeartbeats 4000000 in
theorem iCountOf_any (s : List UInt8) (most : Int) (w : World) (hs : s.length ≤ 1099511627776) :
    Calls Try.prog 6 #[.string ⟨s.toArray⟩, .int .i64 most] w (ICntPost s most w) := by
  have hK := Lib.hid (readKind_any s w (by omega))
  go_enter Try.func6, Try.ntmps6
  go_wp2_with fail
  refine hK.out.mono ?_
  rintro e w1 ⟨hg1, hm⟩
  clear hK
  cases hp : Ty.read s with
  | none =>
    rw [hp] at hm
    obtain rfl := hm
    have hN := Lib.hid (show cntRes s most = none by unfold cntRes; rw [hp])
    clear hp
    go_wp2_with fail
    go_ret2
    exact ICntPost.no hN.out hg1
  | some t =>
    rw [hp] at hm
    obtain ⟨q, rfl, hk⟩ := hm
    obtain ⟨hS, hl7⟩ := handS_of hp
    by_cases hr : 1 ≤ most ∧ most ≤ 8
    · have hY := Lib.hid (show cntRes s most = some ((List.range most.toNat).map fun i => (C t.args (i + 1) : Int)) by unfold cntRes; rw [hp]; exact if_pos hr)
      obtain ⟨n, rfl⟩ : ∃ n : Nat, most = (n : Int) := ⟨most.toNat, by omega⟩
      clear hp
      have hn1 : ¬ (n : Int) < 1 := by omega
      have hn8 : ¬ (8 : Int) < (n : Int) := by omega
      obtain ⟨A, c, hbk, hH⟩ := HandP.of_kind hk
      have hkc := Lib.hid (fun W (hW : w1.grownBy W none) => show W.cell? ⟨q, 0, none⟩ = some (.slice A t.args.length c) from (hbk.grown0 hW).cell 0)
      have hcnt := Lib.hid (fun i (hi : i ≤ n) => Nat.le_trans (C_le 8 i t.args (by omega) (by omega) hS (by omega)) (tb_small i (by omega)))
      have hHh := Lib.hid (hH.mono (G := fun x => x < w1.heap.size) (fun x _ h => h))
      have hgd := gr_drew (gr_refl w1 none)
      have h20 : 0 + 20 ^ n ≤ 1000000000000000 := by
        have : 20 ^ n ≤ 20 ^ 8 := Nat.pow_le_pow_right (by decide) (by omega)
        omega
      have h20h := Lib.hid h20
      have h11 : (1 : Int) ≤ (n : Int) + 1 := by omega
      have h12 : (0 : Int) ≤ (n : Int) + 1 := by omega
      clear h20 hH hbk hk
      go_wp2_with fail
      go_region_held3 (fun W => W.cell? ⟨q, 0, none⟩ = some (.slice A t.args.length c))
        (first | exact hkc.out _ hgd | exact hkc.out _ hg16 | exact hkc.out _ hg15)
        (first
          | (go_at_call 17; refine (bodies_any 8 t.args A c b2 q2 n 0 (Off b2) w5 (by omega) (by omega) (by omega) hS (by omega) hH5 hq2 hqb2 hm5 h20h.out).mono ?_; rintro e w6 ⟨v6, rfl, ⟨A6, c6, rfl, hc6, hS6⟩, hg6, hm6⟩; have hg16 := gr_trans_new hg15 hg6 hbl5; have hc61 : ¬ c6 = 1 := (by omega); have hc62 : (n : Int) + 1 ≤ (c6 : Int) := (by omega))
          | (go_at_call 16; refine (counterOf_any _).mono ?_; rintro e w5 ⟨q2, b2, rfl, hq2, hqb2, hm5, hg5, hbl5⟩; have hg15 := gr_trans hgd hg5; have hH5 := (hHh.out.grown0 hg15).mono (G := Off b2) (fun x hx _ => by unfold Off; have : w1.heap.size ≤ b2 := hbl5; omega)))
      obtain ⟨g6, o6, rfl, _, hcc6⟩ := hS6 (by omega)
      have hsl : Sl w6 Al (some ⟨g6, o6 + 1, none⟩) n (fun i => .int .i64 (C t.args (i + 1) : Int)) := fun _ => ⟨g6, o6 + 1, rfl, trivial, fun i hi => by rw [show o6 + 1 + i = o6 + (i + 1) by omega]; exact hcc6 (i + 1) (by omega)⟩
      go_wp2_with fail
      refine (contF_any n (fun i => C t.args (i + 1)) (some ⟨g6, o6 + 1, none⟩) (c6 - 1) Al w6 hsl (fun i hi => by have := hcnt.out (i + 1) (by omega); omega) (by omega)).mono ?_
      rintro e w7 ⟨rfl, rfl⟩
      have hown0 : w6.ownsRow w.heap.size 3 1 (.slice none 0 0) 0 [] := ⟨rfl, .inl ⟨rfl, rfl⟩⟩
      have hg06 := gr_trans hg1 hg16
      have hs6 := gr_le hg06
      go_wp2_with (at_builtin; refine wpList_app rfl _ _ 22 rfl w.heap.size 3 (.int .i64 0) 8 Try.underlying22 info_int rfl _ _ _ _ rfl hown0 (some ⟨g6, o6 + 1, none⟩) n (c6 - 1) _ rfl Al hsl (fun _ _ => rfl) (by unfold maxLen; omega) (by omega) hs6 ?_; intro A8 c8 w8 hown8 hg8 hat8; simp only [Nat.zero_add, List.nil_append] at hown8 ⊢; have hgn8 := gr_ownb hg06 hown0 (Nat.le_refl _) hg8)
      go_ret2
      exact ICntPost.yes hY.out (by simp) hgn8 (by rw [List.map_map]; exact hown8)
    · have hN := Lib.hid (show cntRes s most = none by unfold cntRes; rw [hp]; exact if_neg hr)
      have hI : most < 1 ∨ (¬ most < 1 ∧ 8 < most) := by omega
      clear hp
      rcases hI with hI | ⟨hI, hI2⟩
      all_goals
        go_wp2_with fail
        go_ret2
        exact ICntPost.no hN.out hg1
end Go.Proofs.Ytlehnlfgjadleaa
