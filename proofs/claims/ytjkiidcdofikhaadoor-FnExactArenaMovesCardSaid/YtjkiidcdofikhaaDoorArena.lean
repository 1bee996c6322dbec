/- ArenaMoves on both sides. -/
import Derived.Test.YtjkiidcdofikhaaDoorMovesI
import Derived.Test.YtjkiidcdofikhaaDoorSAt
namespace Go.Proofs.YtjkiidcdofikhaaDoor
open Go.RowKit

/-- All moves of a text's type. -/
def arenaL (r : List UInt8) : List (List UInt8) := match Ty.read r with | none => [] | some t => movesT t []
theorem movesT_le {t : Ty} (h : t.atoms ≤ 15) : (movesT t []).length ≤ 24 := by
  have h1 := movesT_length t []
  have h2 := count_atoms t
  omega
theorem arenaL_len (r : List UInt8) : (arenaL r).length ≤ 24 := by
  unfold arenaL
  split
  · simp
  · rename_i t h
    exact movesT_le (Ty.read_some h).2
theorem own_capA {w : World} {base : Nat} {e : TypeId} {A : Option Addr} {n c : Nat} {xs : List Value} (h : w.ownsRow base e 1 (.slice A n c) n xs) : n ≤ c := by
  obtain ⟨hl, ⟨e1, e2⟩ | ⟨g, cap, cur, e1, hb, hr, h1, h2, h3, h4⟩⟩ := h
  · injection e1 with _ e3 e4
    omega
  · injection e1 with _ e3 e4
    omega
/-- What both ArenaMoves give: a row of their own. -/
def ArenaPost (w w' : World) (r : List UInt8) (e : Ending) : Prop :=
  ∃ A cap, e = .returned (.tuple #[.slice A (arenaL r).length cap, .bool (Ty.read r).isSome]) ∧ w'.ownsRow w.heap.size 9 1 (.slice A (arenaL r).length cap) (arenaL r).length ((arenaL r).map strv)

theorem gr_xa {w0 w w' : World} {x : Option Nat} (h : w0.grownBy w none) (hg : w.grownBy w' x) (hx : ∀ g, x = some g → w0.heap.size ≤ g) : w0.grownBy w' none := by
  cases x with
  | none => exact gr_trans h hg
  | some g => exact gr_trans_new h hg (hx g rfl)
set_option maxHeartbeats 400000 in
theorem arenaMoves_any (r : List UInt8) (w : World) (hr : r.length ≤ 1099511627776) :
    Calls Tryd.prog 10 #[.string ⟨r.toArray⟩] w fun e w' => ArenaPost w w' r e ∧ w.grownBy w' none := by
  go_enter Tryd.func10, Tryd.ntmps10
  go_wp2_with fail
  refine (readKind_any r w hr).mono ?_
  rintro e w1 ⟨hg, hm1⟩
  cases hp : Ty.read r with
  | none =>
    rw [hp] at hm1
    subst hm1
    have hph := Lib.hid hp
    clear hp
    go_wp2_with fail
    go_ret2
    refine ⟨?_, hg⟩
    unfold ArenaPost arenaL
    rw [hph.out]
    exact ⟨_, _, rfl, own_nil _ _ _⟩
  | some t =>
    have ha := (Ty.read_some hp).2
    rw [hp] at hm1
    obtain ⟨q, rfl, hk⟩ := hm1
    have hph := Lib.hid hp
    clear hp
    have hM := Lib.hid (moves_any t.atoms t q _ [] w1 (Nat.le_refl _) ha (by simp; omega) hk)
    go_wp2_with fail
    refine hM.out.mono ?_
    rintro e w2 ⟨A, c, rfl, hown, hg2⟩
    go_wp2_with fail
    go_ret2
    refine ⟨?_, gr_trans hg hg2⟩
    unfold ArenaPost arenaL
    rw [hph.out]
    exact ⟨A, c, rfl, own_weak hown hg.size⟩
set_option maxHeartbeats 400000 in
theorem sArenaMoves_any (r : List UInt8) (w : World) (hr : r.length ≤ 1099511627776) :
    Calls Tryd.prog 9 #[.string ⟨r.toArray⟩] w fun e w' => ArenaPost w w' r e ∧ w.grownBy w' none := by
  go_enter Tryd.func9, Tryd.ntmps9
  go_wp2_with fail
  refine (l1Type_any r w hr).mono ?_
  rintro e w1 ⟨hg, hm1⟩
  cases hp : Ty.read r with
  | none =>
    rw [hp] at hm1
    obtain ⟨t, A, c, rfl, ht⟩ := hm1
    have hph := Lib.hid hp
    clear hp
    go_wp2_with fail
    go_ret2
    have hg2 := gr_alloc hg (.cells #[.slice A t.args.length c] 41)
    have hE := own_empty 9 hg2.size
    rw [World.size_alloc] at hE
    refine ⟨?_, gr_alloc hg2 _⟩
    unfold ArenaPost arenaL
    rw [hph.out]
    exact ⟨_, _, rfl, hE⟩
  | some t =>
    have ha := (Ty.read_some hp).2
    rw [hp] at hm1
    obtain ⟨T, c0, rfl, hk⟩ := hm1
    have hph := Lib.hid hp
    clear hp
    have hs1 := hg.size
    have hM0 := show Calls Tryd.prog 28 #[.agg #[.slice T t.args.length c0], .string ⟨#[]⟩, .slice (some ⟨w1.heap.size + 1, 0, none⟩) 0 0] ((w1.alloc (.cells #[.slice T t.args.length c0] 41)).alloc (.cells #[] 9)) (fun e w' => ∃ A' c', e = .returned (.slice A' (movesT t []).length c') ∧ w'.ownsRow w.heap.size 9 1 (.slice A' (movesT t []).length c') (movesT t []).length ((movesT t []).map strv) ∧ ((w1.alloc (.cells #[.slice T t.args.length c0] 41)).alloc (.cells #[] 9)).grownBy w' (some (w1.heap.size + 1)) ∧ ∀ g2, (Value.slice A' (movesT t []).length c').ownBlock = some g2 → some g2 = some (w1.heap.size + 1) ∨ ((w1.alloc (.cells #[.slice T t.args.length c0] 41)).alloc (.cells #[] 9)).heap.size ≤ g2) from
        l1Moves_any t.atoms t T c0 (fun b => b < w1.heap.size) [] [] (some ⟨w1.heap.size + 1, 0, none⟩) 0 w.heap.size _ (Nat.le_refl _) ha (by simp; omega) ((hk.mono (G := fun b => b < w1.heap.size) (fun b h1 h2 => h2)).grown0 (gr_alloc (World.grownBy_alloc _ _ _) _)) ⟨rfl, .inr ⟨w1.heap.size + 1, 0, #[], rfl, by omega, by have := Blk.new (w1.alloc (.cells #[.slice T t.args.length c0] 41)) 9 #[]; rw [World.size_alloc] at this; exact this, Nat.le_refl _, by unfold maxLen; omega, rfl, rfl⟩⟩ (by simp; omega) (by simp; omega) (fun b hb1 e => by
          injection e with e
          simp at e
          omega)
    have hMh := Lib.hid hM0
    clear hM0
    go_wp2_with fail
    refine hMh.out.mono ?_
    rintro e w3 ⟨AM, cM, rfl, hownM, hg3, hbM⟩
    have hgA : w.grownBy w3 none := gr_xa (gr_alloc (gr_alloc hg _) _) hg3 (fun g hg => by injection hg with hg; omega)
    go_wp2_with fail
    go_ret2
    refine ⟨?_, hgA⟩
    unfold ArenaPost arenaL
    rw [hph.out]
    exact ⟨AM, cM, rfl, hownM⟩
def hasT (V : List (List UInt8)) (x : List UInt8) : Bool := V.contains x
set_option maxHeartbeats 1000000 in
theorem hasText_any (V : List (List UInt8)) (x : List UInt8) (A : Option Addr) (c : Nat) (F : Nat → Prop) (w : World) (hS : Sl w F A V.length (sv V)) (hV : V.length ≤ 1000000000) :
    Calls Tryd.prog 17 #[.slice A V.length c, .string ⟨x.toArray⟩] w fun e w' => e = .returned (.bool (hasT V x)) ∧ w = w' := by
  go_enter Tryd.func17, Tryd.ntmps17
  go_wp2_with fail
  go_loop [5] (fun i => ∃ (k : Nat), k ≤ V.length ∧ i = .int .i64 (k : Int) ∧ ∀ j (h : j < V.length), j < k → V[j] ≠ x) (fun i => V.length - (intOf i).toNat)
  case atStart => exact ⟨0, Nat.zero_le _, rfl, fun j _ hj => absurd hj (by omega)⟩
  case round =>
    obtain ⟨k, hkl, rfl, hall⟩ := hrel
    have hallh := Lib.hid hall
    clear hall
    by_cases hlt : k < V.length
    · obtain ⟨g, o, rfl, _, hcell⟩ := hS (by omega)
      have c1 := hcell k hlt
      rw [sv_lt V hlt] at c1
      clear hcell
      by_cases he : V[k] = x
      · have hR := Lib.hid (show hasT V x = true from List.contains_iff_mem.2 (he ▸ List.getElem_mem hlt))
        rw [he] at c1
        clear he
        go_wp2_with fail
        go_ret
        exact ⟨by rw [hR.out]; rfl, rfl⟩
      · have e1 : (V[k] == x) = false := by rw [beq_eq_false_iff_ne]; exact he
        have heh := Lib.hid he
        clear he
        go_wp2_with fail
        go_round
        case rel =>
          refine ⟨k + 1, by omega, by go_num, fun j h hj => ?_⟩
          by_cases hjk : j = k
          · subst hjk; exact heh.out
          · exact hallh.out j h (by omega)
        case measure => simp [intOf]; omega
    · obtain rfl : k = V.length := by omega
      have hR := Lib.hid (show hasT V x = false by
        unfold hasT
        rw [Bool.eq_false_iff, ne_eq, List.contains_iff_mem]
        intro hv
        obtain ⟨j, hj, h⟩ := List.mem_iff_getElem.1 hv
        exact hallh.out j hj hj h)
      go_wp2_with fail
      go_ret
      exact ⟨by rw [hR.out]; rfl, rfl⟩
end Go.Proofs.YtjkiidcdofikhaaDoor
