/- Views: the program's and the reference's. -/
import Derived.Test.YtegidbdgneecmaaDoorPlayOk
import Derived.RegionTactic
namespace Go.Proofs.YtegidbdgneecmaaDoor
open Go.RowKit

/-- A view as numbers. -/
def vI (p : Pl) (o : Bool) (n : Nat) : List Int := (p.view o n).map fun k : Nat => (k : Int)

/-- A list of which k have been exchanged at both ends. -/
def rv (xs : List Int) (k : Nat) : List Int := (List.range xs.length).map fun x => if x < k ∨ xs.length ≤ x + k then xs.getD (xs.length - 1 - x) 0 else xs.getD x 0
theorem rv_zero (xs : List Int) : rv xs 0 = xs := by
  refine List.ext_getElem (by simp [rv]) fun i h1 h2 => ?_
  simp only [rv, List.getElem_map, List.getElem_range]
  rw [if_neg (by omega)]
  simp [List.getD, h2]
theorem rv_end (xs : List Int) {k : Nat} (h : xs.length ≤ 2 * k + 1) : rv xs k = xs.reverse := by
  refine List.ext_getElem (by simp [rv]) fun i h1 h2 => ?_
  simp only [List.length_reverse] at h2
  simp only [rv, List.getElem_map, List.getElem_range, List.getElem_reverse]
  split
  · simp [List.getD, show xs.length - 1 - i < xs.length by omega]
  · have : xs.length - 1 - i = i := by omega
    simp [List.getD, h2, this]
theorem rv_step (xs : List Int) {k j : Nat} (hj : j + k + 1 = xs.length) (hk : k < j) : ((rv xs k).set k (xs.getD j 0)).set j (xs.getD k 0) = rv xs (k + 1) := by
  refine List.ext_getElem (by simp [rv]) fun i h1 h2 => ?_
  simp only [rv, List.length_set, List.length_map, List.length_range] at h1
  simp only [rv, List.getElem_set, List.getElem_map, List.getElem_range]
  by_cases e1 : j = i
  · subst e1
    rw [if_pos rfl, if_pos (by omega), show xs.length - 1 - j = k by omega]
  · rw [if_neg e1]
    by_cases e2 : k = i
    · subst e2
      rw [if_pos rfl, if_pos (by omega), show xs.length - 1 - k = j by omega]
    · rw [if_neg e2]
      by_cases e3 : i < k ∨ xs.length ≤ i + k
      · rw [if_pos e3, if_pos (by omega)]
      · rw [if_neg e3, if_neg (by omega)]
theorem rv_get (xs : List Int) {k x : Nat} (h : x < xs.length) (h1 : k ≤ x) (h2 : x + k < xs.length) : (rv xs k).getD x 0 = xs.getD x 0 := by
  have : x < (rv xs k).length := by simp [rv, h]
  rw [show (rv xs k).getD x 0 = (rv xs k)[x] by simp [List.getD, this]]
  simp only [rv, List.getElem_map, List.getElem_range]
  rw [if_neg (by omega)]
theorem rv_length (xs : List Int) (k : Nat) : (rv xs k).length = xs.length := by simp [rv]

set_option maxHeartbeats 1000000 in
theorem reverse_any (base cap : Nat) (A : Option Addr) (xs : List Int) (w : World) (hown : w.ownsRow base 3 1 (.slice A xs.length cap) xs.length (xs.map intv)) (hx : xs.length ≤ 1000000000) :
    Calls Tryd.prog 72 #[.slice A xs.length cap] w fun e w' => (∃ v, e = .returned v) ∧ w'.ownsRow base 3 1 (.slice A xs.length cap) xs.length (xs.reverse.map intv) ∧ w.grownBy w' (Value.slice A xs.length cap).ownBlock := by
  go_enter Tryd.func72, Tryd.ntmps72
  go_wp2_with fail
  go_loopw [2, 3] (fun i j wr => ∃ (k : Nat), 2 * k ≤ xs.length + 1 ∧ i = .int .i64 (k : Int) ∧ j = .int .i64 ((xs.length : Int) - 1 - (k : Int)) ∧ wr.ownsRow base 3 1 (.slice A xs.length cap) xs.length ((rv xs k).map intv) ∧ w.grownBy wr (Value.slice A xs.length cap).ownBlock) (fun i _ _ => xs.length - (intOf i).toNat)
  case atStart => exact ⟨0, by omega, rfl, by go_num, by rw [rv_zero]; exact hown, gr_refl _ _⟩
  case round =>
    obtain ⟨k, hk2, rfl, rfl, hownk, hgw⟩ := hrel
    by_cases hlt : k < xs.length - 1 - k
    · obtain ⟨g, cur, rfl, hblk, hnc, hbg⟩ := own_blk hownk (by omega)
      obtain ⟨j, hj, hj2⟩ : ∃ j : Nat, j = xs.length - 1 - k ∧ ((xs.length : Int) - 1 - (k : Int)) = (j : Int) := ⟨_, rfl, by omega⟩
      rw [hj2]
      have hkj : k < j := by omega
      have hjl : j < xs.length := by omega
      have hS := (own_sli hownk).1
      rw [rv_length] at hS
      have c1 := hS.at_ (i := k) (by omega)
      have c2 := hS.at_ (i := j) (by omega)
      simp only [iv, Nat.zero_add] at c1 c2
      rw [rv_get xs (by omega) (by omega) (by omega)] at c1 c2
      have f1 := hblk.free k
      have f2 := hblk.free j
      have hst := own_set (own_set hownk k (.int .i64 (xs.getD j 0))) j (.int .i64 (xs.getD k 0))
      have hrv := rv_step xs (k := k) (j := j) (by omega) hkj
      have hmap : (((rv xs k).map intv).set k (.int .i64 (xs.getD j 0))).set j (.int .i64 (xs.getD k 0)) = (rv xs (k + 1)).map intv := by
        rw [← hrv, List.map_set, List.map_set]; rfl
      rw [hmap] at hst
      have hsth := Lib.hid hst
      have hgf := Lib.hid (gr_set (gr_set hgw (p := ⟨g, k, none⟩) (.inl rfl) (.int .i64 (xs.getD j 0))) (p := ⟨g, j, none⟩) (.inl rfl) (.int .i64 (xs.getD k 0)))
      have hj2h := Lib.hid hj2
      have hjh := Lib.hid hj
      generalize xs.getD j 0 = a at *
      generalize xs.getD k 0 = b at *
      clear hS hst hmap hrv hblk hj2 hj
      go_wp2_with fail
      go_region
      all_goals go_wp2_with fail
      all_goals refine ⟨⟨k + 1, by omega, by go_num, congrArg (Value.int .i64) (by have := hjh.out; omega), hsth.out, gr_drew hgf.out⟩, ?_⟩
      all_goals simp [intOf]
      all_goals omega
    · have hR := Lib.hid (rv_end xs (k := k) (by omega))
      go_wp2_with fail
      go_end0
      refine ⟨⟨_, rfl⟩, ?_, hgw⟩
      rw [← hR.out]
      exact hownk
/-- Does a list have a number? -/
def hasI (V : List Int) (x : Int) : Bool := V.contains x
/-- The place of a number in a list, -1 for none. -/
def idxI (V : List Int) (x : Int) : Int := match V.findIdx? (· == x) with | some i => (i : Int) | none => -1
theorem idxI_map (V : List Nat) (x : Int) : idxI (V.map fun k : Nat => (k : Int)) x = Pl.idx V x := by
  unfold idxI Pl.idx
  rw [List.findIdx?_map]
  rfl
theorem idxI_ge (V : List Int) (x : Int) : decide (0 ≤ idxI V x) = hasI V x := by
  unfold idxI hasI
  rw [Bool.eq_iff_iff, decide_eq_true_eq, List.contains_iff_mem]
  cases h : V.findIdx? (· == x) with
  | none =>
    have := List.findIdx?_eq_none_iff.1 h
    constructor
    · intro h; simp at h
    · intro hx
      have := this x hx
      simp at this
  | some i =>
    obtain ⟨h1, h2, _⟩ := List.findIdx?_eq_some_iff_getElem.1 h
    constructor
    · intro _
      have := beq_iff_eq.1 h2
      rw [← this]
      exact List.getElem_mem h1
    · intro _
      simp

set_option maxHeartbeats 1000000 in
theorem index_any (V : List Int) (x : Int) (A : Option Addr) (c : Nat) (F : Nat → Prop) (w : World) (hS : Sl w F A V.length (iv V)) (hV : V.length ≤ 1000000000) :
    Calls Tryd.prog 71 #[.slice A V.length c, .int .i64 x] w fun e w' => e = .returned (.int .i64 (idxI V x)) ∧ w = w' := by
  go_enter Tryd.func71, Tryd.ntmps71
  go_wp2_with fail
  go_loop [8] (fun i => ∃ (k : Nat), k ≤ V.length ∧ i = .int .i64 (k : Int) ∧ ∀ j (h : j < V.length), j < k → V[j] ≠ x) (fun i => V.length - (intOf i).toNat)
  case atStart => exact ⟨0, Nat.zero_le _, rfl, fun j _ hj => absurd hj (by omega)⟩
  case round =>
    obtain ⟨k, hkl, rfl, hall⟩ := hrel
    have hallh := Lib.hid hall
    clear hall
    by_cases hlt : k < V.length
    · obtain ⟨g, o, rfl, _, hcell⟩ := hS (by omega)
      have c1 := hcell k hlt
      rw [iv_lt V hlt] at c1
      clear hcell
      by_cases he : V[k] = x
      · have hR := Lib.hid (show idxI V x = (k : Int) by
          unfold idxI
          rw [List.findIdx?_eq_some_iff_getElem.2 ⟨hlt, by simpa using he, fun j hj => by simpa using hallh.out j (by omega) hj⟩])
        rw [he] at c1
        clear he
        go_wp2_with fail
        go_ret
        exact ⟨ret_int hR.out.symm, rfl⟩
      · have e1 : (x == V[k]) = false := by rw [beq_eq_false_iff_ne]; exact fun h => he h.symm
        have heh := Lib.hid he
        clear he
        go_wp2_with fail
        go_round
        case rel =>
          refine ⟨k + 1, by omega, by go_num, fun j h hj => ?_⟩
          by_cases hjk : j = k
          · subst hjk; exact heh.out
          · exact hallh.out j h (by omega)
        case measure => simp [intOf]; omega
    · obtain rfl : k = V.length := by omega
      have hR := Lib.hid (show idxI V x = -1 by
        unfold idxI
        rw [List.findIdx?_eq_none_iff.2 (fun v hv => by
          obtain ⟨j, hj, rfl⟩ := List.mem_iff_getElem.1 hv
          simpa using hallh.out j hj hj)])
      go_wp2_with fail
      go_ret
      exact ⟨ret_int hR.out.symm, rfl⟩
set_option maxHeartbeats 400000 in
theorem contains_any (V : List Int) (x : Int) (A : Option Addr) (c : Nat) (F : Nat → Prop) (w : World) (hS : Sl w F A V.length (iv V)) (hV : V.length ≤ 1000000000) :
    Calls Tryd.prog 62 #[.slice A V.length c, .int .i64 x] w fun e w' => e = .returned (.bool (hasI V x)) ∧ w = w' := by
  have hR := Lib.hid (idxI_ge V x)
  go_enter Tryd.func62, Tryd.ntmps62
  go_wp2_with fail
  refine (index_any V x A c F w hS hV).mono ?_
  rintro e w' ⟨rfl, rfl⟩
  generalize idxI V x = y at *
  go_wp2_with fail
  go_ret
  exact ⟨by rw [← hR.out]; rfl, rfl⟩
set_option maxHeartbeats 1000000 in
theorem l2Has_any (V : List Int) (x : Int) (A : Option Addr) (c : Nat) (F : Nat → Prop) (w : World) (hS : Sl w F A V.length (iv V)) (hV : V.length ≤ 1000000000) :
    Calls Tryd.prog 37 #[.slice A V.length c, .int .i64 x] w fun e w' => e = .returned (.bool (hasI V x)) ∧ w = w' := by
  go_enter Tryd.func37, Tryd.ntmps37
  go_wp2_with fail
  go_loop [5] (fun i => ∃ (k : Nat), k ≤ V.length ∧ i = .int .i64 (k : Int) ∧ ∀ j (h : j < V.length), j < k → V[j] ≠ x) (fun i => V.length - (intOf i).toNat)
  case atStart => exact ⟨0, Nat.zero_le _, rfl, fun j _ hj => absurd hj (by omega)⟩
  case round =>
    obtain ⟨k, hkl, rfl, hall⟩ := hrel
    have hallh := Lib.hid hall
    clear hall
    by_cases hlt : k < V.length
    · obtain ⟨g, o, rfl, _, hcell⟩ := hS (by omega)
      have c1 := hcell k hlt
      rw [iv_lt V hlt] at c1
      clear hcell
      by_cases he : V[k] = x
      · have hR := Lib.hid (show hasI V x = true from List.contains_iff_mem.2 (he ▸ List.getElem_mem hlt))
        rw [he] at c1
        clear he
        go_wp2_with fail
        go_ret
        exact ⟨by rw [hR.out]; rfl, rfl⟩
      · have e1 : (V[k] == x) = false := by rw [beq_eq_false_iff_ne]; exact he
        have heh := Lib.hid he
        clear he
        go_wp2_with fail
        go_round
        case rel =>
          refine ⟨k + 1, by omega, by go_num, fun j h hj => ?_⟩
          by_cases hjk : j = k
          · subst hjk; exact heh.out
          · exact hallh.out j h (by omega)
        case measure => simp [intOf]; omega
    · obtain rfl : k = V.length := by omega
      have hR := Lib.hid (show hasI V x = false by
        unfold hasI
        rw [Bool.eq_false_iff, ne_eq, List.contains_iff_mem]
        intro hv
        obtain ⟨j, hj, h⟩ := List.mem_iff_getElem.1 hv
        exact hallh.out j hj hj h)
      go_wp2_with fail
      go_ret
      exact ⟨by rw [hR.out]; rfl, rfl⟩

theorem vI_length (p : Pl) (o : Bool) (n : Nat) : (vI p o n).length ≤ n := by
  unfold vI
  rw [List.length_map]
  exact Pl.view_length
theorem sl_onei (w : World) (v : Value) : Sl (w.alloc (.cells #[v] 3)) Al (some ⟨w.heap.size, 0, none⟩) 1 (fun _ => v) := sl_one w 3 v

/-- What is known of the cells of a play that is one. -/
theorem ok_nx {t : Ty} {p : Pl} (hp : p.ok t = true) {j : Nat} (hj : j < p.ms.length) (o : Bool) : (mOpp (p.mv j) = o → p.nx o j = j) ∧ (mOpp (p.mv j) ≠ o → ((p.nx o j : Nat) : Int) = p.pt j + 1) := by
  refine ⟨fun h => by unfold Pl.nx; rw [if_pos (by simpa using h)], fun h => ?_⟩
  unfold Pl.nx
  rw [if_neg (by simpa using h)]
  rcases Nat.eq_zero_or_pos j with h0 | h0
  · subst h0
    rw [(Pl.ok_zero hp hj).2]; rfl
  · obtain ⟨k, hk, hkj, _⟩ := Pl.ok_prev hp h0 hj
    omega

set_option maxHeartbeats 2000000 in
theorem view_any (t : Ty) (p : Pl) (hp : p.ok t = true) (A : Option Addr) (cA : Nat) (B : Option Addr) (cB : Nat) (G : Nat → Prop) (o : Bool) (n : Nat) (w : World) (h : PlS w G p A B) (hsm : SmallP p) (hn : n ≤ p.ms.length) :
    Calls Tryd.prog 63 #[.agg #[.slice A p.ms.length cA, .slice B p.ps.length cB], .int .i64 (n : Int), .bool o] w fun e w' => ∃ V c, e = .returned (.slice V (vI p o n).length c) ∧ w'.ownsRow w.heap.size 3 1 (.slice V (vI p o n).length c) (vI p o n).length ((vI p o n).map intv) ∧ w.grownBy w' none := by
  have h60 := (Pl.ok_iff.1 hp).1
  have hll := (Pl.ok_iff.1 hp).2.1
  have hml := Lib.hid hsm.1.2
  have hg0 := World.grownBy_alloc w (.cells #[.slice A p.ms.length cA, .slice B p.ps.length cB] 30) none
  have hbx := Blk.new w 30 #[.slice A p.ms.length cA, .slice B p.ps.length cB]
  obtain ⟨hA, hB⟩ := h.grown0 hg0
  rw [hll] at hA hB hg0 hbx ⊢
  have hllh := Lib.hid hll
  have hph := Lib.hid hp
  clear hll h hsm hp
  go_enter Tryd.func63, Tryd.ntmps63
  go_wp2_with fail
  go_loopw [7, 8] (fun u i wr => ∃ (m : Nat) (L : List Int), m ≤ n ∧ i = .int .i64 ((m : Int) - 1) ∧ L.length + m ≤ n ∧ vI p o n = vI p o m ++ L.reverse ∧ wr.ownsRow (w.alloc (.cells #[.slice A p.ms.length cA, .slice B p.ms.length cB] 30)).heap.size 3 1 u L.length (L.map intv) ∧ (w.alloc (.cells #[.slice A p.ms.length cA, .slice B p.ms.length cB] 30)).grownBy wr none) (fun _ i _ => (intOf i + 1).toNat)
  case atStart => exact ⟨n, [], Nat.le_refl _, rfl, by simp, by simp, own_nil _ _ _, gr_refl _ _⟩
  case round =>
    obtain ⟨m, L, hmn, rfl, hLm, hvI, hown, hgx⟩ := hrel
    obtain ⟨Ao, co, rfl, _⟩ := own_form hown
    have hvh := Lib.hid hvI
    clear hvI
    have hbw := hbx.grown0 hgx
    cases m with
    | zero =>
      have hR := Lib.hid (show L.reverse = vI p o n by rw [hvh.out]; unfold vI; rw [Pl.view_zero]; rfl)
      have hx0 : (((0 : Nat) : Int) - 1) = -1 := rfl
      rw [hx0]
      clear hbw hx0
      go_wp2_with fail
      refine (reverse_any _ co Ao L wr hown (by omega)).mono ?_
      rintro e w2 ⟨⟨v, rfl⟩, hown2, hg2⟩
      go_wp2_with fail
      go_ret
      rw [hR.out] at hown2
      have hln : (vI p o n).length = L.length := by rw [← hR.out]; simp
      rw [hln]
      exact ⟨Ao, co, rfl, own_weak hown2 (by simp), gr_trans hg0 (gr_own hgx (own_weak hown (Nat.le_refl _)) hg2)⟩
    | succ j =>
      have hx0 : (((j + 1 : Nat) : Int) - 1) = (j : Int) := by omega
      rw [hx0]
      have hjl : j < p.ms.length := by omega
      have hpl : j < p.ps.length := by rw [hllh.out]; exact hjl
      have hg1 := World.grownBy_alloc wr (.cells #[.int .i64 (j : Int)] 3) none
      have hownA := own_keep hown hg1
      have hsz := hgx.size
      have hbase : (w.alloc (.cells #[.slice A p.ms.length cA, .slice B p.ms.length cB] 30)).heap.size ≤ (wr.alloc (.cells #[.int .i64 (j : Int)] 3)).heap.size := Nat.le_trans hgx.size (by rw [World.size_alloc wr]; omega)
      have hsl := sl_one wr 3 (.int .i64 (j : Int))
      obtain ⟨g, o1, rfl, _, _⟩ := hA (by omega)
      obtain ⟨g2, o2, rfl, _, _⟩ := hB (by omega)
      obtain ⟨c, r, hcr⟩ := isMove_cons' (Pl.ok_mv hph.out hjl).1
      have hmo : mOpp (p.mv j) = byOpp c r := by rw [hcr]; rfl
      obtain ⟨hn1, hn2⟩ := ok_nx hph.out hjl o
      have hle := p.nx_le o j
      have hrl : r.length ≤ 1048576 := by
        have h := hml.out _ (List.getElem_mem hjl)
        rw [← mv_lt hjl, hcr] at h
        simp at h
        omega
      have hstep := Lib.hid (show vI p o n = vI p o (p.nx o j) ++ (L ++ [(j : Int)]).reverse by
        rw [hvh.out]; unfold vI; rw [Pl.view_succ]; simp)
      have hcl := Lib.hid (fun (W : World) (hW : (w.alloc (.cells #[.slice (some ⟨g, o1, none⟩) p.ms.length cA, .slice (some ⟨g2, o2, none⟩) p.ms.length cB] 30)).grownBy W none) => show W.cell? ⟨g, o1 + j, none⟩ = some (.string ⟨(c :: r).toArray⟩) by
        have h := (hA.grown0 hW).at_ hjl
        rw [sv_lt p.ms hjl, ← mv_lt hjl, hcr] at h
        exact h)
      have hcl2 := Lib.hid (fun (W : World) (hW : (w.alloc (.cells #[.slice (some ⟨g, o1, none⟩) p.ms.length cA, .slice (some ⟨g2, o2, none⟩) p.ms.length cB] 30)).grownBy W none) => show W.cell? ⟨g2, o2 + j, none⟩ = some (.int .i64 (p.pt j)) by
        have h := (hB.grown0 hW).at_ hjl
        rw [iv_lt p.ps hpl, ← pt_lt hpl] at h
        exact h)
      have hbk := Lib.hid (fun (W : World) (hW : (w.alloc (.cells #[.slice (some ⟨g, o1, none⟩) p.ms.length cA, .slice (some ⟨g2, o2, none⟩) p.ms.length cB] 30)).grownBy W none) => show W.cell? ⟨w.heap.size, 0, none⟩ = some (.slice (some ⟨g, o1, none⟩) p.ms.length cA) ∧ W.cell? ⟨w.heap.size, 1, none⟩ = some (.slice (some ⟨g2, o2, none⟩) p.ms.length cB) from
        ⟨(hbx.grown0 hW).cell 0, (hbx.grown0 hW).cell 1⟩)
      have hmoh := Lib.hid hmo
      have hn1h := Lib.hid hn1
      have hn2h := Lib.hid hn2
      have hB2 := Lib.hid (fun W => byOpponent_any c r W (by omega))
      clear hx0 hcr hmo hn1 hn2 hbw
      generalize p.nx o j = m' at *
      generalize p.pt j = x at *
      by_cases hw : byOpp c r = o
      · have hm' := hn1h.out (by rw [hmoh.out]; exact hw)
        subst hm'
        have hB3 := hB2.out
        rw [hw] at hB3
        have hB4 := Lib.hid hB3
        clear hw hB3 hB2
        go_wp2_with (at_builtin; refine wpList_app rfl _ _ 23 rfl (w.alloc (.cells #[.slice (some ⟨g, o1, none⟩) p.ms.length cA, .slice (some ⟨g2, o2, none⟩) p.ms.length cB] 30)).heap.size 3 (.int .i64 0) 8 Tryd.underlying23 info_int rfl _ _ _ _ rfl hownA _ 1 1 _ rfl _ hsl (fun _ _ => rfl) (by unfold maxLen; omega) (by omega) hbase ?_; intro A' cap w3 hown3 hg3 hat3; have hgx3 := gr_own (gr_trans hgx hg1) hownA hg3; obtain ⟨d0, d1⟩ := hbk.out w3 hgx3; have c1 := hcl.out w3 hgx3)
        refine (hB4.out w3).mono ?_
        rintro e w' ⟨rfl, rfl⟩
        go_wp2_with fail
        go_roundw
        case rel =>
          refine ⟨m', L ++ [(m' : Int)], by omega, by go_num, by rw [List.length_append, List.length_singleton]; omega, hstep.out, ?_, hgx3⟩
          rw [List.length_append, List.map_append]
          exact hown3
        case measure => simp [intOf]
      · have hw2 : byOpp c r = !o := by cases hq : byOpp c r <;> cases o <;> simp_all
        have hm' := hn2h.out (by rw [hmoh.out]; exact hw)
        have hB3 := hB2.out
        rw [hw2] at hB3
        have hB4 := Lib.hid hB3
        have hmh := Lib.hid hm'
        clear hw hw2 hB3 hB2 hm'
        go_wp2_with (at_builtin; refine wpList_app rfl _ _ 23 rfl (w.alloc (.cells #[.slice (some ⟨g, o1, none⟩) p.ms.length cA, .slice (some ⟨g2, o2, none⟩) p.ms.length cB] 30)).heap.size 3 (.int .i64 0) 8 Tryd.underlying23 info_int rfl _ _ _ _ rfl hownA _ 1 1 _ rfl _ hsl (fun _ _ => rfl) (by unfold maxLen; omega) (by omega) hbase ?_; intro A' cap w3 hown3 hg3 hat3; have hgx3 := gr_own (gr_trans hgx hg1) hownA hg3; obtain ⟨d0, d1⟩ := hbk.out w3 hgx3; have c1 := hcl.out w3 hgx3; have c2 := hcl2.out w3 hgx3)
        refine (hB4.out w3).mono ?_
        rintro e w' ⟨rfl, rfl⟩
        go_wp2_with fail
        go_roundw
        case rel =>
          refine ⟨m', L ++ [(j : Int)], by omega, congrArg (Value.int .i64) (by have := hmh.out; omega), by rw [List.length_append, List.length_singleton]; omega, hstep.out, ?_, hgx3⟩
          rw [List.length_append, List.map_append]
          exact hown3
        case measure => have := hmh.out; simp [intOf]; omega
end Go.Proofs.YtegidbdgneecmaaDoor
