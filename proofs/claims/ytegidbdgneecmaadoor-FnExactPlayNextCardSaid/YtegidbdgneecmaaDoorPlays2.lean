/- PLAIN: what is in a view; the play of a view. -/
import Derived.Test.YtegidbdgneecmaaDoorPlays
namespace Go.Proofs.YtegidbdgneecmaaDoor
namespace Pl

theorem view_last {p : Pl} {o : Bool} {i : Nat} (h : 0 < (p.view o (i + 1)).length) : (p.view o (i + 1))[(p.view o (i + 1)).length - 1] = i := by
  have e := view_succ p o i
  have : ∀ (l : List Nat) (hl : 0 < l.length), l = p.view o (p.nx o i) ++ [i] → l[l.length - 1] = i := by
    intro l hl hh
    subst hh
    simp
  exact this _ h e
theorem view_pos {p : Pl} {o : Bool} {n : Nat} (h : 0 < n) : 0 < (p.view o n).length := by
  obtain ⟨i, rfl⟩ : ∃ i, n = i + 1 := ⟨n - 1, by omega⟩
  rw [view_succ]; simp

/-- What stands ahead in a view is a view. -/
theorem view_take {p : Pl} {o : Bool} {n : Nat} : ∀ (j : Nat) (hj : j < (p.view o n).length), (p.view o n).take j = p.view o (p.nx o ((p.view o n)[j])) := by
  induction n using Nat.strongRecOn with
  | _ n ih =>
    cases n with
    | zero => intro j hj; simp [view_zero] at hj
    | succ i =>
      have hn := p.nx_le o i
      have ih := ih (p.nx o i) (by omega)
      have e := view_succ p o i
      intro j hj
      have : ∀ (l : List Nat) (hl : j < l.length), l = p.view o (p.nx o i) ++ [i] → l.take j = p.view o (p.nx o l[j]) := by
        intro l hl hh
        subst hh
        by_cases h : j < (p.view o (p.nx o i)).length
        · rw [List.getElem_append_left h, List.take_append_of_le_length (by omega)]
          exact ih j h
        · have hj' : j = (p.view o (p.nx o i)).length := by simp at hl; omega
          subst hj'
          simp
      exact this _ hj e

/-- What stands one ahead. -/
theorem view_prev {p : Pl} {o : Bool} {n j : Nat} (h0 : 0 < j) (hj : j < (p.view o n).length) : (p.view o n)[j - 1] + 1 = p.nx o ((p.view o n)[j]) := by
  have h := view_take j hj
  generalize (p.view o n)[j] = x at h
  have hl : ((p.view o n).take j).length = j := by simp; omega
  have hx : 0 < p.nx o x := by
    rcases Nat.eq_zero_or_pos (p.nx o x) with h1 | h1
    · rw [h1, view_zero] at h
      rw [h] at hl
      simp at hl
      omega
    · exact h1
  obtain ⟨i, hi⟩ : ∃ i, p.nx o x = i + 1 := ⟨p.nx o x - 1, by omega⟩
  rw [hi] at h ⊢
  have h2 := view_last (p := p) (o := o) (i := i) (view_pos (by omega))
  have h3 : ((p.view o n).take j)[j - 1]'(by omega) = (p.view o n)[j - 1] := by simp
  rw [← h3]
  have : ∀ (l : List Nat) (hl : j - 1 < l.length), l = p.view o (i + 1) → l.length = j → l[j - 1] = i := by
    intro l hl e e2
    subst e
    have h4 : ∀ (k : Nat) (hk : k < (p.view o (i + 1)).length), k = (p.view o (i + 1)).length - 1 → (p.view o (i + 1))[k] = i := by
      intro k hk e
      subst e
      exact h2
    exact h4 _ hl (by omega)
  rw [this _ (by omega) h hl]

theorem view_getlt {p : Pl} {o : Bool} {n j : Nat} (hj : j < (p.view o n).length) : (p.view o n)[j] < n := view_lt _ (List.getElem_mem hj)

/-- In a play: behind the other one's move stands what it points to. -/
theorem view_other {t : Ty} {p : Pl} (hp : p.ok t = true) {o : Bool} {n j : Nat} (hn : n ≤ p.ms.length) (h0 : 0 < j) (hj : j < (p.view o n).length) (hm : mOpp (p.mv ((p.view o n)[j])) ≠ o) :
    p.pt ((p.view o n)[j]) = ((p.view o n)[j - 1] : Int) := by
  have h1 := view_prev h0 hj
  have h2 := view_getlt hj
  generalize (p.view o n)[j] = x at *
  generalize (p.view o n)[j - 1] = y at *
  have h3 : p.nx o x = min x (p.pt x + 1).toNat := by
    unfold nx
    rw [if_neg (by simpa using hm)]
  have h4 : 0 < x := by have := p.nx_le o x; omega
  obtain ⟨k, hk, hkx, _⟩ := ok_prev hp h4 (by omega)
  omega
/-- Behind one's own move stands the move ahead. -/
theorem view_own {p : Pl} {o : Bool} {n j : Nat} (h0 : 0 < j) (hj : j < (p.view o n).length) (hm : mOpp (p.mv ((p.view o n)[j])) = o) : (p.view o n)[j - 1] + 1 = (p.view o n)[j] := by
  have h1 := view_prev h0 hj
  generalize (p.view o n)[j] = x at *
  rw [h1]
  unfold nx
  rw [if_pos (by simpa using hm)]

/-- A view of the player alternates from the initial move on. -/
theorem view_par {t : Ty} {p : Pl} (hp : p.ok t = true) {n : Nat} (hn : n ≤ p.ms.length) : ∀ (j : Nat) (hj : j < (p.view false n).length), ((p.view false n)[j]) % 2 = j % 2 ∧ (j = 0 → (p.view false n)[j] = 0)
  | 0, hj => by
    have h := view_take 0 hj
    have h2 := view_getlt hj
    generalize (p.view false n)[0] = x at *
    have h3 : p.nx false x = 0 := by
      rcases Nat.eq_zero_or_pos (p.nx false x) with h1 | h1
      · exact h1
      · have := view_pos (p := p) (o := false) h1
        rw [← h] at this
        simp at this
    have h4 := (ok_mv hp (by omega : x < p.ms.length)).2
    have h5 : x = 0 := by
      rcases Nat.eq_zero_or_pos x with h6 | h6
      · exact h6
      · obtain ⟨k, hk, _⟩ := ok_prev hp h6 (by omega)
        unfold nx at h3
        split at h3
        · exact h3
        · omega
    subst h5
    exact ⟨rfl, fun _ => rfl⟩
  | j + 1, hj => by
    refine ⟨?_, fun h => by omega⟩
    have ih := (view_par hp hn j (by omega)).1
    have h2 := view_getlt hj
    cases hm : mOpp (p.mv ((p.view false n)[j + 1])) with
    | false =>
      have := view_own (by omega) hj hm
      simp only [Nat.add_sub_cancel] at this
      omega
    | true =>
      have h3 := view_other hp hn (by omega) hj (by rw [hm]; simp)
      simp only [Nat.add_sub_cancel] at h3
      have ih' : ((p.view false n)[j]'(by omega)) % 2 = j % 2 := ih
      have gen : ∀ x y : Nat, x < n → y % 2 = j % 2 → p.pt x = (y : Int) → x % 2 = (j + 1) % 2 := by
        intro x y h2 ih h3
        have h4 : 0 < x := by
          rcases Nat.eq_zero_or_pos x with h6 | h6
          · subst h6
            have := (ok_zero hp (by omega)).2
            omega
          · exact h6
        obtain ⟨k, hk, _, _, _, _, h5⟩ := ok_prev hp h4 (by omega)
        omega
      exact gen _ _ h2 ih' h3

/-- The place of a number in a list of indexes, -1 for none. -/
def idx (V : List Nat) (x : Int) : Int := match V.findIdx? (fun (v : Nat) => (v : Int) == x) with | some i => (i : Int) | none => -1
theorem idx_none {V : List Nat} {x : Int} (h : ∀ v : Nat, v ∈ V → (v : Int) ≠ x) : idx V x = -1 := by
  unfold idx
  rw [List.findIdx?_eq_none_iff.2 (fun v hv => by simpa using h v hv)]
theorem idx_some {V : List Nat} (hs : V.Pairwise (· < ·)) {k : Nat} (hk : k < V.length) : idx V (V[k] : Int) = (k : Int) := by
  have : V.findIdx? (fun (v : Nat) => (v : Int) == (V[k] : Int)) = some k := by
    rw [List.findIdx?_eq_some_iff_getElem]
    refine ⟨hk, by simp, fun j hj => ?_⟩
    have := List.pairwise_iff_getElem.1 hs j k (by omega) hk hj
    simp only [beq_iff_eq, Int.natCast_inj]
    omega
  unfold idx
  rw [this]

/-- The play of some moves. -/
def part (p : Pl) (V : List Nat) : Pl := ⟨V.map p.mv, V.map fun v => idx V (p.pt v)⟩
theorem mv_part {p : Pl} {V : List Nat} {j : Nat} (h : j < V.length) : (p.part V).mv j = p.mv V[j] := by
  show (V.map p.mv).getD j [] = _
  simp [List.getD, h]
theorem pt_part {p : Pl} {V : List Nat} {j : Nat} (h : j < V.length) : (p.part V).pt j = idx V (p.pt V[j]) := by
  show (V.map fun v => idx V (p.pt v)).getD j 0 = _
  simp [List.getD, h]

theorem part_pt0 {t : Ty} {p : Pl} (hp : p.ok t = true) (h : 0 < (p.view false p.ms.length).length) : (p.part (p.view false p.ms.length)).pt 0 = -1 := by
  rw [pt_part h, (view_par hp (Nat.le_refl _) 0 h).2 rfl]
  have h0 := view_getlt h
  rw [(ok_zero hp (by omega)).2]
  exact idx_none fun v _ => by omega

/-- In the play of a view each pointer goes to the place of what it went to. -/
theorem part_pt {t : Ty} {p : Pl} (hp : p.ok t = true) (hv : p.vis = true) {j : Nat} (h0 : 0 < j) (hj : j < (p.view false p.ms.length).length) :
    ∃ (k : Nat) (hk : k < j), (p.part (p.view false p.ms.length)).pt j = (k : Int) ∧ p.pt ((p.view false p.ms.length)[j]) = ((p.view false p.ms.length)[k] : Int) ∧ (j % 2 = 0 → k + 1 = j) := by
  have hlt := view_getlt hj
  have hpar := view_par hp (Nat.le_refl _) j hj
  have hs : (p.view false p.ms.length).Pairwise (· < ·) := view_sorted
  have hmo := (ok_mv hp hlt).2
  rw [pt_part hj]
  rcases Nat.mod_two_eq_zero_or_one j with h2 | h2
  · have hx : ((p.view false p.ms.length)[j] % 2 == 0) = true := by rw [beq_iff_eq]; omega
    have h3 := view_other hp (Nat.le_refl _) h0 hj (by rw [hmo, hx]; simp)
    refine ⟨j - 1, by omega, ?_, h3, fun _ => by omega⟩
    rw [h3]
    exact idx_some hs (by omega)
  · have hx : ((p.view false p.ms.length)[j] % 2 == 0) = false := by rw [beq_eq_false_iff_ne]; omega
    have ht := view_take j hj
    have hx0 : (p.view false p.ms.length)[j] ≠ 0 := by omega
    have hva := vis_iff.1 hv _ hlt
    unfold visAt at hva
    rw [hmo, hx] at hva
    have hnx : p.nx false ((p.view false p.ms.length)[j]) = (p.view false p.ms.length)[j] := by
      unfold nx
      rw [hmo, hx]; rfl
    rw [hnx] at ht
    rw [← ht] at hva
    have hb : ((p.view false p.ms.length)[j] == 0) = false := by rw [beq_eq_false_iff_ne]; exact hx0
    rw [hb, Bool.false_or, List.contains_iff_mem] at hva
    obtain ⟨v, hv1, hv2⟩ := List.mem_map.1 hva
    obtain ⟨k, hk, rfl⟩ := List.mem_iff_getElem.1 hv1
    have hkj : k < j := by simp at hk; omega
    simp only [List.getElem_take] at hv2
    exact ⟨k, hkj, by rw [← hv2]; exact idx_some hs (by omega), hv2.symm, fun h => by omega⟩

theorem part_ok {t : Ty} {p : Pl} (hp : p.ok t = true) (hv : p.vis = true) : (p.part (p.view false p.ms.length)).ok t = true := by
  have h60 := (ok_iff.1 hp).1
  have hl := view_length (p := p) (o := false) (n := p.ms.length)
  rw [ok_iff]
  refine ⟨by simp [part]; omega, by simp [part], fun j hj => ?_⟩
  have hj : j < (p.view false p.ms.length).length := by simpa [part] using hj
  have hlt := view_getlt hj
  have hpar := view_par hp (Nat.le_refl _) j hj
  obtain ⟨m1, m2⟩ := ok_mv hp hlt
  rw [okAt_iff, mv_part hj]
  refine ⟨m1, by rw [m2, hpar.1], fun h => ?_, fun h => ?_⟩
  · subst h
    refine ⟨?_, part_pt0 hp hj⟩
    rw [mv_part hj, hpar.2 rfl]
    exact (ok_zero hp (by omega)).1
  · obtain ⟨k, hk, e1, e2, _⟩ := part_pt hp hv h hj
    rw [e1, Int.toNat_natCast, mv_part (by omega)]
    refine ⟨by omega, by omega, ?_⟩
    have hx0 : 0 < (p.view false p.ms.length)[j] := by
      rcases Nat.eq_zero_or_pos ((p.view false p.ms.length)[j]) with h' | h'
      · rw [h', (ok_zero hp (by omega)).2] at e2
        omega
      · exact h'
    obtain ⟨k', e3, _, e4, _⟩ := ok_prev hp hx0 hlt
    rw [e2] at e3
    rw [← e4]
    congr 1
    omega

/-- The view of the player of the play of a view is all of it. -/
theorem part_view {t : Ty} {p : Pl} (hp : p.ok t = true) (hv : p.vis = true) : ∀ n, n ≤ (p.view false p.ms.length).length → (p.part (p.view false p.ms.length)).view false n = List.range n
  | 0, _ => by simp [view_zero]
  | i + 1, hi => by
    have ih := part_view hp hv i (by omega)
    have hq := part_ok hp hv
    have hm := (ok_mv hq (show i < (p.part (p.view false p.ms.length)).ms.length by simp only [part, List.length_map]; omega)).2
    have e : (p.part (p.view false p.ms.length)).nx false i = i := by
      unfold nx
      rw [hm]
      by_cases h : (i % 2 == 0) = false
      · rw [h]; rfl
      · have h1 : (i % 2 == 0) = true := by simpa using h
        have h2 : i % 2 = 0 := beq_iff_eq.1 h1
        rw [h1, if_neg (by simp)]
        rcases Nat.eq_zero_or_pos i with h3 | h3
        · subst h3; simp
        · obtain ⟨k, hk, e1, _, e2⟩ := part_pt hp hv h3 (show i < _ by omega)
          have := e2 h2
          rw [e1]
          omega
    rw [view_succ, e, ih, List.range_succ]

theorem part_vis {t : Ty} {p : Pl} (hp : p.ok t = true) (hv : p.vis = true) : (p.part (p.view false p.ms.length)).vis = true := by
  rw [vis_iff]
  intro j hj
  have hj : j < (p.view false p.ms.length).length := by simpa [part] using hj
  have hq := part_ok hp hv
  have hm := (ok_mv hq (show j < _ by simpa [part] using hj)).2
  unfold visAt
  rcases Nat.eq_zero_or_pos j with h | h
  · subst h; rfl
  · have hb : (j == 0) = false := by rw [beq_eq_false_iff_ne]; omega
    obtain ⟨k, hk, e1, _, e2⟩ := part_pt hp hv h hj
    rw [hb, Bool.false_or, hm, e1, List.contains_iff_mem]
    refine List.mem_map.2 ⟨k, ?_, rfl⟩
    rcases Nat.mod_two_eq_zero_or_one j with h2 | h2
    · have h3 : (j % 2 == 0) = true := beq_iff_eq.2 h2
      rw [h3]
      have h4 := e2 h2
      obtain ⟨i, rfl⟩ : ∃ i, j = i + 1 := ⟨j - 1, by omega⟩
      rw [view_succ]
      simp
      omega
    · have h3 : (j % 2 == 0) = false := by rw [beq_eq_false_iff_ne]; omega
      rw [h3, part_view hp hv j (by omega)]
      simpa using hk

theorem range_sorted (n : Nat) : (List.range n).Pairwise (· < ·) := by
  rw [List.pairwise_iff_getElem]
  intro i j hi hj h
  simpa using h

/-- The play of the view of the play of a view is it. -/
theorem part_part {t : Ty} {p : Pl} (hp : p.ok t = true) (hv : p.vis = true) :
    (p.part (p.view false p.ms.length)).part ((p.part (p.view false p.ms.length)).view false (p.part (p.view false p.ms.length)).ms.length) = p.part (p.view false p.ms.length) := by
  have hq := part_ok hp hv
  have hl : (p.part (p.view false p.ms.length)).ms.length = (p.view false p.ms.length).length := by simp [part]
  rw [hl, part_view hp hv _ (Nat.le_refl _)]
  have hpos := @part_pt0 t p hp
  have hpt : ∀ j, 0 < j → j < (p.view false p.ms.length).length → ∃ k : Nat, k < j ∧ (p.part (p.view false p.ms.length)).pt j = (k : Int) := fun j h0 hj => by
    obtain ⟨k, hk, e, _⟩ := part_pt hp hv h0 hj
    exact ⟨k, hk, e⟩
  clear hv hp
  have hq2 := (ok_iff.1 hq).2.1
  rw [hl] at hq2
  generalize p.view false p.ms.length = V at *
  generalize hr : p.part V = r at *
  obtain ⟨ms, ps⟩ := r
  simp only at hl hq2
  unfold part
  congr 1
  · refine List.ext_getElem (by simp [hl]) fun i h1 h2 => ?_
    simp [mv, List.getD, h2]
  · refine List.ext_getElem (by simp [hq2]) fun i h1 h2 => ?_
    have hi : i < V.length := by simpa using h1
    have e : (Pl.mk ms ps).pt i = ps[i] := by simp [pt, List.getD, h2]
    simp only [List.getElem_map, List.getElem_range]
    rw [e]
    rcases Nat.eq_zero_or_pos i with h | h
    · subst h
      have := hpos hi
      rw [e] at this
      rw [this]
      exact idx_none fun v _ => by omega
    · obtain ⟨k, hk, e1⟩ := hpt i h hi
      rw [e] at e1
      rw [e1]
      have := idx_some (range_sorted V.length) (k := k) (by simp; omega)
      simpa using this
end Pl
end Go.Proofs.YtegidbdgneecmaaDoor
