/- PLAIN: how many bodies have so many nodes, with types at hand. -/
import Derived.Test.YtlehnlfgjadleaaTy
namespace Go.Proofs.Ytlehnlfgjadleaa

def sumTo (f : Nat → Nat) : Nat → Nat
  | 0 => 0
  | n + 1 => sumTo f n + f n
theorem sumTo_congr {f g : Nat → Nat} : ∀ {n : Nat}, (∀ i, i < n → f i = g i) → sumTo f n = sumTo g n
  | 0, _ => rfl
  | n + 1, h => by simp only [sumTo]; rw [sumTo_congr (n := n) fun i hi => h i (by omega), h n (by omega)]
theorem sumTo_le {f g : Nat → Nat} : ∀ {n : Nat}, (∀ i, i < n → f i ≤ g i) → sumTo f n ≤ sumTo g n
  | 0, _ => Nat.le_refl _
  | n + 1, h => by
    simp only [sumTo]
    have := sumTo_le (n := n) (f := f) (g := g) fun i hi => h i (by omega)
    have := h n (by omega)
    omega
theorem sumTo_more {f : Nat → Nat} {n : Nat} : ∀ {m : Nat}, n ≤ m → (∀ i, n ≤ i → i < m → f i = 0) → sumTo f m = sumTo f n
  | 0, h, _ => by obtain rfl : n = 0 := by omega
                  rfl
  | m + 1, h, hz => by
    by_cases hn : n = m + 1
    · rw [hn]
    · simp only [sumTo]
      rw [sumTo_more (m := m) (by omega) fun i h1 h2 => hz i h1 (by omega), hz m (by omega) (by omega), Nat.add_zero]
theorem sumTo_sub {f : Nat → Nat} {n : Nat} : ∀ {m : Nat}, n ≤ m → sumTo f n ≤ sumTo f m
  | 0, h => by obtain rfl : n = 0 := by omega
               exact Nat.le_refl _
  | m + 1, h => by
    by_cases hn : n = m + 1
    · rw [hn]; exact Nat.le_refl _
    · have := sumTo_sub (f := f) (n := n) (m := m) (by omega)
      simp only [sumTo]
      omega

def term (a b : Nat → Nat) (s i : Nat) : Nat := if i ≤ s then a i * b (s - i) else 0
/-- What the first I of one row bring to the product with another one. -/
def part (a b : Nat → Nat) (I s : Nat) : Nat := sumTo (term a b s) I
def conv (a b : Nat → Nat) (s : Nat) : Nat := part a b (s + 1) s
theorem part_conv {a b : Nat → Nat} {I s : Nat} (h : s < I) : part a b I s = conv a b s :=
  sumTo_more (by omega) fun i h1 _ => by unfold term; rw [if_neg (by omega)]
theorem part_le (a b : Nat → Nat) (I s : Nat) : part a b I s ≤ conv a b s := by
  by_cases h : s < I
  · rw [part_conv h]; exact Nat.le_refl _
  · exact sumTo_sub (by omega)
theorem part_zero (a b : Nat → Nat) (s : Nat) : part a b 0 s = 0 := rfl
theorem part_succ (a b : Nat → Nat) (I s : Nat) : part a b (I + 1) s = part a b I s + term a b s I := rfl
/-- .. and the first J of the other one with the I-th. -/
def stp (a b : Nat → Nat) (I J s : Nat) : Nat := part a b I s + if I ≤ s ∧ s < I + J then a I * b (s - I) else 0
theorem stp_zero (a b : Nat → Nat) (I s : Nat) : stp a b I 0 s = part a b I s := by unfold stp; rw [if_neg (by omega), Nat.add_zero]
theorem stp_next (a b : Nat → Nat) (I J s : Nat) : stp a b I (J + 1) s = if s = I + J then stp a b I J s + a I * b J else stp a b I J s := by
  unfold stp
  by_cases h : s = I + J
  · subst h
    rw [if_pos rfl, if_pos (by omega), if_neg (by omega), Nat.add_zero, Nat.add_sub_cancel_left]
  · rw [if_neg h]
    by_cases h2 : I ≤ s ∧ s < I + J
    · rw [if_pos h2, if_pos (by omega)]
    · rw [if_neg h2, if_neg (by omega)]
theorem stp_done {a b : Nat → Nat} {I J s : Nat} (h : ∀ j, J ≤ j → I + j ≤ s → b j = 0) : stp a b I J s = part a b (I + 1) s := by
  rw [part_succ]
  unfold stp term
  by_cases h1 : I ≤ s
  · rw [if_pos h1]
    by_cases h2 : s < I + J
    · rw [if_pos ⟨h1, h2⟩]
    · rw [if_neg (by omega), h (s - I) (by omega) (by omega), Nat.mul_zero]
  · rw [if_neg h1, if_neg (by omega)]
theorem stp_le (a b : Nat → Nat) (I J s : Nat) : stp a b I J s ≤ conv a b s := by
  refine Nat.le_trans ?_ (part_le a b (I + 1) s)
  rw [part_succ]
  unfold stp term
  by_cases h1 : I ≤ s
  · rw [if_pos h1]
    by_cases h2 : s < I + J
    · rw [if_pos ⟨h1, h2⟩]; exact Nat.le_refl _
    · rw [if_neg (by omega)]; omega
  · rw [if_neg h1, if_neg (by omega)]; exact Nat.le_refl _
/-- One product is at most the whole. -/
theorem mul_le_conv (a b : Nat → Nat) (I J : Nat) : a I * b J ≤ conv a b (I + J) := by
  have h := stp_le a b I (J + 1) (I + J)
  rw [stp_next, if_pos rfl] at h
  omega
theorem conv_congr {a a' b b' : Nat → Nat} {s : Nat} (h1 : ∀ i, i ≤ s → a i = a' i) (h2 : ∀ i, i ≤ s → b i = b' i) : conv a b s = conv a' b' s :=
  sumTo_congr fun i hi => by unfold term; rw [if_pos (by omega), if_pos (by omega), h1 i (by omega), h2 (s - i) (by omega)]
theorem conv_mono {a a' b b' : Nat → Nat} {s : Nat} (h1 : ∀ i, i ≤ s → a i ≤ a' i) (h2 : ∀ i, i ≤ s → b i ≤ b' i) : conv a b s ≤ conv a' b' s :=
  sumTo_le fun i hi => by unfold term; rw [if_pos (by omega), if_pos (by omega)]; exact Nat.mul_le_mul (h1 i (by omega)) (h2 (s - i) (by omega))

/-- The empty list alone. -/
def one0 (s : Nat) : Nat := if s = 0 then 1 else 0
/-- How many lists of parts there are, by all their nodes. -/
def wy (cs : List (Nat → Nat)) : Nat → Nat := cs.foldl conv one0
theorem wy_snoc (cs : List (Nat → Nat)) (b : Nat → Nat) : wy (cs ++ [b]) = conv (wy cs) b := by simp [wy]
theorem fold_congr {α : Type} (F G : α → Nat → Nat) : ∀ (L : List α) (acc acc' : Nat → Nat) (s : Nat), (∀ i, i ≤ s → acc i = acc' i) → (∀ p ∈ L, ∀ j, j ≤ s → F p j = G p j) → (L.map F).foldl conv acc s = (L.map G).foldl conv acc' s
  | [], _, _, s, h, _ => h s (Nat.le_refl _)
  | p :: L, acc, acc', s, h, hF => fold_congr F G L _ _ s (fun i hi => conv_congr (fun j hj => h j (by omega)) (fun j hj => hF p (by simp) j (by omega))) (fun q hq => hF q (by simp [hq]))
theorem wy_congr {α : Type} {F G : α → Nat → Nat} {L : List α} {s : Nat} (h : ∀ p ∈ L, ∀ j, j ≤ s → F p j = G p j) : wy (L.map F) s = wy (L.map G) s :=
  fold_congr F G L _ _ s (fun _ _ => rfl) h
/-- A row cut behind M. -/
def bt (M : Nat) (b : Nat → Nat) (j : Nat) : Nat := if j ≤ M then b j else 0
theorem conv_cut {acc acc' b : Nat → Nat} {M k i : Nat} (h0 : b 0 = 0) (hz : ∀ i, i < k → acc' i = 0) (he : ∀ i, i < M + k → acc i = acc' i) (hi : i < M + (k + 1)) : conv acc (bt M b) i = conv acc' b i :=
  sumTo_congr fun i' hi' => by
    unfold term
    rw [if_pos (by omega), if_pos (by omega)]
    unfold bt
    by_cases h1 : i - i' ≤ M
    · rw [if_pos h1]
      by_cases h2 : i - i' = 0
      · rw [h2, h0, Nat.mul_zero, Nat.mul_zero]
      · rw [he i' (by omega)]
    · rw [if_neg h1, hz i' (by omega), Nat.mul_zero, Nat.zero_mul]
theorem conv_low {acc b : Nat → Nat} {k i : Nat} (h0 : b 0 = 0) (hz : ∀ i, i < k → acc i = 0) (hi : i < k + 1) : conv acc b i = 0 := by
  have h : conv acc b i = sumTo (fun _ => 0) (i + 1) := sumTo_congr fun i' hi' => by
    unfold term
    rw [if_pos (by omega)]
    by_cases h2 : i' = i
    · rw [h2, Nat.sub_self, h0, Nat.mul_zero]
    · rw [hz i' (by omega), Nat.zero_mul]
  rw [h]
  exact sumTo_more (f := fun _ => 0) (Nat.zero_le _) fun _ _ _ => rfl
theorem fold_cut {α : Type} (F : α → Nat → Nat) (M : Nat) : ∀ (L : List α) (acc acc' : Nat → Nat) (k s : Nat), (∀ p ∈ L, F p 0 = 0) → (∀ i, i < k → acc' i = 0) → (∀ i, i < M + k → acc i = acc' i) → s < M + k + L.length →
    (L.map fun p => bt M (F p)).foldl conv acc s = (L.map F).foldl conv acc' s
  | [], _, _, _, s, _, _, he, hs => he s (by simpa using hs)
  | p :: L, acc, acc', k, s, h0, hz, he, hs => fold_cut F M L _ _ (k + 1) s (fun q hq => h0 q (by simp [hq])) (fun i hi => conv_low (h0 p (by simp)) hz hi) (fun i hi => conv_cut (h0 p (by simp)) hz he hi) (by simp only [List.length_cons] at hs; omega)
/-- A cut that is far enough behind changes nothing. -/
theorem wy_cut {α : Type} {F : α → Nat → Nat} {M : Nat} {L : List α} {s : Nat} (h0 : ∀ p ∈ L, F p 0 = 0) (hs : s < M + L.length) : wy (L.map fun p => bt M (F p)) s = wy (L.map F) s :=
  fold_cut F M L _ _ 0 s h0 (fun i hi => by omega) (fun _ _ => rfl) (by omega)

/-- The types at hand in the parts of a list that asks a level of a type. -/
def parts6 (hand : List Ty) (k : Ty) : List (List Ty) := k.args.map (fun a => hand ++ a.args) ++ [hand, hand]
theorem parts6_len (hand : List Ty) (k : Ty) : (parts6 hand k).length = k.args.length + 2 := by simp [parts6]
/-- How many bodies of n nodes there are (with fuel). -/
def cnt : Nat → List Ty → Nat → Nat
  | 0, _, n => if n = 1 then 3 else 0
  | f + 1, hand, n => if n = 1 then 3 else if n = 0 then 0 else (hand.map fun k => wy ((parts6 hand k).map (cnt f)) (n - 1)).sum
def C (hand : List Ty) (n : Nat) : Nat := cnt n hand n
theorem cnt_same : ∀ (f f' : Nat) (hand : List Ty) (n : Nat), n ≤ f → n ≤ f' → cnt f hand n = cnt f' hand n
  | 0, f', hand, n, h, _ => by
    obtain rfl : n = 0 := by omega
    cases f' <;> simp [cnt]
  | f + 1, 0, hand, n, _, h => by
    obtain rfl : n = 0 := by omega
    simp [cnt]
  | f + 1, f' + 1, hand, n, h, h' => by
    unfold cnt
    by_cases h1 : n = 1
    · rw [if_pos h1, if_pos h1]
    · rw [if_neg h1, if_neg h1]
      by_cases h0 : n = 0
      · rw [if_pos h0, if_pos h0]
      · rw [if_neg h0, if_neg h0]
        congr 1
        refine List.map_congr_left fun k _ => ?_
        exact wy_congr fun p _ j hj => cnt_same f f' p j (by omega) (by omega)
theorem C_zero (hand : List Ty) : C hand 0 = 0 := by simp [C, cnt]
theorem C_one (hand : List Ty) : C hand 1 = 3 := by simp [C, cnt]
theorem C_two {hand : List Ty} {n : Nat} (h : 2 ≤ n) : C hand n = (hand.map fun k => wy ((parts6 hand k).map C) (n - 1)).sum := by
  cases n with
  | zero => omega
  | succ n =>
    unfold C
    rw [cnt, if_neg (by omega), if_neg (by omega)]
    congr 1
    refine List.map_congr_left fun k _ => ?_
    exact wy_congr fun p _ j hj => cnt_same _ _ p j (by omega) (by omega)
/-- The lists of parts behind a level, cut where no part can be so large. -/
def lev (hand : List Ty) (M : Nat) (k : Ty) : Nat → Nat := wy ((parts6 hand k).map fun p => bt M (C p))
theorem lev_eq {hand : List Ty} {M : Nat} {k : Ty} {s : Nat} (h : s < M + (k.args.length + 2)) : lev hand M k s = wy ((parts6 hand k).map C) s :=
  wy_cut (fun p _ => C_zero p) (by rw [parts6_len]; exact h)
/-- Too few nodes for the parts. -/
theorem lev_few {hand : List Ty} {k : Ty} {s : Nat} (h : s < k.args.length + 2) : wy ((parts6 hand k).map C) s = 0 := by
  have key : ∀ (L : List (List Ty)) (acc : Nat → Nat) (n s : Nat), (∀ i, i < n → acc i = 0) → s < n + L.length → (L.map C).foldl conv acc s = 0 := by
    intro L
    induction L with
    | nil => intro acc n s hz hs; exact hz s (by simpa using hs)
    | cons p L ih => intro acc n s hz hs; exact ih _ (n + 1) s (fun i hi => conv_low (C_zero p) hz hi) (by simp only [List.length_cons] at hs; omega)
  exact key _ _ 0 s (fun i hi => by omega) (by rw [parts6_len]; omega)
/-- The first levels' lists. -/
def levs (hand : List Ty) (n v : Nat) : Nat := ((hand.take v).map fun k => wy ((parts6 hand k).map C) n).sum
theorem levs_zero (hand : List Ty) (n : Nat) : levs hand n 0 = 0 := rfl
theorem levs_next {hand : List Ty} {n v : Nat} {k : Ty} (h : hand[v]? = some k) : levs hand n (v + 1) = levs hand n v + wy ((parts6 hand k).map C) n := by
  obtain ⟨hv, rfl⟩ := List.getElem?_eq_some_iff.1 h
  unfold levs
  rw [List.take_succ_eq_append_getElem hv, List.map_append, List.sum_append, List.map_cons, List.map_nil, List.sum_cons, List.sum_nil, Nat.add_zero]
theorem levs_all {hand : List Ty} {n : Nat} (h : 2 ≤ n) : levs hand (n - 1) hand.length = C hand n := by
  unfold levs
  rw [List.take_length, C_two h]
theorem sum_take_le (L : List Nat) (v : Nat) : (L.take v).sum ≤ L.sum := by
  have := congrArg List.sum (List.take_append_drop v L)
  rw [List.sum_append] at this
  omega
theorem levs_le {hand : List Ty} {n : Nat} (h : 2 ≤ n) (v : Nat) : levs hand (n - 1) v ≤ C hand n := by
  rw [C_two h]
  unfold levs
  rw [List.map_take]
  exact sum_take_le _ v

/-- What no count exceeds, for at most 8 nodes. -/
def tb (n : Nat) : Nat := [0, 3, 0, 315, 945, 66150, 297675, 17364375, 93767625].getD n 0
def tbs (m s : Nat) : Nat := ([[1, 0, 0, 0, 0, 0, 0, 0], [0, 3, 0, 315, 945, 66150, 297675, 17364375], [0, 0, 9, 0, 1890, 5670, 496125, 2381400], [0, 0, 0, 27, 0, 8505, 25515, 2679075], [0, 0, 0, 0, 81, 0, 34020, 102060], [0, 0, 0, 0, 0, 243, 0, 127575], [0, 0, 0, 0, 0, 0, 729, 0], [0, 0, 0, 0, 0, 0, 0, 2187], [0, 0, 0, 0, 0, 0, 0, 0], [0, 0, 0, 0, 0, 0, 0, 0]].getD m []).getD s 0
theorem tbs_step : ∀ m, m < 9 → ∀ s, s < 8 → conv (tbs m) tb s ≤ tbs (m + 1) s := by decide +kernel
theorem tbs_tb : ∀ m, m < 10 → ∀ n, n < 9 → 2 ≤ n → 2 ≤ m → 35 * tbs m (n - 1) ≤ tb n := by decide +kernel
theorem tbs_small : ∀ m, m < 10 → ∀ s, s < 8 → tbs m s ≤ 100000000 := by decide +kernel
theorem tb_small : ∀ n, n < 9 → tb n ≤ 200000000 := by decide +kernel
theorem fold_tbs : ∀ (L : List (Nat → Nat)) (acc : Nat → Nat) (k : Nat), k + L.length ≤ 9 → (∀ i, i < 8 → acc i ≤ tbs k i) → (∀ b ∈ L, ∀ j, j < 8 → b j ≤ tb j) → ∀ s, s < 8 → L.foldl conv acc s ≤ tbs (k + L.length) s
  | [], _, _, _, h, _, s, hs => h s hs
  | b :: L, acc, k, hk, h, hb, s, hs => by
    simp only [List.length_cons] at hk ⊢
    have := fold_tbs L (conv acc b) (k + 1) (by omega) (fun i hi => Nat.le_trans (conv_mono (fun j hj => h j (by omega)) (fun j hj => hb b (by simp) j (by omega))) (tbs_step k (by omega) i hi)) (fun c hc => hb c (by simp [hc])) s hs
    rw [show k + (L.length + 1) = k + 1 + L.length by omega]
    exact this
theorem wy_tbs {L : List (Nat → Nat)} {s : Nat} (hL : L.length ≤ 9) (hb : ∀ b ∈ L, ∀ j, j < 8 → b j ≤ tb j) (hs : s < 8) : wy L s ≤ tbs L.length s := by
  have := fold_tbs L one0 0 (by omega) (by intro i hi; have : ∀ i, i < 8 → one0 i ≤ tbs 0 i := by decide
                                           exact this i hi) hb s hs
  simpa [wy] using this
/-- A hand of small types. -/
def HandS (hand : List Ty) : Prop := ∀ t ∈ hand, t.atoms ≤ 15
theorem HandS.parts {hand : List Ty} {k : Ty} (h : HandS hand) (hk : k.atoms ≤ 15) {p : List Ty} (hp : p ∈ parts6 hand k) : HandS p ∧ p.length ≤ hand.length + 7 := by
  unfold parts6 at hp
  simp only [List.mem_append, List.mem_map, List.mem_cons, List.not_mem_nil, or_false] at hp
  rcases hp with ⟨a, ha, rfl⟩ | rfl | rfl
  · have h1 := Ty.atoms_of_args ha
    have h2 := a.length_args
    refine ⟨fun t ht => ?_, by rw [List.length_append]; omega⟩
    rcases List.mem_append.1 ht with ht | ht
    · exact h t ht
    · have := Ty.atoms_of_args ht; omega
  · exact ⟨h, by omega⟩
  · exact ⟨h, by omega⟩
theorem bt_le {M : Nat} {b : Nat → Nat} {j x : Nat} (h : j ≤ M → b j ≤ x) : bt M b j ≤ x := by
  unfold bt
  by_cases h1 : j ≤ M
  · rw [if_pos h1]; exact h h1
  · rw [if_neg h1]; exact Nat.zero_le _
theorem sum_le_mul {L : List Nat} {x : Nat} (h : ∀ y ∈ L, y ≤ x) : L.sum ≤ L.length * x := by
  induction L with
  | nil => simp
  | cons y r ih =>
    have h1 := h y (by simp)
    have h2 := ih fun z hz => h z (by simp [hz])
    simp only [List.sum_cons, List.length_cons, Nat.add_mul]
    omega
theorem C_le : ∀ (N n : Nat) (hand : List Ty), n ≤ N → n ≤ 8 → HandS hand → 2 * hand.length + 7 * n ≤ 70 → C hand n ≤ tb n
  | N, 0, hand, _, _, _, _ => by rw [C_zero]; exact Nat.zero_le _
  | N, 1, hand, _, _, _, _ => by rw [C_one]; decide
  | 0, n + 2, hand, h, _, _, _ => by omega
  | N + 1, n + 2, hand, hN, h8, hS, hl => by
    rw [C_two (by omega)]
    have h1 : ∀ k ∈ hand, wy ((parts6 hand k).map C) (n + 2 - 1) * 35 ≤ tb (n + 2) := by
      intro k hk
      have hka := hS k hk
      have hla := k.length_args
      by_cases hfew : n + 2 - 1 < k.args.length + 2
      · rw [lev_few hfew, Nat.zero_mul]; exact Nat.zero_le _
      · rw [← lev_eq (M := n + 2 - (k.args.length + 2)) (by omega)]
        unfold lev
        have := wy_tbs (L := (parts6 hand k).map fun p => bt (n + 2 - (k.args.length + 2)) (C p)) (s := n + 2 - 1) (by rw [List.length_map, parts6_len]; omega) (fun b hb j hj => by
          obtain ⟨p, hp, rfl⟩ := List.mem_map.1 hb
          obtain ⟨hp1, hp2⟩ := hS.parts hka hp
          exact bt_le fun hj2 => C_le N j p (by omega) (by omega) hp1 (by omega)) (by omega)
        rw [List.length_map, parts6_len] at this
        have h2 := tbs_tb (k.args.length + 2) (by omega) (n + 2) (by omega) (by omega) (by omega)
        omega
    have h3 : ∀ y ∈ (hand.map fun k => wy ((parts6 hand k).map C) (n + 2 - 1)), y ≤ tb (n + 2) / 35 := by
      intro y hy
      obtain ⟨k, hk, rfl⟩ := List.mem_map.1 hy
      have := h1 k hk
      omega
    have h4 := sum_le_mul h3
    rw [List.length_map] at h4
    have h5 : hand.length * (tb (n + 2) / 35) ≤ 35 * (tb (n + 2) / 35) := Nat.mul_le_mul_right _ (by omega)
    omega
/-- The bounds in the making of a level's lists. -/
theorem part_small {hand : List Ty} {k : Ty} {N : Nat} (hS : HandS hand) (hk : k.atoms ≤ 15) (hN : N ≤ 8) (hl : 2 * hand.length + 7 * N ≤ 70) (hm : k.args.length + 2 ≤ N) :
    (∀ i s, s < 8 → wy (((parts6 hand k).take i).map fun p => bt (N - (k.args.length + 2)) (C p)) s ≤ 100000000) := by
  intro i s hs
  have hlen : (((parts6 hand k).take i).map fun p => bt (N - (k.args.length + 2)) (C p)).length ≤ 9 := by
    have := k.length_args
    rw [List.length_map, List.length_take, parts6_len]
    omega
  refine Nat.le_trans (wy_tbs hlen (fun b hb j hj => ?_) hs) (tbs_small _ (by omega) s hs)
  obtain ⟨p, hp, rfl⟩ := List.mem_map.1 hb
  obtain ⟨hp1, hp2⟩ := hS.parts hk (List.mem_of_mem_take hp)
  exact bt_le fun hj2 => C_le 8 j p (by omega) (by omega) hp1 (by omega)
end Go.Proofs.Ytlehnlfgjadleaa
