/- (As Chains, for names and types.) A region with two chains, each: a new empty list, the append of an old list to it, a new list of one, its append. In every order. -/
import Derived.Test.YtiaafacmfflfiaaOwn
import Derived.OrdersHeld
namespace Go.Proofs.Ytiaafacmfflfiaa
open Go.RowKit

theorem own_keep2 {w w' : World} {base : Nat} {e : TypeId} {v : Value} {n : Nat} {xs : List Value} {x : Option Nat} (h : w.ownsRow base e 1 v n xs) (hg : w.grownBy w' x) (hx : ∀ g, v.ownBlock = some g → g < w.heap.size → some g ≠ x) : w'.ownsRow base e 1 v n xs := by
  obtain ⟨hl, ⟨rfl, rfl⟩ | ⟨g, cap, cur, rfl, hb, hr, h1, h2, h3, h4⟩⟩ := h
  · exact ⟨hl, .inl ⟨rfl, rfl⟩⟩
  · have hlt := (Array.getElem?_eq_some_iff.1 hr).1
    exact ⟨hl, .inr ⟨g, cap, cur, rfl, hb, (hg.block g hlt (hx g rfl hlt)).trans hr, h1, h2, h3, h4⟩⟩
theorem own_setlt {w : World} {base : Nat} {e : TypeId} {v : Value} {n : Nat} {xs : List Value} (h : w.ownsRow base e 1 v n xs) {a : Addr} (hg : a.block < base) (u : Value) : (w.setCell a u).ownsRow base e 1 v n xs :=
  own_keep2 h (gr_set (gr_refl w (some a.block)) (.inl rfl) u) (fun g hg' _ he => by
    have h1 := own_base h hg'
    cases he
    omega)
theorem own_ty {w : World} {base : Nat} {e : TypeId} {v : Value} {n : Nat} {xs : List Value} (h : w.ownsRow base e 1 v n xs) {g : Nat} (hg : v.ownBlock = some g) : ∃ cur, Blk w g e cur := by
  obtain ⟨_, ⟨rfl, _⟩ | ⟨g', cap', cur, rfl, _, hb, _⟩⟩ := h
  · cases hg
  · cases hg
    exact ⟨cur, hb⟩

theorem eval_put_ne {a : Act} {d s : Tmp} (v : Value) (h : d ≠ s) : (a.put (some d) v).eval (.tmp s) = a.eval (.tmp s) :=
  Act.eval_put fun _ h1 h2 => by injection h1 with h1; injection h2 with h2; exact h (h1.trans h2.symm)
theorem eval_put_eq {a : Act} {d : Tmp} (v : Value) (h : d < a.tmps.size) : (a.put (some d) v).eval (.tmp d) = v := by
  simp [Act.eval, Act.put, h]
theorem size_put {a : Act} {d : Tmp} (v : Value) : (a.put (some d) v).tmps.size = a.tmps.size := by simp [Act.put]
theorem own_lt {w : World} {b : Nat} {e : TypeId} {v : Value} {n : Nat} {xs : List Value} (h : w.ownsRow b e 1 v n xs) {g : Nat} (hg : v.ownBlock = some g) : g < w.heap.size := by
  obtain ⟨c, k⟩ := own_ty h hg
  exact (Array.getElem?_eq_some_iff.1 k).1

/-- One chain. -/
structure Ch (base n : Nat) (e : TypeId) (src mu mv : Value) (vs : Nat → Value) (s0 s1 s2 s3 s4 s5 : Tmp) (b0 b1 b2 b3 : Bool) (a : Act) (w : World) : Prop where
  lt : s0 < a.tmps.size ∧ s1 < a.tmps.size ∧ s2 < a.tmps.size ∧ s3 < a.tmps.size
  hs : a.eval (.tmp s4) = src
  hm : a.eval (.tmp s5) = mu
  hb : base ≤ w.heap.size
  h0 : b0 = true → b1 = false → ∃ A c, a.eval (.tmp s0) = .slice A 0 c ∧ w.ownsRow base e 1 (.slice A 0 c) 0 []
  h1 : b1 = true → b3 = false → ∃ A c, a.eval (.tmp s1) = .slice A n c ∧ w.ownsRow base e 1 (.slice A n c) n ((List.range n).map vs)
  h2 : b2 = true → b3 = false → ∃ g, a.eval (.tmp s2) = .slice (some ⟨g, 0, none⟩) 1 1 ∧ Blk w g e #[mv] ∧ (b0 = true → b1 = false → some g ≠ (a.eval (.tmp s0)).ownBlock) ∧ (b1 = true → some g ≠ (a.eval (.tmp s1)).ownBlock)
  h3 : b3 = true → ∃ A c, a.eval (.tmp s3) = .slice A (n + 1) c ∧ w.ownsRow base e 1 (.slice A (n + 1) c) (n + 1) ((List.range n).map vs ++ [mv])

section
variable {base n : Nat} {e : TypeId} {src mu mv : Value} {vs : Nat → Value} {s0 s1 s2 s3 s4 s5 : Tmp} {b0 b1 b2 b3 : Bool} {a : Act} {w : World}

/-- Another's step. -/
theorem Ch.other (h : Ch base n e src mu mv vs s0 s1 s2 s3 s4 s5 b0 b1 b2 b3 a w) {d : Tmp} (v : Value) (hd : d ≠ s0 ∧ d ≠ s1 ∧ d ≠ s2 ∧ d ≠ s3 ∧ d ≠ s4 ∧ d ≠ s5) {w' : World} {x : Option Nat} (hg : w.grownBy w' x)
    (hx : ∀ g, x = some g → ∃ cs e', e' ≠ e ∧ w.heap[g]? = some (.cells cs e' (0, 0))) : Ch base n e src mu mv vs s0 s1 s2 s3 s4 s5 b0 b1 b2 b3 (a.put (some d) v) w' := by
  obtain ⟨d0, d1, d2, d3, d4, d5⟩ := hd
  have keep : ∀ {m : Nat} {u : Value} {xs : List Value}, w.ownsRow base e 1 u m xs → w'.ownsRow base e 1 u m xs := fun {m u xs} k =>
    own_keep2 k hg fun g hu _ hgx => by
      obtain ⟨cs, e', he, hc⟩ := hx g hgx.symm
      obtain ⟨c2, k2⟩ := own_ty k hu
      unfold Blk at k2
      rw [hc] at k2
      injection k2 with k3
      injection k3 with _ k4 _
      exact he k4
  refine ⟨by simpa [size_put] using h.lt, by rw [eval_put_ne _ d4]; exact h.hs, by rw [eval_put_ne _ d5]; exact h.hm, Nat.le_trans h.hb hg.size, fun e0 e1 => ?_, fun e1 e3 => ?_, fun e2 e3 => ?_, fun e3 => ?_⟩
  · obtain ⟨A, c, k1, k2⟩ := h.h0 e0 e1
    exact ⟨A, c, by rw [eval_put_ne _ d0]; exact k1, keep k2⟩
  · obtain ⟨A, c, k1, k2⟩ := h.h1 e1 e3
    exact ⟨A, c, by rw [eval_put_ne _ d1]; exact k1, keep k2⟩
  · obtain ⟨g, k1, k2, k3, k4⟩ := h.h2 e2 e3
    refine ⟨g, by rw [eval_put_ne _ d2]; exact k1, k2.grown hg (fun hgx => ?_), by rw [eval_put_ne _ d0]; exact k3, by rw [eval_put_ne _ d1]; exact k4⟩
    obtain ⟨cs, e', he, hc⟩ := hx g hgx.symm
    unfold Blk at k2
    rw [hc] at k2
    injection k2 with k3
    injection k3 with _ k4 _
    exact he k4
  · obtain ⟨A, c, k1, k2⟩ := h.h3 e3
    exact ⟨A, c, by rw [eval_put_ne _ d3]; exact k1, keep k2⟩

variable {P : Program} {o : Oper} {K : Act → World → Prop} {Q : Exit → Act → World → Prop} {t : TypeId} {z : Value}

theorem Ch.step0 (h : Ch base n e src mu mv vs s0 s1 s2 s3 s4 s5 false false b2 false a w) (hne : s0 ≠ s2 ∧ s0 ≠ s4 ∧ s0 ≠ s5) (hop : o.op = .buildSlice t 0 #[]) (hd : o.dst = some s0) (ht : P.underlying t = some (.slice e)) (hi : ∃ i, P.info? e = some i)
    (hK : ∀ v w', w.grownBy w' none → Ch base n e src mu mv vs s0 s1 s2 s3 s4 s5 true false b2 false (a.put (some s0) v) w' → K (a.put (some s0) v) w') : o.wp P a w K Q := by
  have hg := World.grownBy_alloc w (.cells #[] e) none
  obtain ⟨i, hi⟩ := hi
  obtain ⟨n2, n4, n5⟩ := hne
  unfold Oper.wp execOp
  simp only [hop]
  go_simp
  simp [run_underlying ht, sizeOf, typeInfo, hi, Oper.upon, hd]
  refine hK _ _ hg ⟨by simpa [size_put] using h.lt, by rw [eval_put_ne _ n4]; exact h.hs, by rw [eval_put_ne _ n5]; exact h.hm, Nat.le_trans h.hb hg.size, fun _ _ => ⟨_, _, eval_put_eq _ h.lt.1, own_empty e h.hb⟩, fun h1 => (by cases h1), fun e2 _ => ?_, fun h1 => (by cases h1)⟩
  obtain ⟨g, k1, k2, _, _⟩ := h.h2 e2 rfl
  refine ⟨g, by rw [eval_put_ne _ n2]; exact k1, k2.grown0 hg, fun _ _ => ?_, fun h1 => (by cases h1)⟩
  rw [eval_put_eq _ h.lt.1]
  intro h1
  have := k2.lt
  simp [Value.ownBlock] at h1
  omega

theorem Ch.step2 (h : Ch base n e src mu mv vs s0 s1 s2 s3 s4 s5 b0 b1 false false a w) (hne : s2 ≠ s0 ∧ s2 ≠ s1 ∧ s2 ≠ s4 ∧ s2 ≠ s5) (hop : o.op = .buildSlice t 1 #[(0, .tmp s5)]) (hd : o.dst = some s2) (ht : P.underlying t = some (.slice e)) (hi : ∃ i, P.info? e = some i ∧ i.zero = some z ∧ i.size = 1)
    (h1c : (z = .string ⟨#[]⟩ ∧ ∃ x, mu = .string x ∧ mv = .string x) ∨ (z = .agg #[.slice none 0 0] ∧ ∃ A n c, mu = .agg #[.slice A n c] ∧ mv = .slice A n c)) 
    (hK : ∀ v w', w.grownBy w' none → Ch base n e src mu mv vs s0 s1 s2 s3 s4 s5 b0 b1 true false (a.put (some s2) v) w' → K (a.put (some s2) v) w') : o.wp P a w K Q := by
  have hg := World.grownBy_alloc w (.cells #[mv] e) none
  obtain ⟨i, hi, hz, h1s⟩ := hi
  obtain ⟨n0, n1, n4, n5⟩ := hne
  have hm : a.tmps[s5]?.getD undef = mu := by simpa [Act.eval] using h.hm
  have hE : ∀ z mv : Value, (Array.map (fun x => [z][x % 1]?.getD default) (Array.range 1)).setIfInBounds 0 mv = #[mv] := fun _ _ => by rw [show Array.range 1 = #[0] from by decide]; simp
  have fin : K (a.put (some s2) (.slice (some ⟨w.heap.size, 0, none⟩) 1 1)) (w.alloc (.cells #[mv] e)) := by
    refine hK _ _ hg ⟨by simpa [size_put] using h.lt, by rw [eval_put_ne _ n4]; exact h.hs, by rw [eval_put_ne _ n5]; exact h.hm, Nat.le_trans h.hb hg.size, fun e0 e1 => ?_, fun e1 e3 => ?_, fun _ _ => ⟨w.heap.size, eval_put_eq _ h.lt.2.2.1, Blk.new w e _, fun e0 e1 => ?_, fun e1 => ?_⟩, fun h1 => (by cases h1)⟩
    · obtain ⟨A, c, k1, k2⟩ := h.h0 e0 e1
      exact ⟨A, c, by rw [eval_put_ne _ n0]; exact k1, own_keep k2 hg⟩
    · obtain ⟨A, c, k1, k2⟩ := h.h1 e1 rfl
      exact ⟨A, c, by rw [eval_put_ne _ n1]; exact k1, own_keep k2 hg⟩
    · obtain ⟨A, c, k1, k2⟩ := h.h0 e0 e1
      rw [eval_put_ne _ n0, k1]
      exact fun h1 => Nat.lt_irrefl _ (own_lt k2 h1.symm)
    · obtain ⟨A, c, k1, k2⟩ := h.h1 e1 rfl
      rw [eval_put_ne _ n1, k1]
      exact fun h1 => Nat.lt_irrefl _ (own_lt k2 h1.symm)
  unfold Oper.wp execOp
  simp only [hop]
  go_simp
  rcases h1c with ⟨rfl, x, rfl, rfl⟩ | ⟨rfl, A, m, c, rfl, rfl⟩ <;>
  · simp [run_underlying ht, sizeOf, typeInfo, zeroValue, hi, hz, h1s, Oper.upon, hd, hE]
    exact fin

theorem Ch.step1 (h : Ch base n e src mu mv vs s0 s1 s2 s3 s4 s5 true false b2 false a w) (hne : s1 ≠ s0 ∧ s1 ≠ s2 ∧ s1 ≠ s4 ∧ s1 ≠ s5) (hop : o.op = .call { callee := .builtin .append, args := #[.tmp s0, .tmp s4], argTypes := #[t, t] }) (hd : o.dst = some s1)
    (ht : P.underlying t = some (.slice e)) {bytes : Nat} (hi : (P.info? e).map (fun i => (i.zero, i.size, i.bytes)) = some (some z, 1, bytes)) (hzs : z.cells.size = 1)
    {A : Option Addr} {c : Nat} (hsrc : src = .slice A n c) {F : Nat → Prop} (hr : Sl w F A n vs) (h1 : ∀ j, j < n → (vs j).oneCell' = true) (h63 : n + 1 ≤ maxLen) (hbytes : (n + 1) * bytes ≤ 140737488355328)
    (hK : ∀ v w' x, w.grownBy w' x → (∀ g, x = some g → base ≤ g ∧ ∃ cs, w.heap[g]? = some (.cells cs e (0, 0))) → Ch base n e src mu mv vs s0 s1 s2 s3 s4 s5 true true b2 false (a.put (some s1) v) w' → K (a.put (some s1) v) w') : o.wp P a w K Q := by
  obtain ⟨n0, n2, n4, n5⟩ := hne
  obtain ⟨A0, c0, k1, k2⟩ := h.h0 rfl rfl
  obtain ⟨i, hi, hz, h1s, hb⟩ := info_parts hi
  obtain ⟨A', cap, w', hrun, j2, j3, j4⟩ := run_app (P := P) w base t o.type e i z bytes ht hi hz h1s hb hzs A0 c0 0 [] k2 A n c vs F hr h1 (by rw [Nat.zero_add]; omega) (by rw [Nat.zero_add]; exact Nat.le_trans (Nat.mul_le_mul_right _ (Nat.le_succ n)) hbytes) h.hb
  rw [Nat.zero_add, List.nil_append] at j2
  rw [Nat.zero_add] at hrun j4
  have hs : a.eval (.tmp s4) = .slice A n c := h.hs.trans hsrc
  unfold Oper.wp execOp
  simp only [hop, resolve, invoke, builtin, Sem.run_bind, Sem.run_pure, Result.andThen_ok, List.map_toArray, List.map_cons, List.map_nil, k1, hs, hrun, Oper.upon, hd]
  refine hK _ _ _ j3 (fun g hg => ⟨own_base k2 hg, own_ty k2 hg⟩) ⟨by simpa [size_put] using h.lt, by rw [eval_put_ne _ n4]; exact h.hs, by rw [eval_put_ne _ n5]; exact h.hm, Nat.le_trans h.hb j3.size, fun _ h1 => (by cases h1), fun _ _ => ⟨_, _, eval_put_eq _ h.lt.2.1, j2⟩, fun e2 _ => ?_, fun h1 => (by cases h1)⟩
  obtain ⟨g, m1, m2, m3, _⟩ := h.h2 e2 rfl
  have m3 := m3 rfl rfl
  rw [k1] at m3
  refine ⟨g, by rw [eval_put_ne _ n2]; exact m1, m2.grown j3 m3, fun _ h1 => (by cases h1), fun _ => ?_⟩
  rw [eval_put_eq _ h.lt.2.1]
  rcases j4 with j4 | j4
  · rw [j4]; exact m3
  · rw [j4]
    intro h1
    injection h1 with h1
    exact Nat.lt_irrefl _ (h1 ▸ m2.lt)

theorem Ch.step3 (h : Ch base n e src mu mv vs s0 s1 s2 s3 s4 s5 true true true false a w) (hne : s3 ≠ s4 ∧ s3 ≠ s5) (hop : o.op = .call { callee := .builtin .append, args := #[.tmp s1, .tmp s2], argTypes := #[t, t] }) (hd : o.dst = some s3)
    (ht : P.underlying t = some (.slice e)) {bytes : Nat} (hi : (P.info? e).map (fun i => (i.zero, i.size, i.bytes)) = some (some z, 1, bytes)) (hzs : z.cells.size = 1)
    (h1m : mv.oneCell' = true) (h63 : n + 1 ≤ maxLen) (hbytes : (n + 1) * bytes ≤ 140737488355328)
    (hK : ∀ v w' x, w.grownBy w' x → (∀ g, x = some g → base ≤ g ∧ ∃ cs, w.heap[g]? = some (.cells cs e (0, 0))) → Ch base n e src mu mv vs s0 s1 s2 s3 s4 s5 true true true true (a.put (some s3) v) w' → K (a.put (some s3) v) w') : o.wp P a w K Q := by
  obtain ⟨n4, n5⟩ := hne
  obtain ⟨A0, c0, k1, k2⟩ := h.h1 rfl rfl
  obtain ⟨g, m1, m2, _, _⟩ := h.h2 rfl rfl
  obtain ⟨i, hi, hz, h1s, hb⟩ := info_parts hi
  have hr : Sl w Al (some ⟨g, 0, none⟩) 1 (fun _ => mv) := fun _ => ⟨g, 0, rfl, trivial, fun j hj => by
    obtain rfl : j = 0 := by omega
    rw [m2.cell]; rfl⟩
  obtain ⟨A', cap, w', hrun, j2, j3, j4⟩ := run_app (P := P) w base t o.type e i z bytes ht hi hz h1s hb hzs A0 c0 n _ k2 _ 1 1 _ _ hr (fun _ _ => h1m) h63 hbytes h.hb
  unfold Oper.wp execOp
  simp only [hop, resolve, invoke, builtin, Sem.run_bind, Sem.run_pure, Result.andThen_ok, List.map_toArray, List.map_cons, List.map_nil, k1, m1, hrun, Oper.upon, hd]
  exact hK _ _ _ j3 (fun g hg => ⟨own_base k2 hg, own_ty k2 hg⟩) ⟨by simpa [size_put] using h.lt, by rw [eval_put_ne _ n4]; exact h.hs, by rw [eval_put_ne _ n5]; exact h.hm, Nat.le_trans h.hb j3.size, fun _ h1 => (by cases h1), fun _ h1 => (by cases h1), fun _ h1 => (by cases h1), fun _ => ⟨_, _, eval_put_eq _ h.lt.2.2.2, j2⟩⟩
end

/-- How far two chains are (ops 0, 3, 5, 6 and 7, 10, 12, 13 of 16; 1, 2, 4, 8, 9, 11 are done). -/
def Ls (b0 b1 b2 b3 c0 c1 c2 c3 : Bool) : Array Bool := #[b0, true, true, b1, true, b2, b3, c0, true, true, c1, true, c2, c3, false, false]
def closed (b0 b1 b2 b3 : Bool) : Bool := (!b1 || b0) && (!b3 || (b1 && b2))
def left (b0 b1 b2 b3 : Bool) : Nat := (if b0 then 0 else 1) + (if b1 then 0 else 1) + (if b2 then 0 else 1) + (if b3 then 0 else 1)

theorem left_zero : ∀ b0 b1 b2 b3, left b0 b1 b2 b3 = 0 → b0 = true ∧ b1 = true ∧ b2 = true ∧ b3 = true := by decide
theorem closed0 : ∀ b1 b2 b3, closed false b1 b2 b3 = true → b1 = false ∧ b3 = false ∧ left true false b2 false + 1 = left false false b2 false ∧ closed true false b2 false = true := by decide
theorem closed1 : ∀ b2 b3, closed true false b2 b3 = true → b3 = false ∧ left true true b2 false + 1 = left true false b2 false ∧ closed true true b2 false = true := by decide
theorem closed2 : ∀ b0 b1 b3, closed b0 b1 false b3 = true → b3 = false ∧ left b0 b1 true false + 1 = left b0 b1 false false ∧ closed b0 b1 true false = true := by decide
theorem closed3 : ∀ b0, closed b0 true true false = true → b0 = true ∧ left true true true true + 1 = left true true true false ∧ closed true true true true = true := by decide

/-- Which may come up. -/
def mayCome (b0 b1 b2 b3 c0 c1 c2 c3 : Bool) (i : Nat) : Prop :=
  (i = 0 ∧ b0 = false) ∨ (i = 3 ∧ b0 = true ∧ b1 = false) ∨ (i = 5 ∧ b2 = false) ∨ (i = 6 ∧ b1 = true ∧ b2 = true ∧ b3 = false) ∨
  (i = 7 ∧ c0 = false) ∨ (i = 10 ∧ c0 = true ∧ c1 = false) ∨ (i = 12 ∧ c2 = false) ∨ (i = 13 ∧ c1 = true ∧ c2 = true ∧ c3 = false) ∨ (i = 14 ∧ b3 = true ∧ c3 = true)
instance {b0 b1 b2 b3 c0 c1 c2 c3 : Bool} {i : Nat} : Decidable (mayCome b0 b1 b2 b3 c0 c1 c2 c3 i) := by unfold mayCome; infer_instance

/-- What an operation of the region is. -/
def Is (ops : Array Oper) (i : Nat) (d : Tmp) (op : Op) : Prop := ∃ o, ops[i]? = some o ∧ o.guard = none ∧ o.op = op ∧ o.dst = some d
theorem wpOp_of {P : Program} {ops : Array Oper} {Q : Exit → Act → World → Prop} {i : Nat} {d : Tmp} {op : Op} {K : Act → World → Prop} {a : Act} {w : World} (h : Is ops i d op)
    (hw : ∀ o : Oper, o.op = op → o.dst = some d → o.wp P a w K Q) : wpOp P ops Q i K a w := by
  obtain ⟨o, h1, h2, h3, h4⟩ := h
  unfold wpOp
  have : Region.wanted o (yielded ops a.tmps) = true := by simp [Region.wanted, h2]
  simp only [h1, this, if_true]
  exact .inl (hw o h3 h4)
theorem gr_x {w0 w w' : World} {x : Option Nat} (h : w0.grownBy w none) (hg : w.grownBy w' x) (hx : ∀ g, x = some g → w0.heap.size ≤ g) : w0.grownBy w' none := by
  cases x with
  | none => exact gr_trans h hg
  | some g => exact gr_trans_new h hg (hx g rfl)
def app (t : TypeId) (s x : Tmp) : Op := .call { callee := .builtin .append, args := #[.tmp s, .tmp x], argTypes := #[t, t] }

section
variable {P : Program} {ops : Array Oper} {Q : Exit → Act → World → Prop} {w0 : World} {n : Nat} {e e' : TypeId} {src src' mu mu' mv mv' : Value} {vs vs' : Nat → Value} {t t' : TypeId} {z z' : Value} {bytes bytes' : Nat}
theorem chains {S : World → Prop} (hSg : ∀ w, w0.grownBy w none → S w) (hee : e ≠ e')
    (h0 : Is ops 0 7 (.buildSlice t 0 #[])) (h3 : Is ops 3 10 (app t 7 9)) (h5 : Is ops 5 12 (.buildSlice t 1 #[(0, .tmp 11)])) (h6 : Is ops 6 13 (app t 10 12))
    (h7 : Is ops 7 14 (.buildSlice t' 0 #[])) (h10 : Is ops 10 17 (app t' 14 16)) (h12 : Is ops 12 19 (.buildSlice t' 1 #[(0, .tmp 18)])) (h13 : Is ops 13 20 (app t' 17 19))
    (hready : ∀ b0 b1 b2 b3 c0 c1 c2 c3, closed b0 b1 b2 b3 = true → closed c0 c1 c2 c3 = true → (∀ i ∈ Region.ready .any ops (Ls b0 b1 b2 b3 c0 c1 c2 c3), mayCome b0 b1 b2 b3 c0 c1 c2 c3 i) ∧ (left b0 b1 b2 b3 + left c0 c1 c2 c3 ≠ 0 → Region.ready .any ops (Ls b0 b1 b2 b3 c0 c1 c2 c3) ≠ []))
    (ht : P.underlying t = some (.slice e)) (hi : (P.info? e).map (fun i => (i.zero, i.size, i.bytes)) = some (some z, 1, bytes)) (hzs : z.cells.size = 1)
    (ht' : P.underlying t' = some (.slice e')) (hi' : (P.info? e').map (fun i => (i.zero, i.size, i.bytes)) = some (some z', 1, bytes')) (hzs' : z'.cells.size = 1)
    (hmv : (z = .string ⟨#[]⟩ ∧ ∃ x, mu = .string x ∧ mv = .string x) ∨ (z = .agg #[.slice none 0 0] ∧ ∃ A n c, mu = .agg #[.slice A n c] ∧ mv = .slice A n c)) (hmv' : (z' = .string ⟨#[]⟩ ∧ ∃ x, mu' = .string x ∧ mv' = .string x) ∨ (z' = .agg #[.slice none 0 0] ∧ ∃ A n c, mu' = .agg #[.slice A n c] ∧ mv' = .slice A n c))
    {u6 : Value} {A B : Option Addr} {cA cB : Nat} (hsrc : src = .slice A n cA) (hsrc' : src' = .slice B n cB)
    (hr : ∀ w, w0.grownBy w none → ∃ F, Sl w F A n vs) (hr' : ∀ w, w0.grownBy w none → ∃ F, Sl w F B n vs') (hvs : ∀ j, j < n → (vs j).oneCell' = true) (hvs' : ∀ j, j < n → (vs' j).oneCell' = true)
    (h63 : n + 1 ≤ maxLen) (hby : (n + 1) * bytes ≤ 140737488355328) (hby' : (n + 1) * bytes' ≤ 140737488355328)
    (fin : ∀ a w, Ch w0.heap.size n e src mu mv vs 7 10 12 13 9 11 true true true true a w → Ch w0.heap.size n e' src' mu' mv' vs' 14 17 19 20 16 18 true true true true a w → w0.grownBy w none → a.eval (.tmp 6) = u6 ∧ 21 < a.tmps.size ∧ a.defers = [] → wpAnyH P .any ops Q S 2 (Ls true true true true true true true true) a w) :
    ∀ m b0 b1 b2 b3 c0 c1 c2 c3 a w, left b0 b1 b2 b3 + left c0 c1 c2 c3 = m → closed b0 b1 b2 b3 = true → closed c0 c1 c2 c3 = true → Ch w0.heap.size n e src mu mv vs 7 10 12 13 9 11 b0 b1 b2 b3 a w → Ch w0.heap.size n e' src' mu' mv' vs' 14 17 19 20 16 18 c0 c1 c2 c3 a w → w0.grownBy w none → a.eval (.tmp 6) = u6 ∧ 21 < a.tmps.size ∧ a.defers = [] →
      wpAnyH P .any ops Q S (m + 2) (Ls b0 b1 b2 b3 c0 c1 c2 c3) a w := by
  have hmc : mv.oneCell' = true := by rcases hmv with ⟨_, x, _, rfl⟩ | ⟨_, _, _, _, _, rfl⟩ <;> rfl
  have hmc' : mv'.oneCell' = true := by rcases hmv' with ⟨_, x, _, rfl⟩ | ⟨_, _, _, _, _, rfl⟩ <;> rfl
  obtain ⟨i, hi1, hi2, hi3, _⟩ := info_parts hi
  obtain ⟨i', hi1', hi2', hi3', _⟩ := info_parts hi'
  intro m
  induction m with
  | zero =>
    intro b0 b1 b2 b3 c0 c1 c2 c3 a w hm hcb hcc hC hC' hg h6'
    obtain ⟨rfl, rfl, rfl, rfl⟩ := left_zero _ _ _ _ (Nat.eq_zero_of_add_eq_zero_right hm)
    obtain ⟨rfl, rfl, rfl, rfl⟩ := left_zero _ _ _ _ (Nat.eq_zero_of_add_eq_zero_left hm)
    exact fin a w hC hC' hg h6'
  | succ m ih =>
    intro b0 b1 b2 b3 c0 c1 c2 c3 a w hm hcb hcc hC hC' hg h6'
    obtain ⟨hrd, hne⟩ := hready b0 b1 b2 b3 c0 c1 c2 c3 hcb hcc
    refine ⟨fun h => absurd h (hne (by omega)), fun i hii => ?_⟩
    have fr : ∀ g, (none : Option Nat) = some g → ∃ cs e2, e2 ≠ e ∧ w.heap[g]? = some (.cells cs e2 (0, 0)) := fun _ h => by cases h
    have fr' : ∀ g, (none : Option Nat) = some g → ∃ cs e2, e2 ≠ e' ∧ w.heap[g]? = some (.cells cs e2 (0, 0)) := fun _ h => by cases h
    rcases hrd i hii with ⟨rfl, rfl⟩ | ⟨rfl, rfl, rfl⟩ | ⟨rfl, rfl⟩ | ⟨rfl, rfl, rfl, rfl⟩ | ⟨rfl, rfl⟩ | ⟨rfl, rfl, rfl⟩ | ⟨rfl, rfl⟩ | ⟨rfl, rfl, rfl, rfl⟩ | ⟨rfl, rfl, rfl⟩
    · obtain ⟨rfl, rfl, hl, hc⟩ := closed0 _ _ _ hcb
      refine wpOp_of h0 fun o ho hd => hC.step0 (by decide) ho hd ht ⟨_, hi1⟩ fun v w' hg' hC2 => ⟨hSg _ (gr_trans hg hg'), ?_⟩
      exact ih _ _ _ _ _ _ _ _ _ w' (by omega) hc hcc hC2 (hC'.other v (by decide) hg' fr') (gr_trans hg hg') ⟨(eval_put_ne v (by decide)).trans h6'.1, by rw [size_put]; exact h6'.2.1, h6'.2.2⟩
    · obtain ⟨rfl, hl, hc⟩ := closed1 _ _ hcb
      obtain ⟨F, hF⟩ := hr w hg
      refine wpOp_of h3 fun o ho hd => hC.step1 (by decide) ho hd ht hi hzs hsrc hF hvs h63 hby fun v w' x hg' hx hC2 => ⟨hSg _ (gr_x hg hg' fun g h => (hx g h).1), ?_⟩
      exact ih _ _ _ _ _ _ _ _ _ w' (by omega) hc hcc hC2 (hC'.other v (by decide) hg' fun g h => ⟨_, e, hee, (hx g h).2.choose_spec⟩) (gr_x hg hg' fun g h => (hx g h).1) ⟨(eval_put_ne v (by decide)).trans h6'.1, by rw [size_put]; exact h6'.2.1, h6'.2.2⟩
    · obtain ⟨rfl, hl, hc⟩ := closed2 _ _ _ hcb
      refine wpOp_of h5 fun o ho hd => hC.step2 (by decide) ho hd ht ⟨_, hi1, hi2, hi3⟩ hmv fun v w' hg' hC2 => ⟨hSg _ (gr_trans hg hg'), ?_⟩
      exact ih _ _ _ _ _ _ _ _ _ w' (by omega) hc hcc hC2 (hC'.other v (by decide) hg' fr') (gr_trans hg hg') ⟨(eval_put_ne v (by decide)).trans h6'.1, by rw [size_put]; exact h6'.2.1, h6'.2.2⟩
    · obtain ⟨rfl, hl, hc⟩ := closed3 _ hcb
      refine wpOp_of h6 fun o ho hd => hC.step3 (by decide) ho hd ht hi hzs hmc h63 hby fun v w' x hg' hx hC2 => ⟨hSg _ (gr_x hg hg' fun g h => (hx g h).1), ?_⟩
      exact ih _ _ _ _ _ _ _ _ _ w' (by omega) hc hcc hC2 (hC'.other v (by decide) hg' fun g h => ⟨_, e, hee, (hx g h).2.choose_spec⟩) (gr_x hg hg' fun g h => (hx g h).1) ⟨(eval_put_ne v (by decide)).trans h6'.1, by rw [size_put]; exact h6'.2.1, h6'.2.2⟩
    · obtain ⟨rfl, rfl, hl, hc⟩ := closed0 _ _ _ hcc
      refine wpOp_of h7 fun o ho hd => hC'.step0 (by decide) ho hd ht' ⟨_, hi1'⟩ fun v w' hg' hC2 => ⟨hSg _ (gr_trans hg hg'), ?_⟩
      exact ih _ _ _ _ _ _ _ _ _ w' (by omega) hcb hc (hC.other v (by decide) hg' fr) hC2 (gr_trans hg hg') ⟨(eval_put_ne v (by decide)).trans h6'.1, by rw [size_put]; exact h6'.2.1, h6'.2.2⟩
    · obtain ⟨rfl, hl, hc⟩ := closed1 _ _ hcc
      obtain ⟨F, hF⟩ := hr' w hg
      refine wpOp_of h10 fun o ho hd => hC'.step1 (by decide) ho hd ht' hi' hzs' hsrc' hF hvs' h63 hby' fun v w' x hg' hx hC2 => ⟨hSg _ (gr_x hg hg' fun g h => (hx g h).1), ?_⟩
      exact ih _ _ _ _ _ _ _ _ _ w' (by omega) hcb hc (hC.other v (by decide) hg' fun g h => ⟨_, e', fun h => hee h.symm, (hx g h).2.choose_spec⟩) hC2 (gr_x hg hg' fun g h => (hx g h).1) ⟨(eval_put_ne v (by decide)).trans h6'.1, by rw [size_put]; exact h6'.2.1, h6'.2.2⟩
    · obtain ⟨rfl, hl, hc⟩ := closed2 _ _ _ hcc
      refine wpOp_of h12 fun o ho hd => hC'.step2 (by decide) ho hd ht' ⟨_, hi1', hi2', hi3'⟩ hmv' fun v w' hg' hC2 => ⟨hSg _ (gr_trans hg hg'), ?_⟩
      exact ih _ _ _ _ _ _ _ _ _ w' (by omega) hcb hc (hC.other v (by decide) hg' fr) hC2 (gr_trans hg hg') ⟨(eval_put_ne v (by decide)).trans h6'.1, by rw [size_put]; exact h6'.2.1, h6'.2.2⟩
    · obtain ⟨rfl, hl, hc⟩ := closed3 _ hcc
      refine wpOp_of h13 fun o ho hd => hC'.step3 (by decide) ho hd ht' hi' hzs' hmc' h63 hby' fun v w' x hg' hx hC2 => ⟨hSg _ (gr_x hg hg' fun g h => (hx g h).1), ?_⟩
      exact ih _ _ _ _ _ _ _ _ _ w' (by omega) hcb hc (hC.other v (by decide) hg' fun g h => ⟨_, e', fun h => hee h.symm, (hx g h).2.choose_spec⟩) hC2 (gr_x hg hg' fun g h => (hx g h).1) ⟨(eval_put_ne v (by decide)).trans h6'.1, by rw [size_put]; exact h6'.2.1, h6'.2.2⟩
    · exfalso
      have e1 : b0 = true ∧ b1 = true ∧ b2 = true := by revert hcb; cases b0 <;> cases b1 <;> cases b2 <;> decide
      have e2 : c0 = true ∧ c1 = true ∧ c2 = true := by revert hcc; cases c0 <;> cases c1 <;> cases c2 <;> decide
      obtain ⟨rfl, rfl, rfl⟩ := e1
      obtain ⟨rfl, rfl, rfl⟩ := e2
      simp [left] at hm
end
end Go.Proofs.Ytiaafacmfflfiaa
