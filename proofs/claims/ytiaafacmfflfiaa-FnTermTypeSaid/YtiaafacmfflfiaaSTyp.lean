/- The reference's names with types. -/
import Derived.Test.YtiaafacmfflfiaaSTerm
import Derived.Test.YtiaafacmfflfiaaTyp
import Derived.Test.YtiaafacmfflfiaaSText
import Derived.Test.YtiaafacmfflfiaaChainT
import Derived.Deep.QuietTactic
import Derived.BigQuiet
import Derived.Deep.RegionHeld3
import Derived.Deep.DrawnRows
namespace Go.Proofs.Ytiaafacmfflfiaa
open Go.RowKit

def nmAt (E : Env) (i : Nat) : List UInt8 := match E.reverse[i]? with
  | some p => p.1
  | none => []
def kdAt (E : Env) (i : Nat) : Ty := match E.reverse[i]? with
  | some p => p.2
  | none => .b
theorem rev_cons_lt {E : Env} {p : List UInt8 × Ty} {i : Nat} (h : i < E.length) : (p :: E).reverse[i]? = E.reverse[i]? := by
  rw [List.reverse_cons, List.getElem?_append_left (by simpa using h)]
theorem rev_cons_eq {E : Env} {p : List UInt8 × Ty} : (p :: E).reverse[E.length]? = some p := by
  rw [List.reverse_cons, List.getElem?_append_right (by simp)]
  simp
theorem nmAt_cons {E : Env} {x : List UInt8} {k : Ty} {i : Nat} (h : i < E.length + 1) : nmAt ((x, k) :: E) i = if i < E.length then nmAt E i else x := by
  unfold nmAt
  split
  · rename_i p hp
    split
    · rename_i hi; rw [rev_cons_lt hi] at hp; rw [hp]
    · obtain rfl : i = E.length := by omega
      rw [rev_cons_eq] at hp; cases hp; rfl
  · rename_i hp
    split
    · rename_i hi; rw [rev_cons_lt hi] at hp; rw [hp]
    · obtain rfl : i = E.length := by omega
      rw [rev_cons_eq] at hp; cases hp
theorem kdAt_cons {E : Env} {x : List UInt8} {k : Ty} {i : Nat} (h : i < E.length + 1) : kdAt ((x, k) :: E) i = if i < E.length then kdAt E i else k := by
  unfold kdAt
  split
  · rename_i p hp
    split
    · rename_i hi; rw [rev_cons_lt hi] at hp; rw [hp]
    · obtain rfl : i = E.length := by omega
      rw [rev_cons_eq] at hp; cases hp; rfl
  · rename_i hp
    split
    · rename_i hi; rw [rev_cons_lt hi] at hp; rw [hp]
    · obtain rfl : i = E.length := by omega
      rw [rev_cons_eq] at hp; cases hp
/-- Names and types, two slices, the newest last. -/
structure EnvS (w : World) (F : Nat → Prop) (An At : Option Addr) (E : Env) : Prop where
  n : Sl w F An E.length (fun i => .string ⟨(nmAt E i).toArray⟩)
  t : ∃ vs : Nat → Value, Sl w F At E.length vs ∧ ∀ i, i < E.length → (∃ A c, vs i = .slice A (kdAt E i).args.length c) ∧ TreeV w F (vs i) (kdAt E i)
theorem EnvS.grown0 {w w' : World} {F : Nat → Prop} {An At : Option Addr} {E : Env} (h : EnvS w F An At E) (hg : w.grownBy w' none) : EnvS w' F An At E :=
  ⟨h.n.grown0 hg, let ⟨vs, h1, h2⟩ := h.t; ⟨vs, h1.grown0 hg, fun i hi => ⟨(h2 i hi).1, (h2 i hi).2.grown0 hg⟩⟩⟩
theorem EnvS.mono {w : World} {F G : Nat → Prop} {An At : Option Addr} {E : Env} (h : EnvS w F An At E) (hm : ∀ b, F b → b < w.heap.size → G b) : EnvS w G An At E :=
  ⟨h.n.mono hm, let ⟨vs, h1, h2⟩ := h.t; ⟨vs, h1.mono hm, fun i hi => ⟨(h2 i hi).1, (h2 i hi).2.mono hm⟩⟩⟩
theorem snoc_slV {w : World} {base n cap : Nat} {A : Option Addr} {e : TypeId} {f : Nat → Value} {x : Value} {F : Nat → Prop} (h : w.ownsRow base e 1 (.slice A (n + 1) cap) (n + 1) ((List.range n).map f ++ (List.range 1).map (fun _ => x))) (hF : ∀ b, base ≤ b → F b) :
    Sl w F A (n + 1) (fun i => if i < n then f i else x) := by
  obtain ⟨A', cap', e, hs⟩ := own_form h
  cases e
  have hs := hs F (fun g hg => hF g (own_base h hg))
  intro h0
  obtain ⟨g, o, e, hg, hc⟩ := hs (by omega)
  refine ⟨g, o, e, hg, fun i hi => ?_⟩
  rw [hc i (by omega)]
  by_cases hin : i < n
  · simp [List.getD, hin, List.getElem?_append_left]
  · obtain rfl : i = n := by omega
    simp [List.getD]
theorem Sl.congr {w : World} {F : Nat → Prop} {A : Option Addr} {n : Nat} {f g : Nat → Value} (h : Sl w F A n f) (hfg : ∀ i, i < n → f i = g i) : Sl w F A n g := fun hn => by
  obtain ⟨b, o, e, hb, hc⟩ := h hn
  exact ⟨b, o, e, hb, fun i hi => by rw [hc i hi, hfg i hi]⟩
theorem envS_more {w wn : World} {F : Nat → Prop} {E : Env} {x : List UInt8} {k : Ty} {An' At' Ak : Option Addr} {ck cn ct : Nat} {bn bt : Nat} {vs : Nat → Value} (h1 : wn.grownBy w none)
    (hvs : ∀ i, i < E.length → (∃ A c, vs i = .slice A (kdAt E i).args.length c) ∧ TreeV w F (vs i) (kdAt E i)) (hk : TreeV w F (.slice Ak k.args.length ck) k)
    (hFn : ∀ b, bn ≤ b → F b) (hFt : ∀ b, bt ≤ b → F b)
    (hn : wn.ownsRow bn 9 1 (.slice An' (E.length + 1) cn) (E.length + 1) ((List.range E.length).map (fun i => Value.string ⟨(nmAt E i).toArray⟩) ++ (List.range 1).map (fun _ => Value.string ⟨x.toArray⟩)))
    (ht : w.ownsRow bt 43 1 (.slice At' (E.length + 1) ct) (E.length + 1) ((List.range E.length).map vs ++ (List.range 1).map (fun _ => Value.slice Ak k.args.length ck))) : EnvS w F An' At' ((x, k) :: E) := by
  refine ⟨((snoc_slV hn hFn).grown0 h1).congr fun i hi => ?_, _, snoc_slV ht hFt, fun i hi => ?_⟩
  · rw [nmAt_cons hi]
    split <;> rfl
  · rw [kdAt_cons hi]
    split
    · rename_i h; exact hvs i h
    · exact ⟨⟨_, _, rfl⟩, hk⟩
theorem info_tree1 : (Try.prog.info? 43).map (fun i => (i.zero, i.size, i.bytes)) = some (some (.agg #[.slice none 0 0]), 1, 24) := by kernel_rfl
theorem chainsT_end {ops : Array Oper} {Q : Exit → Act → World → Prop} {S : World → Prop} (h14 : Is ops 14 21 (.build 70 #[(0, .tmp 13), (1, .tmp 20)])) (h15 : ∃ o, ops[15]? = some o ∧ o.guard = none ∧ o.op = .store 70 (.tmp 6) (.tmp 21) ∧ o.dst = none)
    (r0 : Region.ready .any ops (Ls true true true true true true true true) = [14]) (r1 : Region.ready .any ops ((Ls true true true true true true true true).setIfInBounds 14 true) = [15]) (r2 : Region.ready .any ops (((Ls true true true true true true true true).setIfInBounds 14 true).setIfInBounds 15 true) = [])
    {a : Act} {w : World} {r n n' c c' : Nat} {A A' : Option Addr} (k1 : a.eval (.tmp 13) = .slice A n c) (k2 : a.eval (.tmp 20) = .slice A' n' c') (k6 : a.eval (.tmp 6) = .pointer (some ⟨r, 0, none⟩)) (hlt : 21 < a.tmps.size) (hS : S w) (hr : Blk w r 70 #[.slice none 0 0, .slice none 0 0])
    (hSr : S ((w.setCell ⟨r, 0, none⟩ (.slice A n c)).setCell ⟨r, 1, none⟩ (.slice A' n' c')))
    (fin : ∀ a' : Act, a'.eval (.tmp 6) = .pointer (some ⟨r, 0, none⟩) → a'.defers = a.defers → Q .normal a' ((w.setCell ⟨r, 0, none⟩ (.slice A n c)).setCell ⟨r, 1, none⟩ (.slice A' n' c'))) :
    wpAnyH Try.prog .any ops Q S 2 (Ls true true true true true true true true) a w := by
  refine ⟨fun h => (by rw [r0] at h; cases h), fun i hi => ?_⟩
  rw [r0] at hi
  obtain rfl := List.mem_singleton.1 hi
  have k1' : a.tmps[13]?.getD undef = .slice A n c := by simpa [Act.eval] using k1
  have k2' : a.tmps[20]?.getD undef = .slice A' n' c' := by simpa [Act.eval] using k2
  refine wpOp_of h14 fun o ho hd => ?_
  unfold Oper.wp execOp
  simp only [ho]
  go_simp
  refine ⟨hS, fun h => (by rw [r1] at h; cases h), fun i hi => ?_⟩
  rw [r1] at hi
  obtain rfl := List.mem_singleton.1 hi
  have k6' : a.tmps[6]?.getD undef = .pointer (some ⟨r, 0, none⟩) := by simpa [Act.eval] using k6
  have k6'' : (a.tmps.setIfInBounds 21 (.agg #[.slice A n c, .slice A' n' c']))[6]?.getD undef = .pointer (some ⟨r, 0, none⟩) := by simpa [Array.getElem?_setIfInBounds_ne] using k6'
  have k21 : (a.tmps.setIfInBounds 21 (.agg #[.slice A n c, .slice A' n' c']))[21]?.getD undef = .agg #[.slice A n c, .slice A' n' c'] := by simp [hlt]
  generalize a.tmps.setIfInBounds 21 (.agg #[.slice A n c, .slice A' n' c']) = T at *
  obtain ⟨o2, j1, j2, j3, j4⟩ := h15
  have x0 := hr.cell 0
  have x1 := hr.cell 1
  have f0 := hr.free 0
  have f1 := hr.free 1
  simp only [List.getElem?_toArray, List.getElem?_cons_zero, List.getElem?_cons_succ] at x0 x1
  unfold wpOp
  have hw : Region.wanted o2 (yielded ops T) = true := by simp [Region.wanted, j2]
  simp only [j1, hw, if_true]
  refine .inl ?_
  unfold Oper.wp execOp
  simp only [j3]
  go_simp
  exact ⟨hSr, r2, fin _ (by simpa [Act.eval] using k6'') rfl⟩
set_option maxRecDepth 100000 in
set_option maxHeartbeats 4000000 in
theorem l5With_any (E : Env) (x : List UInt8) (k : Ty) (An At Ak : Option Addr) (cn ct ck : Nat) (F : Nat → Prop) (w : World) (hF : ∀ b, w.heap.size ≤ b → F b) (hE : EnvS w F An At E) (hk : TreeV w F (.slice Ak k.args.length ck) k) (hn : E.length ≤ 1000) :
    Calls Try.prog 47 #[.agg #[.slice An E.length cn, .slice At E.length ct], .string ⟨x.toArray⟩, .agg #[.slice Ak k.args.length ck]] w fun e w' =>
      ∃ An' cn' At' ct', e = .returned (.agg #[.slice An' (E.length + 1) cn', .slice At' (E.length + 1) ct']) ∧ EnvS w' F An' At' ((x, k) :: E) ∧ w.grownBy w' none := by
  have hFh := Lib.hid hF
  clear hF
  have hkh := Lib.hid hk
  have hEm := Lib.hid (fun wn w base bt An' At' cn ct vs => envS_more (wn := wn) (w := w) (F := F) (E := E) (x := x) (k := k) (An' := An') (At' := At') (Ak := Ak) (ck := ck) (cn := cn) (ct := ct) (bn := base) (bt := bt) (vs := vs))
  obtain ⟨h1, vs, h2, hvs⟩ := hE
  have hvsh := Lib.hid hvs
  clear hk
  have hone : ∀ j, j < E.length → (vs j).oneCell' = true := fun j hj => by
    obtain ⟨⟨A, c, e⟩, _⟩ := hvs j hj
    rw [e]; rfl
  clear hvs
  generalize hP : (fun i => Value.string ⟨(nmAt E i).toArray⟩) = ns at *
  have honen : ∀ j, j < E.length → (ns j).oneCell' = true := fun j hj => by rw [← hP]; rfl
  clear hP
  have hg0 := gr_alloc (World.grownBy_alloc w (.cells #[.slice An E.length cn, .slice At E.length ct] 70) none) (.cells #[.slice Ak k.args.length ck] 43)
  have hg1 := gr_alloc hg0 (.cells #[.slice none 0 0, .slice none 0 0] 70)
  have hb := ((Blk.new w 70 #[.slice An E.length cn, .slice At E.length ct]).alloc (.cells #[.slice Ak k.args.length ck] 43)).alloc (.cells #[.slice none 0 0, .slice none 0 0] 70)
  have hc := (Blk.new (w.alloc (.cells #[.slice An E.length cn, .slice At E.length ct] 70)) 43 #[.slice Ak k.args.length ck]).alloc (.cells #[.slice none 0 0, .slice none 0 0] 70)
  have hr := Blk.new ((w.alloc (.cells #[.slice An E.length cn, .slice At E.length ct] 70)).alloc (.cells #[.slice Ak k.args.length ck] 43)) 70 #[.slice none 0 0, .slice none 0 0]
  rw [World.size_alloc] at hc
  rw [World.size_alloc, World.size_alloc] at hr
  have h1 := h1.grown0 hg1
  have h2 := h2.grown0 hg1
  have hsz : (((w.alloc (.cells #[.slice An E.length cn, .slice At E.length ct] 70)).alloc (.cells #[.slice Ak k.args.length ck] 43)).alloc (.cells #[.slice none 0 0, .slice none 0 0] 70)).heap.size = w.heap.size + 3 := by simp
  generalize E.length = n at *
  go_enter Try.func47, Try.ntmps47
  go_wp2_with fail
  rename_i hK1
  generalize hW : ((w.alloc (.cells #[.slice An n cn, .slice At n ct] 70)).alloc (.cells #[.slice Ak k.args.length ck] 43)).alloc (.cells #[.slice none 0 0, .slice none 0 0] 70) = W at *
  refine wp_region_held (S := fun w' => Blk w' w.heap.size 70 #[.slice An n cn, .slice At n ct] ∧ Blk w' (w.heap.size + 1) 43 #[.slice Ak k.args.length ck]) (by kernel_rfl) ?_
  have hbD := hb.grown0 (gr_drew (gr_refl W none))
  have hcD := hc.grown0 (gr_drew (gr_refl W none))
  have hrD := hr.grown0 (gr_drew (gr_refl W none))
  have h1D := h1.grown0 (gr_drew (gr_refl W none))
  have h2D := h2.grown0 (gr_drew (gr_refl W none))
  refine wpAnyH_take (i := 1) (v := .pointer (some ⟨w.heap.size, 0, none⟩)) rfl (by kernel_rfl) (by kernel_rfl) (by kernel_rfl) (fun _ _ _ h => h) (Or.inl ⟨by rfl, ?_⟩) ⟨hbD, hcD⟩ ?_
  · intro w' hS
    go_simp
  simp only [List.getElem_toArray, List.getElem_cons_succ, List.getElem_cons_zero, Act.put, List.setIfInBounds_toArray, List.set_cons_zero, List.set_cons_succ]
  refine wpAnyH_take (i := 2) (v := .slice An n cn) rfl (by kernel_rfl) (by kernel_rfl) (by kernel_rfl) (fun _ _ _ h => h) (Or.inl ⟨by rfl, ?_⟩) ⟨hbD, hcD⟩ ?_
  · intro w' hS
    have k := Blk.cell hS.1 0
    simp only [List.getElem?_toArray, List.getElem?_cons_zero] at k
    go_simp
  simp only [List.getElem_toArray, List.getElem_cons_succ, List.getElem_cons_zero, Act.put, List.setIfInBounds_toArray, List.set_cons_zero, List.set_cons_succ]
  refine wpAnyH_take (i := 4) (v := .string ⟨x.toArray⟩) rfl (by kernel_rfl) (by kernel_rfl) (by kernel_rfl) (fun _ _ _ h => h) (Or.inl ⟨by rfl, ?_⟩) ⟨hbD, hcD⟩ ?_
  · intro w' hS
    go_simp
  simp only [List.getElem_toArray, List.getElem_cons_succ, List.getElem_cons_zero, Act.put, List.setIfInBounds_toArray, List.set_cons_zero, List.set_cons_succ]
  refine wpAnyH_take (i := 8) (v := .pointer (some ⟨w.heap.size, 1, none⟩)) rfl (by kernel_rfl) (by kernel_rfl) (by kernel_rfl) (fun _ _ _ h => h) (Or.inl ⟨by rfl, ?_⟩) ⟨hbD, hcD⟩ ?_
  · intro w' hS
    go_simp
  simp only [List.getElem_toArray, List.getElem_cons_succ, List.getElem_cons_zero, Act.put, List.setIfInBounds_toArray, List.set_cons_zero, List.set_cons_succ]
  refine wpAnyH_take (i := 9) (v := .slice At n ct) rfl (by kernel_rfl) (by kernel_rfl) (by kernel_rfl) (fun _ _ _ h => h) (Or.inl ⟨by rfl, ?_⟩) ⟨hbD, hcD⟩ ?_
  · intro w' hS
    have k := Blk.cell hS.1 1
    simp only [List.getElem?_toArray, List.getElem?_cons_zero, List.getElem?_cons_succ] at k
    go_simp
  simp only [List.getElem_toArray, List.getElem_cons_succ, List.getElem_cons_zero, Act.put, List.setIfInBounds_toArray, List.set_cons_zero, List.set_cons_succ]
  refine wpAnyH_take (i := 11) (v := .agg #[.slice Ak k.args.length ck]) rfl (by kernel_rfl) (by kernel_rfl) (by kernel_rfl) (fun _ _ _ h => h) (Or.inl ⟨by rfl, ?_⟩) ⟨hbD, hcD⟩ ?_
  · intro w' hS
    have k := Blk.cell hS.2 0
    simp only [List.getElem?_toArray, List.getElem?_cons_zero] at k
    go_simp
  simp only [List.getElem_toArray, List.getElem_cons_succ, List.getElem_cons_zero, Act.put, List.setIfInBounds_toArray, List.set_cons_zero, List.set_cons_succ]
  refine chains (fun wx hg => ⟨hbD.grown0 hg, hcD.grown0 hg⟩) (e := 9) (e' := 43) (src := .slice An n cn) (src' := .slice At n ct) (mu := .string ⟨x.toArray⟩) (mv := .string ⟨x.toArray⟩) (mu' := .agg #[.slice Ak k.args.length ck]) (mv' := .slice Ak k.args.length ck) (vs := ns) (vs' := vs) (t := 53) (t' := 41) (w0 := W.drew) (u6 := .pointer (some ⟨w.heap.size + 2, 0, none⟩)) (by decide)
    ?o0 ?o3 ?o5 ?o6 ?o7 ?o10 ?o12 ?o13 ?rdy Try.underlying53 info_str rfl Try.underlying41 info_tree1 rfl (.inl ⟨rfl, _, rfl, rfl⟩) (.inr ⟨rfl, _, _, _, rfl, rfl⟩) rfl rfl (fun _ hg => ⟨_, h1D.grown0 hg⟩) (fun _ hg => ⟨_, h2D.grown0 hg⟩)
    honen hone (by unfold maxLen; omega) (by omega) (by omega) ?fin 8 false false false false false false false false _ _ rfl rfl rfl ?c1 ?c2 (gr_refl _ _) ?c6
  case rdy => decide +kernel
  case o0 => exact ⟨_, rfl, rfl, rfl, rfl⟩
  case o3 => exact ⟨_, rfl, rfl, rfl, rfl⟩
  case o5 => exact ⟨_, rfl, rfl, rfl, rfl⟩
  case o6 => exact ⟨_, rfl, rfl, rfl, rfl⟩
  case o7 => exact ⟨_, rfl, rfl, rfl, rfl⟩
  case o10 => exact ⟨_, rfl, rfl, rfl, rfl⟩
  case o12 => exact ⟨_, rfl, rfl, rfl, rfl⟩
  case o13 => exact ⟨_, rfl, rfl, rfl, rfl⟩
  case c6 => exact ⟨rfl, of_decide_eq_true rfl, rfl⟩
  case c1 => exact ⟨⟨of_decide_eq_true rfl, of_decide_eq_true rfl, of_decide_eq_true rfl, of_decide_eq_true rfl⟩, rfl, rfl, Nat.le_refl _, fun h => (by cases h), fun h => (by cases h), fun h => (by cases h), fun h => (by cases h)⟩
  case c2 => exact ⟨⟨of_decide_eq_true rfl, of_decide_eq_true rfl, of_decide_eq_true rfl, of_decide_eq_true rfl⟩, rfl, rfl, Nat.le_refl _, fun h => (by cases h), fun h => (by cases h), fun h => (by cases h), fun h => (by cases h)⟩
  intro a wx hC hC' hg h6
  obtain ⟨A1, c1, k1, o1⟩ := hC.h3 rfl
  obtain ⟨B1, d1, k2, o2⟩ := hC'.h3 rfl
  have hrx := hrD.grown0 hg
  have hbx := hbD.grown0 hg
  have hcx := hcD.grown0 hg
  refine chainsT_end (r := w.heap.size + 2) ?o14 ?o15 ?r0 ?r1 ?r2 k1 k2 h6.1 h6.2.1 ⟨hbx, hcx⟩ hrx ?hs ?q
  case o14 => exact ⟨_, rfl, rfl, rfl, rfl⟩
  case o15 => exact ⟨_, rfl, rfl, rfl, rfl⟩
  case r0 => kernel_rfl
  case r1 => kernel_rfl
  case r2 => kernel_rfl
  case hs => exact ⟨((hbx.other (p := ⟨w.heap.size + 2, 0, none⟩) (by simp) _).other (p := ⟨w.heap.size + 2, 1, none⟩) (by simp) _), ((hcx.other (p := ⟨w.heap.size + 2, 0, none⟩) (by simp) _).other (p := ⟨w.heap.size + 2, 1, none⟩) (by simp) _)⟩
  intro a' h6' hd
  rw [h6.2.2] at hd
  have hD : W.drew.heap.size = w.heap.size + 3 := hsz
  have q1 := own_setlt (own_setlt o1 (a := ⟨w.heap.size + 2, 0, none⟩) (by rw [hD]; simp) (.slice A1 (n + 1) c1)) (a := ⟨w.heap.size + 2, 1, none⟩) (by rw [hD]; simp) (.slice B1 (n + 1) d1)
  have q2 := own_setlt (own_setlt o2 (a := ⟨w.heap.size + 2, 0, none⟩) (by rw [hD]; simp) (.slice A1 (n + 1) c1)) (a := ⟨w.heap.size + 2, 1, none⟩) (by rw [hD]; simp) (.slice B1 (n + 1) d1)
  have q3 := gr_set (gr_set (gr_trans (gr_drew hg1) hg) (p := ⟨w.heap.size + 2, 0, none⟩) (.inr (Nat.le_add_right _ _)) (.slice A1 (n + 1) c1)) (p := ⟨w.heap.size + 2, 1, none⟩) (.inr (Nat.le_add_right _ _)) (.slice B1 (n + 1) d1)
  have hb2 := (hrx.set 0 (.slice A1 (n + 1) c1)).set 1 (.slice B1 (n + 1) d1)
  have y0 := hb2.cell 0
  have y1 := hb2.cell 1
  simp at y0 y1
  have k6 : a'.tmps[6]?.getD undef = .pointer (some ⟨w.heap.size + 2, 0, none⟩) := by simpa [Act.eval] using h6'
  refine hK1 _ _ ?_
  go_wp2_with fail
  refine bodyPost_ret (v := .agg #[.slice A1 (n + 1) c1, .slice B1 (n + 1) d1]) ?_ hd ⟨A1, c1, B1, d1, rfl, ?_, q3⟩
  · generalize (wx.setCell ⟨w.heap.size + 2, 0, none⟩ (.slice A1 (n + 1) c1)).setCell ⟨w.heap.size + 2, 1, none⟩ (.slice B1 (n + 1) d1) = wz at *
    simp [results, Try.results47, go_sem, k6, y0, y1]
  · exact hEm.out _ _ _ _ _ _ _ _ vs (gr_refl _ _) (fun i hi => ⟨(hvsh.out i hi).1, (hvsh.out i hi).2.grown0 q3⟩) (hkh.out.grown0 q3) (fun b hb => hFh.out b (by omega)) (fun b hb => hFh.out b (by omega)) q1 q2
end Go.Proofs.Ytiaafacmfflfiaa
