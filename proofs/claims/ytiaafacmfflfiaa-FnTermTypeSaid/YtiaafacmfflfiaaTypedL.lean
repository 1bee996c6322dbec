/- The program's types of functions. -/
import Derived.Test.YtiaafacmfflfiaaTyped
import Derived.ArgAppend
namespace Go.Proofs.Ytiaafacmfflfiaa
open Go.RowKit

theorem info_bound : (Try.prog.info? 74).map (fun i => (i.zero, i.size, i.bytes)) = some (some (.agg #[.string ⟨#[]⟩, .pointer none]), 2, 24) := by kernel_rfl
theorem cell_grown2 {w W : World} {g i : Nat} {v : Value} (h : w.cell? ⟨g, i, none⟩ = some v) (hg : w.grownBy W none) : W.cell? ⟨g, i, none⟩ = some v :=
  (World.cell?_of_block (w := w) (a := ⟨g, i, none⟩) (hg.block g (World.block_lt_of_cell? w ⟨g, i, none⟩ h) (by simp))).trans h
/-- append of one element of two cells to a slice that is full: a new row. -/
theorem wp_append_grows2 {P : Program} {w : World} {o : Oper} {a : Act} {K : Act → World → Prop} {Q : Exit → Act → World → Prop} (s x : Operand) (t : TypeId)
    (hop : o.op = .call { callee := .builtin .append, args := #[s, x], argTypes := #[t, t] })
    (e : TypeId) (z : Value) (bytes : Nat) (ht : P.underlying t = some (.slice e)) (hi : (P.info? e).map (fun i => (i.zero, i.size, i.bytes)) = some (some z, 2, bytes)) (hzs : z.cells.size = 2)
    (ao : Option Addr) (n : Nat) (olds : List Value) (hs : a.eval s = .slice ao n n) (hnone : ao = none → n = 0) (hlo : olds.length = n * 2) (holds : ∀ b, ao = some b → ∀ j u, olds[j]? = some u → w.cell? (b.add j) = some u)
    (g : Nat) (u v : Value) (hx : a.eval x = .slice (some ⟨g, 0, none⟩) 1 1) (hb : Blk w g e #[u, v]) (hu : u.oneCell' = true) (hv : v.oneCell' = true)
    (h63 : n + 1 ≤ maxLen) (hbytes : (n + 1) * bytes ≤ 140737488355328)
    (h : ∀ v' w', w'.ownsRow w.heap.size e 2 v' (n + 1) (olds ++ [u, v]) → w.grownBy w' none → K (a.put o.dst v') w') : o.wp P a w K Q := by
  cases hii : P.info? e with
  | none => rw [hii] at hi; cases hi
  | some i =>
    rw [hii] at hi
    injection hi with hi
    injection hi with hz hi
    injection hi with h2 h48
    have hc : ∀ j y, [u, v][j]? = some y → w.cell? ((⟨g, 0, none⟩ : Addr).add j) = some y := fun j y hj => by
      rw [show (Addr.add ⟨g, 0, none⟩ j) = ⟨g, j, none⟩ by (simp [Addr.add]; omega), hb.cell]
      simpa using hj
    have h1c : ∀ y ∈ [u, v], y.oneCell' = true := fun y hy => by
      simp only [List.mem_cons, List.not_mem_nil, or_false] at hy
      rcases hy with rfl | rfl
      · exact hu
      · exact hv
    cases ao with
    | some b =>
      obtain ⟨v', w', hrun, r1, r2⟩ := run_append_arg_grows (P := P) w t o.type e i z 2 bytes ht hii hz h2 h48 hzs (by omega) b n n olds hlo (holds b rfl) ⟨g, 0, none⟩ 1 1 [u, v] rfl hc (by omega) h63 hbytes
      unfold Oper.wp execOp
      simp only [hop, resolve, invoke, builtin, Sem.run_bind, Sem.run_pure, Result.andThen_ok, List.map_toArray, List.map_cons, List.map_nil, hs, hx, hrun]
      exact h v' w' r1 r2
    | none =>
      obtain rfl := hnone rfl
      obtain rfl : olds = [] := List.eq_nil_of_length_eq_zero (by simpa using hlo)
      obtain ⟨v', w', hrun, r1, r2, _⟩ := run_append_own (P := P) w w.heap.size t o.type e i z 2 bytes ht hii hz h2 h48 hzs (by omega) (.slice none 0 0) 0 [] (World.ownsRow_nil w _ e 2) ⟨g, 0, none⟩ 1 1 [u, v] rfl hc h1c h63 hbytes (Nat.le_refl _)
      unfold Oper.wp execOp
      simp only [hop, resolve, invoke, builtin, Sem.run_bind, Sem.run_pure, Result.andThen_ok, List.map_toArray, List.map_cons, List.map_nil, hs, hx, hrun]
      exact h v' w' r1 r2
attribute [local go_sem ↓] Go.wp_at_zero Go.wp_at_succ
set_option maxRecDepth 100000 in
set_option maxHeartbeats 4000000 in
theorem typed_lam (x : List UInt8) (k : Ty) (b : Tm) (ihb : TypIH b) : TypIH (.lam x k b) := by
  intro E q A c w ht hwf hE hok hsz hcE
  cases ht with
  | lam _ _ _ _ qk q0 A1 cp hq hb hA hk h0 =>
  have c0 := hb.cell 0
  have c1 := hb.cell 1
  have c2 := hb.cell 2
  have c3 := hb.cell 3
  have hlt := hb.lt
  simp only [List.getElem?_toArray, List.getElem?_cons_zero, List.getElem?_cons_succ] at c0 c1 c2 c3
  obtain ⟨gp, op, rfl, _, hcp⟩ := hA (by decide)
  have p0 := hcp 0 (by decide)
  simp only [Nat.add_zero, ptrv] at p0 c2
  simp only [Tm.wf, Bool.and_eq_true] at hwf
  simp only [Tm.atoms] at hsz
  have hKa := Lib.hid (atoms_any k.atoms k qk Al w (Nat.le_refl _) (by omega) hk)
  by_cases hk15 : k.atoms ≤ 15
  · have hki : ¬ (15 : Int) < (k.atoms : Int) := by omega
    obtain ⟨gE, oE, hEA, hEo⟩ := bounds_olds hE
    have hnone : A = none → E.length = 0 := fun h => by
      rcases Nat.eq_zero_or_pos E.length with h0 | h0
      · exact h0
      · rw [hEA h0] at h; cases h
    have hlo : ((List.range (E.length * 2)).map (fun j => (w.cell? ⟨gE, oE + j, none⟩).getD default)).length = E.length * 2 := by simp
    have hgx : w.grownBy w.drew none := gr_drew (gr_refl _ _)
    have hgy := gr_alloc hgx (.cells #[.string ⟨x.toArray⟩, .pointer (some ⟨qk, 0, none⟩)] 74)
    have hby := Blk.new w.drew 74 #[.string ⟨x.toArray⟩, .pointer (some ⟨qk, 0, none⟩)]
    have hEo := Lib.hid hEo
    have hlp : gp < w.heap.size := World.block_lt_of_cell? w ⟨gp, op, none⟩ p0
    have hkp := Lib.hid (fun (V : World) (hV : w.grownBy V none) => show V.cell? ⟨q, 3, none⟩ = some (.slice (some ⟨gp, op, none⟩) 1 cp) ∧ V.cell? ⟨gp, op, none⟩ = some (.pointer (some ⟨q0, 0, none⟩)) ∧ V.cell? ⟨q, 1, none⟩ = some (.string ⟨x.toArray⟩) ∧ V.cell? ⟨q, 2, none⟩ = some (.pointer (some ⟨qk, 0, none⟩)) from
      ⟨(hb.grown0 hV).cell 3, (World.cell?_of_block (w := w) (a := ⟨gp, op, none⟩) (hV.block gp hlp (by simp))).trans p0, (hb.grown0 hV).cell 1, (hb.grown0 hV).cell 2⟩)
    have hcI : (E.length : Int) ≤ (c : Int) := by omega
    have hB := Lib.hid (fun (W : World) (hW : w.grownBy W none) (A' : Option Addr) (c' : Nat) (hb' : BoundS W Al A' ((x, k) :: E)) (hc' : E.length + 1 ≤ c') => ihb ((x, k) :: E) q0 A' c' W (h0.grown0 hW) (by simp [hwf]) hb'
      (by intro p hp; rcases List.mem_cons.1 hp with rfl | hp; exact hk15; exact hok p hp) (by simp only [List.length_cons]; omega) hc')
    go_enter Try.func21, Try.ntmps21
    go_wp2_with fail
    refine hKa.out.mono ?_
    rintro e w1 ⟨rfl, rfl⟩
    go_wp2_with fail
    go_region_held3 (fun w' => w'.cell? ⟨q, 3, none⟩ = some (.slice (some ⟨gp, op, none⟩) 1 cp) ∧ w'.cell? ⟨gp, op, none⟩ = some (.pointer (some ⟨q0, 0, none⟩)) ∧ w'.cell? ⟨q, 1, none⟩ = some (.string ⟨x.toArray⟩) ∧ w'.cell? ⟨q, 2, none⟩ = some (.pointer (some ⟨qk, 0, none⟩)))
      (first | exact hkp.out _ (gr_trans hgy (gr_trans hg1 hg2)) | exact hkp.out _ (gr_trans hgy hg1) | exact hkp.out _ hgy | exact hkp.out _ hgx | go_keep)
      (first
        | (go_at_call 21; refine (hB.out w1 (gr_trans hgy hg1) A' c' hbs hc').mono ?_; rintro e w2 ⟨hg2, v2, rfl, hv2⟩)
        | (rw [if_pos (by rfl)]; refine wp_append_grows2 _ _ 71 rfl 74 (.agg #[.string ⟨#[]⟩, .pointer none]) 24 Try.underlying71 info_bound rfl A E.length _ rfl hnone hlo (hEo.out _ hgy) w.heap.size (.string ⟨x.toArray⟩) (.pointer (some ⟨qk, 0, none⟩)) rfl hby rfl rfl (by unfold maxLen; omega) (by omega) ?_; intro v' w1 hown1 hg1; obtain ⟨A', c', rfl, hbs, hc'⟩ := boundS_more hE hEA rfl hk (gr_trans hgy hg1) hown1))
    have hgw := gr_trans hgy (gr_trans hg1 hg2)
    have hty := Lib.hid (show (Tm.lam x k b).ty E = tyLam k (b.ty ((x, k) :: E)) from if_pos hk15)
    have hkw := hk.grown0 hgw
    have hEok : Env.ok ((x, k) :: E) := by intro p hp; rcases List.mem_cons.1 hp with rfl | hp; exact hk15; exact hok p hp
    have c2w := cell_grown2 c2 hgw
    clear hB hkp hk hE h0 hA hb hcp p0 c0 c1 c3 hbs hEo hEA hnone hlo hby hKa
    cases hu : b.ty ((x, k) :: E) with
    | none =>
      rw [hu] at hv2 hty
      obtain rfl := hv2
      go_wp2_with fail
      go_ret
      exact TypedPost.no hty.out hgw
    | some u =>
      rw [hu] at hv2 hty
      obtain ⟨qu, rfl, hku⟩ := hv2
      have hu15 := b.ty_le _ _ hEok hu
      have hla := u.length_args
      have hAr := Lib.hid (arrow_any qk qu k u Al w2 hkw hku (fun _ _ => trivial) (by omega))
      clear hkw hku
      go_wp2_with fail
      refine hAr.out.mono ?_
      rintro e w3 ⟨qr, rfl, hkr, hg3⟩
      have hAt := Lib.hid (atoms_any (Ty.arr k u).atoms (Ty.arr k u) qr Al w3 (Nat.le_refl _) (by simp only [Ty.atoms]; omega) hkr)
      by_cases h15 : (Ty.arr k u).atoms ≤ 15
      · have hY := Lib.hid (show (Tm.lam x k b).ty E = some (.arr k u) by rw [hty.out]; exact if_pos h15)
        have hri : ¬ (15 : Int) < ((Ty.arr k u).atoms : Int) := by omega
        have hkrh := Lib.hid hkr
        clear hkr
        generalize (Ty.arr k u).atoms = na at *
        go_wp2_with fail
        refine hAt.out.mono ?_
        rintro e w4 ⟨rfl, rfl⟩
        go_wp2_with fail
        go_ret
        exact TypedPost.yes hY.out (gr_trans hgw hg3) hkrh.out
      · have hNo := Lib.hid (show (Tm.lam x k b).ty E = none by rw [hty.out]; exact if_neg h15)
        have hri : (15 : Int) < ((Ty.arr k u).atoms : Int) := by omega
        clear hkr
        generalize (Ty.arr k u).atoms = na at *
        go_wp2_with fail
        refine hAt.out.mono ?_
        rintro e w4 ⟨rfl, rfl⟩
        go_wp2_with fail
        go_ret
        exact TypedPost.no hNo.out (gr_trans hgw hg3)
  · have hki : (15 : Int) < (k.atoms : Int) := by omega
    have hNo := Lib.hid (show (Tm.lam x k b).ty E = none from if_neg hk15)
    go_enter Try.func21, Try.ntmps21
    go_wp2_with fail
    refine hKa.out.mono ?_
    rintro e w1 ⟨rfl, rfl⟩
    go_wp2_with fail
    go_ret
    exact TypedPost.no hNo.out (gr_refl _ _)
end Go.Proofs.Ytiaafacmfflfiaa
