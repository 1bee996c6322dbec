/- The reference's reader of types: a function type. -/
import Derived.Test.YtlehnlfgjadleaaDoorRead
namespace Go.Proofs.YtlehnlfgjadleaaDoor
open Go.RowKit

set_option maxHeartbeats 1000000 in
theorem l1Read_list (f : Nat) (ih : ReadIH f) (l : List UInt8) (i : Nat) (d : Int) (w : World) (hl : l.length ≤ 1099511627776) (hlt : i < l.length) (_hd : d ≤ 20 ∧ 0 ≤ d) (hdx : d + 1 = 21 - (f : Int)) (hb : pre [98] (l.drop i) = false) (hl3 : ¬ l.length < i + 3)
    (hp : pre [40, 62, 32] (l.drop i) = true) :
    Calls Tryd.prog 26 #[.string ⟨l.toArray⟩, .int .i64 (i : Int), .int .i64 d] w (ReadSPost (f + 1) l i w) := by
  have hlt' : i < (⟨l.toArray⟩ : ByteArray).size := by simpa [ByteArray.size] using hlt
  have hg := World.grownBy_alloc w (.cells #[.slice none 0 0] 29) none
  have hb98 := byte_is l i hlt hlt' 98 98 rfl
  rw [hb] at hb98
  have hb6 := Blk.new w 29 #[.slice none 0 0]
  have hx3 := ext_is l [40, 62, 32] i (i + 3) rfl (by omega)
  rw [hp] at hx3
  have hP := Ty.parseF_step (f := f) hp
  rw [cut_drop hp, show i + ([40, 62, 32] : List UInt8).length = i + 3 from rfl] at hP
  clear hb hp
  have hf21 : f ≤ 21 := by omega
  have hdh := Lib.hid hdx
  clear hdx
  have c1 := Lib.hid (ih l (i + 3) (d + 1) (w.alloc (.cells #[.slice none 0 0] 29)) hl (by omega) hdh.out hf21)
  rw [show ((i + 3 : Nat) : Int) = (i : Int) + 3 by omega] at c1
  go_enter Tryd.func26, Tryd.ntmps26
  go_wp2_with fail
  refine c1.out.mono ?_
  rintro e w1 ⟨hg1, hm⟩
  have hb61 := hb6.grown0 hg1
  have hc6 := hb61.cell 0
  have hf6 := hb61.free 0
  simp only [List.getElem?_toArray, List.getElem?_cons_zero] at hc6
  have hlt6 := hb61.lt
  have hg01 := gr_trans hg hg1
  clear c1
  cases h1 : Ty.parseF f (l.drop (i + 3)) with
  | none =>
    rw [h1] at hm hP
    subst hm
    have hPh := Lib.hid hP
    clear h1 hP
    go_wp2_with fail
    exact bodyPost_ret (v := .tuple #[.agg #[.slice none 0 0], .int .i64 (-1)]) (by simp [results, Tryd.results26, go_sem, hc6, hlt6]) rfl (ReadSPost.no hPh.out (gr_alloc (gr_set hg01 (.inr (Nat.le_refl _)) _) _))
  | some v =>
    obtain ⟨a, r1⟩ := v
    rw [h1] at hm hP
    obtain ⟨A1, cp1, j, hj, hij, rfl, rfl, ht1⟩ := hm
    clear h1
    by_cases hjl : l.length ≤ j
    · simp only at hP
      rw [List.drop_eq_nil_of_le hjl, show pre [32] [] = false from rfl] at hP
      have hPh := Lib.hid hP
      clear hP
      go_wp2_with fail
      exact bodyPost_ret (v := .tuple #[.agg #[.slice none 0 0], .int .i64 (-1)]) (by simp [results, Tryd.results26, go_sem, hc6, hlt6]) rfl (ReadSPost.no hPh.out (gr_alloc (gr_set hg01 (.inr (Nat.le_refl _)) _) _))
    · have hjlt : j < l.length := by omega
      have hjlt' : j < (⟨l.toArray⟩ : ByteArray).size := by simpa [ByteArray.size] using hjlt
      have hbj := byte_ne l j hjlt hjlt' 32 32 rfl
      cases hpj : pre [32] (l.drop j) with
      | false =>
        rw [hpj, Bool.not_false] at hbj
        simp only [hpj, Bool.false_eq_true, if_false] at hP
        have hPh := Lib.hid hP
        clear hpj hP
        go_wp2_with fail
        exact bodyPost_ret (v := .tuple #[.agg #[.slice none 0 0], .int .i64 (-1)]) (by simp [results, Tryd.results26, go_sem, hc6, hlt6]) rfl (ReadSPost.no hPh.out (gr_alloc (gr_set hg01 (.inr (Nat.le_refl _)) _) _))
      | true =>
        rw [hpj, Bool.not_true] at hbj
        simp only [hpj, if_true] at hP
        rw [cut_drop hpj, show j + ([32] : List UInt8).length = j + 1 from rfl] at hP
        clear hpj
        have c2 := Lib.hid fun W => ih l (j + 1) (d + 1) W hl (by omega) hdh.out hf21
        rw [show ((j + 1 : Nat) : Int) = (j : Int) + 1 by omega] at c2
        have hPh := Lib.hid hP
        clear hP
        go_wp2_with fail
        refine (c2.out _).mono ?_
        rintro e w2 ⟨hg2, hm⟩
        have hb62 := (hb61.alloc (.cells #[.slice A1 a.args.length cp1] 29)).grown0 hg2
        have hc62 := hb62.cell 0
        have hf62 := hb62.free 0
        simp only [List.getElem?_toArray, List.getElem?_cons_zero] at hc62
        have hlt62 := hb62.lt
        have hb82 := (Blk.new w1 29 #[.slice A1 a.args.length cp1]).grown0 hg2
        have hc82 := hb82.cell 0
        have hf82 := hb82.free 0
        simp only [List.getElem?_toArray, List.getElem?_cons_zero] at hc82
        have hlt82 := hb82.lt
        have hg02 := gr_trans (gr_alloc hg01 (.cells #[.slice A1 a.args.length cp1] 29)) hg2
        clear c2
        cases h2 : Ty.parseF f (l.drop (j + 1)) with
        | none =>
          rw [h2] at hm
          subst hm
          have hP := hPh.out
          rw [h2] at hP
          have hPh2 := Lib.hid hP
          clear h2 hP
          go_wp2_with fail
          exact bodyPost_ret (v := .tuple #[.agg #[.slice none 0 0], .int .i64 (-1)]) (by simp [results, Tryd.results26, go_sem, hc62, hlt62]) rfl (ReadSPost.no hPh2.out (gr_alloc (gr_set hg02 (.inr (Nat.le_refl _)) _) _))
        | some v =>
          obtain ⟨c, r2⟩ := v
          have hP := hPh.out
          rw [h2] at hm hP
          obtain ⟨A2, cp2, k, hk, hjk, rfl, rfl, ht2⟩ := hm
          have hcl := args_leF h2
          rw [List.length_drop] at hcl
          clear h2 hPh
          by_cases hkl : l.length ≤ k
          · simp only at hP
            rw [List.drop_eq_nil_of_le hkl, show pre [41] [] = false from rfl] at hP
            have hPh := Lib.hid hP
            clear hP
            go_wp2_with fail
            exact bodyPost_ret (v := .tuple #[.agg #[.slice none 0 0], .int .i64 (-1)]) (by simp [results, Tryd.results26, go_sem, hc62, hlt62]) rfl (ReadSPost.no hPh.out (gr_alloc (gr_set hg02 (.inr (Nat.le_refl _)) _) _))
          · have hklt : k < l.length := by omega
            have hklt' : k < (⟨l.toArray⟩ : ByteArray).size := by simpa [ByteArray.size] using hklt
            have hbk := byte_ne l k hklt hklt' 41 41 rfl
            cases hpk : pre [41] (l.drop k) with
            | false =>
              rw [hpk, Bool.not_false] at hbk
              simp only [hpk, Bool.false_eq_true, if_false] at hP
              have hPh := Lib.hid hP
              clear hpk hP
              go_wp2_with fail
              exact bodyPost_ret (v := .tuple #[.agg #[.slice none 0 0], .int .i64 (-1)]) (by simp [results, Tryd.results26, go_sem, hc62, hlt62]) rfl (ReadSPost.no hPh.out (gr_alloc (gr_set hg02 (.inr (Nat.le_refl _)) _) _))
            | true =>
              rw [hpk, Bool.not_true] at hbk
              simp only [hpk, if_true] at hP
              rw [cut_drop hpk, show k + ([41] : List UInt8).length = k + 1 from rfl] at hP
              have hPh := Lib.hid hP
              clear hpk hP
              obtain ⟨A2', cp2', vs2, e2, hS2, hs2⟩ := ht2.open_
              cases e2
              have hg2a := World.grownBy_alloc w2 (.cells #[.slice A2 c.args.length cp2] 29) none
              have hg2b := gr_alloc hg2a (.cells #[.slice A1 a.args.length cp1] 29)
              have hS3 := hS2.grown0 hg2b
              have hone : ∀ q, q < c.args.length → (vs2 q).oneCell' = true := by
                intro q hq
                obtain ⟨Aq, cq, vq, e, _⟩ := (hs2 q c.args[q] (List.getElem?_eq_getElem hq)).open_
                rw [e]
                rfl
              have hone := Lib.hid hone
              have hs2 := Lib.hid hs2
              have hown : ((w2.alloc (.cells #[.slice A2 c.args.length cp2] 29)).alloc (.cells #[.slice A1 a.args.length cp1] 29)).ownsRow (w2.heap.size + 1) 29 1 (.slice (some ⟨w2.heap.size + 1, 0, none⟩) 1 1) 1 [.slice A1 a.args.length cp1] :=
                ⟨rfl, .inr ⟨w2.heap.size + 1, 1, #[.slice A1 a.args.length cp1], rfl, Nat.le_refl _, by rw [← World.size_alloc w2 (.cells #[.slice A2 c.args.length cp2] 29)]; exact heap_alloc_new _ _, Nat.le_refl _, by unfold maxLen; omega, rfl, rfl⟩⟩
              have hb63 := hb62.grown0 hg2b
              go_wp2_with (at_builtin; refine wpList_app rfl _ _ 27 rfl (w2.heap.size + 1) 29 (.agg #[.slice none 0 0]) 24 Tryd.underlying27 info_tree rfl _ 1 1 _ rfl hown A2 c.args.length cp2 _ rfl _ hS3 hone.out (by unfold maxLen; omega) (by omega) (by simp) ?_; intro A' cap w3 hown3 hg3 hat3; have hb64 := hb63.grown hg3 (by simp [Value.ownBlock]; omega); have hc64 := hb64.cell 0; have hf64 := hb64.free 0; simp only [List.getElem?_toArray, List.getElem?_cons_zero] at hc64; have hlt64 := hb64.lt)
              have hnn : (Ty.arr a c).args.length = 1 + c.args.length := by simp [Ty.args]; omega
              have e1 : ((k : Int) + 1) = ((k + 1 : Nat) : Int) := by omega
              refine bodyPost_ret (v := .tuple #[.agg #[.slice A' (1 + c.args.length) cap], .int .i64 ((k : Int) + 1)]) (by simp [results, Tryd.results26, go_sem, hc64]) rfl ?_
              rw [← hnn, e1]
              have hg23 : w2.grownBy w3 none := gr_trans_new hg2b hg3 (by simp)
              have hg13 := gr_trans (gr_trans (World.grownBy_alloc w1 (.cells #[.slice A1 a.args.length cp1] 29) none) hg2) hg23
              have hsz := hg01.size
              have hsz2 := hg02.size
              have hT := treeV_arr (F := Fr (w.heap.size + 1)) hown3 (fun b hb => Nat.le_trans (by omega) hb) ((ht1.fr (by simp)).grown0 hg13) (fun q u hq => ((hs2.out q u hq).fr (by simp; omega)).grown0 hg23)
              refine ReadSPost.yes hPh.out (gr_set (gr_trans hg02 hg23) (.inr (Nat.le_refl _)) _) (by omega) (by omega) ?_
              exact ((hT.grown (gr_set (gr_refl w3 (some w.heap.size)) (.inl rfl) _) (by omega)).fr (by omega))
end Go.Proofs.YtlehnlfgjadleaaDoor
