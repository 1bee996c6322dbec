/- The reference's CopyOf. -/
import Derived.Test.YtlehnlfgjadleaaDoorEtaS
import Derived.Test.YtlehnlfgjadleaaDoorSTx
import Derived.Test.YtlehnlfgjadleaaDoorSTextD
import Derived.Test.YtlehnlfgjadleaaDoorStrat
import Derived.Test.YtlehnlfgjadleaaDoorTypeB
import Derived.Test.YtlehnlfgjadleaaDoorICopyOf
namespace Go.Proofs.YtlehnlfgjadleaaDoor
open Go.RowKit

/-- A tree with one more argument in front. -/
theorem treeV_cons {w : World} {base n cap : Nat} {A2 : Option Addr} {v : Value} {vs : Nat → Value} {t u : Ty} (h : w.ownsRow base 29 1 (.slice A2 (1 + n) cap) (1 + n) ([v] ++ (List.range n).map vs)) (hn : u.args.length = n) (h1 : TreeV w Al v t) (h2 : ∀ i k, u.args[i]? = some k → TreeV w Al (vs i) k) :
    TreeV w Al (.slice A2 (n + 1) cap) (.arr t u) := by
  subst hn
  have hl : (Ty.arr t u).args.length = u.args.length + 1 := rfl
  have hcap : 1 + u.args.length ≤ cap := by
    obtain ⟨_, ⟨e1, e2⟩ | ⟨g', cap', cur, e1, _, _, h1, _⟩⟩ := h
    · omega
    · injection e1 with _ _ e3; omega
  obtain ⟨A', c', e, hs⟩ := own_form h
  injection e with e1 e2 e3
  subst e1 e3
  rw [← hl]
  refine .mk _ A2 cap (fun i => ([v] ++ (List.range u.args.length).map vs).getD i default) ?_ (fun i k hi => ?_) (by rw [hl]; omega)
  · rw [hl, Nat.add_comm]
    exact hs Al (fun _ _ => trivial)
  · cases i with
    | zero =>
      have : t = k := by simpa [Ty.args] using hi
      subst this
      exact h1
    | succ i =>
      have hi' : u.args[i]? = some k := by simpa [Ty.args] using hi
      have hlt := (List.getElem?_eq_some_iff.1 hi').1
      have : ([v] ++ (List.range u.args.length).map vs).getD (i + 1) default = vs i := by simp [List.getD, hlt]
      rw [this]
      exact h2 i k hi'
set_option maxRecDepth 100000 in
set_option maxHeartbeats 4000000 in
/-- The copy of a type is written. -/
theorem l4Written_any (u : Ty) (b : Bo) (A : Option Addr) (c : Nat) (B : Option Addr) (d : Nat) (C : Option Addr) (q : Nat) (F : Nat → Prop) (w : World) (hu : u.atoms ≤ 15) (ht : TreeV w F (.slice A u.args.length c) u) (hn : NV w F B d C q b)
    (hb1 : b.size ≤ 200) (hb2 : b.tidy) (hb3 : b.two) (hb4 : b.isLi = true → 2 ≤ b.np) (hs : strat u.text b.text = some (u, b)) :
    Calls Tryd.prog 14 #[.agg #[.slice A u.args.length c], nodeV b B d C q, .bool true] w fun e w' => e = .returned (.tuple #[.string ⟨b.text.toArray⟩, .bool true]) ∧ w.grownBy w' none := by
  have hTx := Lib.hid (fun W (hW : w.grownBy W none) => l3Text_any _ b B d C q F W (Nat.le_refl _) (by omega) hb2 hb3 hb4 (hn.grown0 hW))
  have hTy := Lib.hid (fun W (hW : w.grownBy W none) => l1Text_any _ u A c F W (Nat.le_refl _) (by omega) (ht.grown0 hW))
  have hul : u.text.length ≤ 1000 := by have := u.length_text; omega
  have hbl : b.text.length ≤ 100000 := by have := (tidy_len hb2).2; omega
  have hSt := Lib.hid (fun W => l3Strategy_any u.text b.text W (by omega) (by omega))
  have hsh := Lib.hid hs
  clear ht hn hs hb1 hb2 hb3 hb4
  have hbt := (Blk.new w 29 #[.slice A u.args.length c]).alloc (.cells #[.string ⟨b.atm.toArray⟩, .int .i64 (b.level : Int), .slice B b.kn d, .slice C b.yn q] 36)
  have hg0 := gr_alloc (World.grownBy_alloc w (.cells #[.slice A u.args.length c] 29) none) (.cells #[.string ⟨b.atm.toArray⟩, .int .i64 (b.level : Int), .slice B b.kn d, .slice C b.yn q] 36)
  unfold nodeV at hTx ⊢
  go_enter Tryd.func14, Tryd.ntmps14
  go_wp2_with fail
  refine (hTx.out _ hg0).mono ?_
  rintro e w1 ⟨rfl, hg1⟩
  have hb1 := hbt.grown0 hg1
  have x0 := hb1.cell 0
  have x0l := hb1.lt
  simp only [List.getElem?_toArray, List.getElem?_cons_zero] at x0
  have hg01 := gr_trans hg0 hg1
  go_wp2_with fail
  refine (hTy.out _ hg01).mono ?_
  rintro e w2 ⟨rfl, hg2⟩
  go_wp2_with fail
  refine (hSt.out _).mono ?_
  rintro e w3 ⟨hg3, hm⟩
  rw [hsh.out] at hm
  obtain ⟨A', c', B', d', C', q', rfl, _, _⟩ := hm
  unfold nodeV
  have hg03 := gr_trans (gr_trans hg01 hg2) hg3
  go_wp2_with fail
  go_ret2
  exact ⟨rfl, by repeat (first | exact hg03 | refine gr_alloc ?_ _)⟩
set_option maxRecDepth 100000 in
set_option maxHeartbeats 4000000 in
theorem sCopyOf_any (s : List UInt8) (w : World) (hs : s.length ≤ 1048576) :
    Calls Tryd.prog 6 #[.string ⟨s.toArray⟩] w fun e w' => w.grownBy w' none ∧ CRet (cpy s) e := by
  have hT := Lib.hid (l1TypeB_any s w (by omega))
  go_enter Tryd.func6, Tryd.ntmps6
  go_wp2_with fail
  refine hT.out.mono ?_
  rintro e w1 ⟨hg1, hm⟩
  clear hT
  obtain ⟨ok, t, A, c, hsm, rfl, ht, hok⟩ : ∃ (ok : Bool) (t : Ty) (A : Option Addr) (c : Nat), t.atoms ≤ 1000 ∧ e = .returned (.tuple #[.agg #[.slice A t.args.length c], .bool ok]) ∧ TreeV w1 (Fr w.heap.size) (.slice A t.args.length c) t ∧ ((ok = false ∧ cpy s = none) ∨ (ok = true ∧ cpy s = if (Ty.arr t t).atoms ≤ 15 then some (eta t 0 1) else none)) := by
    unfold cpy
    cases hp : Ty.read s with
    | none =>
      rw [hp] at hm
      obtain ⟨t, A, c, hsm, rfl, ht⟩ := hm
      exact ⟨false, t, A, c, hsm, rfl, ht, .inl ⟨rfl, rfl⟩⟩
    | some t =>
      rw [hp] at hm
      obtain ⟨A, c, rfl, ht⟩ := hm
      exact ⟨true, t, A, c, by have := (Ty.read_some hp).2; omega, rfl, ht, .inr ⟨rfl, rfl⟩⟩
  clear hm
  have hla := t.length_args
  obtain ⟨_, _, vs, ev, hA, hT⟩ := ht.open_
  injection ev with ev1 _ ev3
  subst ev1 ev3
  have htA := Lib.hid (fun W (hW : w1.grownBy W none) => (ht.grown0 hW).mono (G := Al) (fun _ _ _ => trivial))
  have hvh := Lib.hid (fun W (hW : w1.grownBy W none) i k hi => ((hT i k hi).grown0 hW).mono (G := Al) (fun _ _ _ => trivial))
  have hone := Lib.hid (HandV.one hT)
  have hgb := World.grownBy_alloc w1 (.cells #[.slice A t.args.length c] 29) none
  have hgc := gr_alloc hgb (.cells #[.slice A t.args.length c] 29)
  have hown : ((w1.alloc (.cells #[.slice A t.args.length c] 29)).alloc (.cells #[.slice A t.args.length c] 29)).ownsRow (w1.heap.size + 1) 29 1 (.slice (some ⟨w1.heap.size + 1, 0, none⟩) 1 1) 1 [.slice A t.args.length c] := by
    have hb := Blk.new (w1.alloc (.cells #[.slice A t.args.length c] 29)) 29 #[.slice A t.args.length c]
    rw [World.size_alloc] at hb
    exact ⟨rfl, .inr ⟨w1.heap.size + 1, 1, _, rfl, Nat.le_refl _, hb, Nat.le_refl _, by unfold maxLen; omega, rfl, rfl⟩⟩
  have hs2 : w1.heap.size + 1 ≤ ((w1.alloc (.cells #[.slice A t.args.length c] 29)).alloc (.cells #[.slice A t.args.length c] 29)).heap.size := by rw [World.size_alloc, World.size_alloc]; omega
  have hAh := hA.grown0 hgc
  have htb := Lib.hid ((Blk.new w1 29 #[.slice A t.args.length c]).alloc (.cells #[.slice A t.args.length c] 29))
  clear ht hA hT
  rcases hok with ⟨rfl, hX⟩ | ⟨rfl, hX⟩
  all_goals
    have hXh := Lib.hid hX
    clear hX
    go_wp2_with (at_builtin; refine wpList_app rfl _ _ 27 rfl (w1.heap.size + 1) 29 (.agg #[.slice none 0 0]) 24 Tryd.underlying27 info_tr rfl _ _ _ _ rfl hown A t.args.length c vs rfl _ hAh hone.out (by unfold maxLen; omega) (by omega) hs2 ?_; intro A2 c2 w2 hown2 hg2 hat2; have hgn2 := gr_ownb hgc hown (by omega) hg2; have hwh := treeV_cons hown2 rfl (htA.out _ hgn2) (hvh.out _ hgn2); rw [Nat.add_comm 1 t.args.length])
  · go_ret2
    exact ⟨by repeat (first | exact gr_trans hg1 hgn2 | refine gr_alloc ?_ _), by rw [hXh.out]; rfl⟩
  · have hgn3 := gr_alloc hgn2 (.cells #[.slice A2 (t.args.length + 1) c2] 29)
    have hw3 := hwh.grown0 (World.grownBy_alloc w2 (.cells #[.slice A2 (t.args.length + 1) c2] 29) none)
    have hSz := Lib.hid (l1Size_any _ (Ty.arr t t) A2 c2 Al (w2.alloc (.cells #[.slice A2 (t.args.length + 1) c2] 29)) (Nat.le_refl _) (by simp only [Ty.atoms]; omega) hw3)
    have hbT := htb.out
    refine hSz.out.mono ?_
    rintro e w4 ⟨rfl, hg4⟩
    have hb4 := ((hbT.grown hg2 (fun e => by have e2 : w1.heap.size = w1.heap.size + 1 := Option.some.inj e; omega)).alloc (.cells #[.slice A2 (t.args.length + 1) c2] 29)).grown0 hg4
    have hb6 := (Blk.new w2 29 #[.slice A2 (t.args.length + 1) c2]).grown0 hg4
    have x4 := hb4.cell 0
    have x4l := hb4.lt
    have x6 := hb6.cell 0
    have x6l := hb6.lt
    simp only [List.getElem?_toArray, List.getElem?_cons_zero] at x4 x6
    have hg14 := gr_trans hgn3 hg4
    have hw4 := hw3.grown0 hg4
    have htt := htA.out w4 hg14
    have hXn : cpy s = if (Ty.arr t t).atoms ≤ 15 then some (eta t 0 1) else none := hXh.out
    have hat : (Ty.arr t t).atoms = 1 + t.atoms + t.atoms := rfl
    generalize hn : (Ty.arr t t).atoms = n at *
    by_cases h15 : n ≤ 15
    · have hnI : ¬ (15 : Int) < (n : Int) := by omega
      rw [if_pos h15] at hXn
      have hXe := Lib.hid hXn
      have hn15 : (Ty.arr t t).atoms ≤ 15 := by omega
      have hE := fun W (hW : w4.grownBy W none) => l4Eta_any _ t A c 0 1 W (Nat.le_refl _) (by omega) (by omega) (by omega) (htA.out W (gr_trans hg14 hW))
      rw [show ((0 : Nat) : Int) = 0 from rfl, show ((1 : Nat) : Int) = 1 from rfl] at hE
      have hEh := Lib.hid hE
      have hwho := eta_whole t (by omega)
      obtain ⟨_, hwf, hfl, hdp, hsz⟩ := hwho
      have htd := eta_tidy t (by omega)
      have hst : strat (Ty.arr t t).text (eta t 0 1).text = some (Ty.arr t t, eta t 0 1) := by
        unfold strat
        rw [Ty.read_text hn15]
        have hok : HandOk (t :: t.args) 15 := ⟨by simp; omega, fun k hk => by
          rcases List.mem_cons.1 hk with rfl | hk
          · omega
          · have := args_atoms hk; omega⟩
        have := (readR_some hok).2 (eta_whole t (by omega))
        show (match readR (t :: t.args) (eta t 0 1).text with | some b => some (Ty.arr t t, b) | none => none) = _
        rw [this]
      have hWr := Lib.hid (fun W (G : Nat → Prop) Ae ce Be de (hW : w4.grownBy W none) (hv : NV W G Ae ce Be de (eta t 0 1)) => l4Written_any (Ty.arr t t) (eta t 0 1) A2 c2 Ae ce Be de Al W hn15 (hw4.grown0 hW) (hv.mono fun _ _ _ => trivial) (by omega) htd (wf_two _ _ hwf) (fun h => by have := hfl h; omega) hst)
      have hHe := Lib.hid (fun W (hW : w4.grownBy W none) => show W.cell? ⟨w2.heap.size, 0, none⟩ = some (.slice A2 (t.args.length + 1) c2) ∧ W.cell? ⟨w1.heap.size, 0, none⟩ = some (.slice A t.args.length c) from ⟨(hb6.grown0 hW).cell 0, (hb4.grown0 hW).cell 0⟩)
      have hgd := gr_drew (gr_refl w4 none)
      clear hE hXn hn hst hwf hfl hwh hown2 hg2 hat2 hw3 hbT hb4 hb6
      generalize eta t 0 1 = b at *
      go_wp2_with fail
      go_region_held3 (fun W => W.cell? ⟨w2.heap.size, 0, none⟩ = some (.slice A2 (t.args.length + 1) c2) ∧ W.cell? ⟨w1.heap.size, 0, none⟩ = some (.slice A t.args.length c))
        (first | exact hHe.out _ hgd | exact hHe.out _ hg46 | exact hHe.out _ hg45)
        (first
          | (go_at_call 14; refine (hWr.out w5 _ Ae ce Be de hg45 hv).mono ?_; rintro e w6 ⟨rfl, hg6⟩; have hg46 := gr_trans hg45 hg6)
          | (go_at_call 15; refine (hEh.out _ hgd).mono ?_; rintro e w5 ⟨hg5, Ae, ce, Be, de, rfl, hv⟩; have hg45 := gr_trans hgd hg5))
      go_wp2_with fail
      go_ret2
      exact ⟨gr_trans hg1 (gr_trans hg14 hg46), by rw [hXe.out]; rfl⟩
    · have hnI : (15 : Int) < (n : Int) := by omega
      rw [if_neg h15] at hXn
      have hXe := Lib.hid hXn
      go_wp2_with fail
      go_ret2
      exact ⟨gr_trans hg1 hg14, by rw [hXe.out]; rfl⟩
end Go.Proofs.YtlehnlfgjadleaaDoor
