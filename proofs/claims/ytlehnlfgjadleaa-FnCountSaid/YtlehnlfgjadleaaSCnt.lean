/- The reference's counts. -/
import Derived.Test.YtlehnlfgjadleaaHandS
import Derived.Test.YtlehnlfgjadleaaIRow
import Derived.Test.YtlehnlfgjadleaaKeyT
import Derived.Deep.RegionLaw
namespace Go.Proofs.Ytlehnlfgjadleaa
open Go.RowKit

/-- The j-th count. -/
def cvS (hand : List Ty) (j : Nat) : Value := .int .i64 (C hand j : Int)
theorem modify_same {α : Type} (a : Array α) (i : Nat) (f : α → α) (x : α) (h : a[i]? = some x) (hf : f x = x) : a.modify i f = a := by
  obtain ⟨hlt, he⟩ := Array.getElem?_eq_some_iff.1 h
  apply Array.ext
  · simp
  · intro j h1 h2
    rw [Array.getElem_modify]
    split
    · rename_i hij
      subst hij
      rw [he, hf]
    · rfl
/-- A store of what stands there turns nothing. -/
theorem set_one {w : World} {g : Nat} {t : TypeId} {v : Value} (h : Blk w g t #[v]) : w.setCell ⟨g, 0, none⟩ v = w := by
  unfold World.setCell
  rw [modify_same w.heap g _ _ h (by simp)]
theorem stp_one {a b : Nat → Nat} {I x : Nat} (h : b 0 = 0) : stp a b I 1 x = part a b I x := by
  rw [stp_next, stp_zero]
  split <;> simp [h]
/-- What l6tCount does. -/
def SCnt (M : Nat) : Prop := ∀ (hand : List Ty) (A : Option Addr) (ca b n : Nat) (w : World), n ≤ M → n ≤ 8 → 1 ≤ n → HandS hand → 2 * hand.length + 7 * n ≤ 70 → HandV w Al A hand → Blk w b 39 #[.bool false] →
  Calls Try.prog 14 #[.pointer (some ⟨b, 0, none⟩), .slice A hand.length ca, .int .i64 (n : Int)] w fun e w' =>
    ∃ g, e = .returned (.slice (some ⟨g, 0, none⟩) (n + 1) (n + 1)) ∧ w.heap.size ≤ g ∧ IRow w' g (n + 1) (C hand) ∧ w.grownBy w' none
theorem sl_two (w : World) (e : TypeId) (v : Value) : Sl (w.alloc (.cells #[v, v] e)) Al (some ⟨w.heap.size, 0, none⟩) 2 (fun _ => v) := fun _ =>
  ⟨w.heap.size, 0, rfl, trivial, fun i hi => by
    rw [Nat.zero_add, (Blk.new w e #[v, v]).cell]
    rcases i with _ | _ | i
    · rfl
    · rfl
    · omega⟩
theorem parts6_map (hand : List Ty) (k : Ty) : parts6 hand k = (k.args ++ [Ty.b, Ty.b]).map fun a => hand ++ a.args := by simp [parts6, Ty.args]
set_option maxRecDepth 100000 in
set_option maxHeartbeats 4000000 in
theorem l6tParts_any (M : Nat) (ih : SCnt M) (hand : List Ty) (A : Option Addr) (ca b v s : Nat) (k : Ty) (w : World) (hk : hand[v]? = some k) (hM : s ≤ M + 1) (hs : s ≤ 7) (h1 : 1 ≤ s) (hS : HandS hand) (hl : 2 * hand.length + 7 * (s + 1) ≤ 70) (hh : HandV w Al A hand) (hb : Blk w b 39 #[.bool false]) :
    Calls Try.prog 25 #[.pointer (some ⟨b, 0, none⟩), .slice A hand.length ca, .int .i64 (v : Int), .int .i64 (s : Int)] w fun e w' =>
      e = .returned (.int .i64 (wy ((parts6 hand k).map C) s : Int)) ∧ w.grownBy w' none := by
  have hvl : v < hand.length := (List.getElem?_eq_some_iff.1 hk).1
  have ihh := Lib.hid ih
  clear ih
  have hhh := Lib.hid (fun W (hW : w.grownBy W none) => hh.grown0 hW)
  obtain ⟨vs, hv1, hv2⟩ := hh
  have hkv := hv2 v k hk
  obtain ⟨Ak, ck, vk, ek, hk1, hk2⟩ := hkv.open_
  have hk1h := Lib.hid (fun W (hW : w.grownBy W none) => hk1.grown0 hW)
  have hk2h := Lib.hid (fun W (hW : w.grownBy W none) i u h => (hk2 i u h).grown0 hW)
  have hone := Lib.hid (HandV.one hk2)
  have hla := k.length_args
  have hka := hS k (List.mem_of_getElem? hk)
  have hbh := Lib.hid (fun W (hW : w.grownBy W none) => hb.grown0 hW)
  have hbl := hb.lt
  obtain ⟨g, o, rfl, _, hcl⟩ := hv1 (by omega)
  have c1 := hcl v hvl
  rw [ek] at c1
  have hgl : g < w.heap.size := World.block_lt_of_cell? w ⟨g, o + v, none⟩ c1
  clear hkv hcl hk1 hk2 hv2 hb
  have hfI : (s : Int) < (k.args.length : Int) + 2 ∨ ¬ (s : Int) < (k.args.length : Int) + 2 := Classical.em _
  rcases hfI with hfew | hfew
  all_goals
   go_enter Try.func25, Try.ntmps25
   go_wp2_with (first
     | (at_make; refine wpList_make_row _ rfl _ _ rfl _ _ (s + 1) rfl rfl (by go_num) (by go_num) (by omega) (by omega) ?_; intro w1 hr1 hg1; have q0 := hr1.cell (i := 0) (by omega); have q0f := hr1.free 0; have q0l := hr1.lt; have hg2 := gr_set hg1 (p := ⟨w.heap.size, 0, none⟩) (.inr (Nat.le_refl _)) (.int .i64 1); have c2 := (hv1.grown0 hg1).at_ hvl; rw [ek] at c2; have hgl2 := Nat.lt_of_lt_of_le hgl hg1.size; have hr2 := hr1.set 0 1; have hE : ((w1.setCell ⟨w.heap.size, 0, none⟩ (.int .i64 1)).alloc (.cells #[] 34)).ownsRow w1.heap.size 34 1 (.slice (some ⟨w1.heap.size, 0, none⟩) 0 0) 0 [] := (by have h := own_empty (w := w1.setCell ⟨w.heap.size, 0, none⟩ (.int .i64 1)) (base := w1.heap.size) 34 (by simp); simpa using h); have hgE := gr_alloc hg2 (.cells #[] 34); have hgE2 := World.grownBy_alloc (w1.setCell ⟨w.heap.size, 0, none⟩ (.int .i64 1)) (.cells #[] 34) none)
     | (at_builtin; refine wpList_app rfl _ _ 32 rfl w1.heap.size 34 (.agg #[.slice none 0 0]) 24 Try.underlying32 info_tr rfl _ _ _ _ rfl hE Ak k.args.length ck vk rfl Al (hk1h.out _ hgE) hone.out (by unfold maxLen; omega) (by omega) (by simp) ?_; intro A4 c4 w4 hown4 hg4 hat4; simp only [Nat.zero_add, List.nil_append] at hown4 ⊢; have hgn4 := gr_ownb hgE hE hg1.size hg4; have hx4 := gr_ownb hgE2 hE (by simp) hg4; have hown4b := own_keep hown4 (World.grownBy_alloc w4 (.cells #[.slice none 0 0, .slice none 0 0] 34) none); have hs4 : w1.heap.size ≤ (w4.alloc (.cells #[.slice none 0 0, .slice none 0 0] 34)).heap.size := (by have h := hx4.size; rw [World.size_alloc]; simp at h; omega))
     | (at_builtin; refine wpList_app rfl _ _ 32 rfl w1.heap.size 34 (.agg #[.slice none 0 0]) 24 Try.underlying32 info_tr rfl _ _ _ _ rfl hown4b _ 2 2 _ rfl Al (sl_two w4 34 (.slice none 0 0)) (fun _ _ => rfl) (by unfold maxLen; omega) (by omega) hs4 ?_; intro A5 c5 w5 hown5 hg5 hat5; have hgn5 := gr_ownb (gr_alloc hgn4 _) hown4b hg1.size hg5; have hx5 := gr_ownb (gr_alloc hx4 _) hown4b (by simp) hg5))
  · go_ret
    exact ⟨by rw [lev_few (by omega)]; rfl, hgn5⟩
  · have hm : k.args.length + 2 ≤ s := by omega
    have hkinds := handV_app (F := Al) (base := w1.heap.size) (hand := k.args) (more := [Ty.b, Ty.b]) (vs := vk) (us := fun _ => .slice none 0 0) (fun _ _ => trivial) (by rw [List.length_append]; exact hown5) (fun i u h => hk2h.out _ hgn5 i u h) (fun i u h => by
      rcases i with _ | _ | i
      · cases h; exact treeV_b
      · cases h; exact treeV_b
      · cases h)
    have hkinh := Lib.hid (fun W (hW : w5.grownBy W none) => hkinds.grown0 hW)
    have hps := part_small hS hka (N := s + 1) (by omega) hl (by omega)
    have hr5 := hr2.grown0 hx5
    obtain ⟨N, hN⟩ : ∃ N, N = s + 1 - (k.args.length + 2) := ⟨_, rfl⟩
    rw [← hN] at hps
    have hNI := Lib.hid (show (N : Int) = (s : Int) - ((k.args.length : Int) + 2) + 1 by omega)
    have hN1 : N + k.args.length + 1 ≤ s := by omega
    have hN2 : s ≤ N + k.args.length + 1 := by omega
    clear hN
    have hpsh := Lib.hid hps
    clear hps
    clear hown5 hown4b hown4 hE hg5 hg4 hat4 hat5 hx5 hx4 hs4 hgn4 hgE hgE2 hg2 hr2 hr1 hkinds hfew
    go_loopw [9, 11] (fun wv i wr => ∃ (j gw : Nat), j ≤ k.args.length + 2 ∧ i = .int .i64 (j : Int) ∧ wv = .slice (some ⟨gw, 0, none⟩) (s + 1) (s + 1) ∧ IRow wr gw (s + 1) (wy (((parts6 hand k).take j).map fun p => bt N (C p))) ∧ w5.grownBy wr none) (fun _ i _ => k.args.length + 2 - (intOf i).toNat)
    case atStart => exact ⟨0, _, Nat.zero_le _, rfl, rfl, hr5.congr (fun i _ => rfl), gr_refl _ _⟩
    case round =>
      obtain ⟨j, gw, hjm, rfl, rfl, hrw, hgw⟩ := hrel
      by_cases hjl : j < k.args.length + 2
      · have hjk : j < (k.args ++ [Ty.b, Ty.b]).length := by simp; omega
        have hja : (k.args ++ [Ty.b, Ty.b])[j]? = some (k.args ++ [Ty.b, Ty.b])[j] := List.getElem?_eq_getElem hjk
        obtain ⟨vs2, hS2, hT2⟩ := hkinh.out wr hgw
        have hTj := hT2 j _ hja
        obtain ⟨Aj, cj, vj, ej, _, _⟩ := hTj.open_
        obtain ⟨g5, o5, rfl, _, hcl5⟩ := hS2 (by omega)
        have cj5 := hcl5 j hjk
        rw [ej] at cj5 hTj
        have hjp : (parts6 hand k)[j]? = some (hand ++ ((k.args ++ [Ty.b, Ty.b])[j]).args) := by rw [parts6_map, List.getElem?_map, hja]; rfl
        have hpp := hS.parts hka (List.mem_of_getElem? hjp)
        have hw5w := gr_trans hgn5 hgw
        have hal := ((k.args ++ [Ty.b, Ty.b])[j]).length_args
        have haj : ((k.args ++ [Ty.b, Ty.b])[j]).atoms ≤ 15 := by
          have := List.getElem_mem hjk
          rcases List.mem_append.1 this with h | h
          · have := Ty.atoms_of_args h; omega
          · simp only [List.mem_cons, List.not_mem_nil, or_false, or_self] at h; rw [h]; decide
        have hH := Lib.hid (l3Hand_any hand _ (some ⟨g, o, none⟩) Aj ca cj Al wr (fun _ _ => trivial) (hhh.out wr hw5w) hTj (by omega) (by omega))
        have hjph := Lib.hid hjp
        have hw5 := Lib.hid hw5w
        have hrwh := Lib.hid hrw
        have hplen : (hand ++ ((k.args ++ [Ty.b, Ty.b])[j]).args).length ≤ 100 := by have := hpp.2; omega
        generalize (k.args ++ [Ty.b, Ty.b])[j] = aj at *
        generalize hand ++ aj.args = p at *
        clear hcl5 hS2 hT2 ej hja hjk hw5w hjp
        go_wp2_with fail
        refine hH.out.mono ?_
        rintro e w6 ⟨A6, c6, rfl, hh6, hg6⟩
        have hC := Lib.hid (ihh.out p A6 c6 b N w6 (by omega) (by omega) (by omega) hpp.1 (by omega) hh6 (hbh.out _ (gr_trans hw5.out hg6)))
        rw [hNI.out] at hC
        go_wp2_with fail
        refine hC.out.mono ?_
        rintro e w7 ⟨gc, rfl, hgc, hrc, hg7⟩
        go_wp2_with (at_make; refine wpList_make_row _ rfl _ _ rfl _ _ (s + 1) rfl rfl (by go_num) (by go_num) (by omega) (by omega) ?_; intro w8 hr8 hg8)
        have hrcb : IRow w7 gc (N + 1) (bt N (C p)) := hrc.congr fun i hi => by unfold bt; rw [if_pos (by omega)]
        have hb0 : bt N (C p) 0 = 0 := by unfold bt; rw [if_pos (Nat.zero_le _)]; exact C_zero p
        have hbN : ∀ J, N < J → bt N (C p) J = 0 := fun J hJ => by unfold bt; rw [if_neg (by omega)]
        have htk : wy (((parts6 hand k).take (j + 1)).map fun p => bt N (C p)) = conv (wy (((parts6 hand k).take j).map fun p => bt N (C p))) (bt N (C p)) := by
          obtain ⟨h5, h6⟩ := List.getElem?_eq_some_iff.1 hjph.out
          rw [List.take_succ_eq_append_getElem h5, List.map_append, h6]
          exact wy_snoc _ _
        have hcb : ∀ x, x ≤ s → conv (wy (((parts6 hand k).take j).map fun p => bt N (C p))) (bt N (C p)) x ≤ 100000000 := fun x hx => by
          rw [← htk]
          exact hpsh.out (j + 1) x (by omega)
        have htkh := Lib.hid htk
        have hcbh := Lib.hid hcb
        have hrw7 := (hrwh.out.grown0 hg6).grown0 hg7
        have hb7 := hbh.out _ (gr_trans (gr_trans hw5.out hg6) hg7)
        have hg57 := gr_trans (gr_trans hgw hg6) hg7
        clear hrc htk hcb hC hH hTj hh6
        generalize bt N (C p) = bb at *
        generalize hGj : wy (((parts6 hand k).take j).map fun p => bt N (C p)) = aa at *
        clear hGj
        go_loopw [14] (fun i wq => ∃ I, I ≤ s + 1 ∧ i = .int .i64 (I : Int) ∧ IRow wq w7.heap.size (s + 1) (part aa bb I) ∧ w7.grownBy wq none) (fun i _ => s + 1 - (intOf i).toNat)
        case atStart => exact ⟨0, Nat.zero_le _, rfl, hr8.congr (fun i _ => rfl), hg8⟩
        case round =>
          obtain ⟨wi, hwi⟩ : ∃ wo, wo = wr := ⟨_, rfl⟩
          subst hwi
          obtain ⟨I, hI1, rfl, hrI, hgI⟩ := hrel
          have hbI := hb7.grown0 hgI
          have f0 := hbI.cell 0
          simp only [List.getElem?_toArray, List.getElem?_cons_zero] at f0
          by_cases hIl : I ≤ s
          · go_wp2_with fail
            clear f0 hbI
            go_loopw [15] (fun n wq => ∃ J, 1 ≤ J ∧ J ≤ N + 1 ∧ I + J ≤ s + 1 ∧ n = .int .i64 (J : Int) ∧ IRow wq w7.heap.size (s + 1) (stp aa bb I J) ∧ w7.grownBy wq none) (fun n _ => s + 2 - (intOf n).toNat)
            case atStart => exact ⟨1, Nat.le_refl _, by omega, by omega, rfl, hrI.congr (fun x hx => (stp_one hb0).symm), hgI⟩
            case round =>
              obtain ⟨wj, hwj⟩ : ∃ wo, wo = wr := ⟨_, rfl⟩
              subst hwj
              obtain ⟨J, hJ1, hJN, hIJ, rfl, hrJ, hgJ⟩ := hrel
              by_cases hJl : J < N + 1 ∧ I + J ≤ s
              · have hbJ := hb7.grown0 hgJ
                have f0 := hbJ.cell 0
                have f0f := hbJ.free 0
                have f0l := hbJ.lt
                have ra := (hrw7.grown0 hgJ).cell (i := I) (by omega)
                have rb := (hrcb.grown0 hgJ).cell (i := J) hJl.1
                have rn := hrJ.cell (i := I + J) (by omega)
                have rnf := hrJ.free (I + J)
                have rnl := hrJ.lt
                simp only [List.getElem?_toArray, List.getElem?_cons_zero] at f0 rn
                have hst := stp_next aa bb I J
                have hle := stp_le aa bb I (J + 1) (I + J)
                rw [hst, if_pos rfl] at hle
                have hle2 := hcbh.out (I + J) hJl.2
                generalize hx1 : aa I = x1 at *
                generalize hx2 : bb J = x2 at *
                generalize hy : stp aa bb I J (I + J) = y at *
                have hz : y + x1 * x2 ≤ 100000000 := by omega
                have hmz : (x1 : Int) * (x2 : Int) = ((x1 * x2 : Nat) : Int) := by simp
                generalize hzz : x1 * x2 = z at *
                have hx0 : 0 < x1 ∨ ¬ 0 < x1 := by omega
                have hdv : (0 : Int) < (x1 : Int) → ¬ (1000000000 : Int) / (x1 : Int) < (x2 : Int) := fun h0 => by
                  have := Int.le_ediv_of_mul_le (a := (x2 : Int)) (b := 1000000000) h0 (by rw [Int.mul_comm, hmz]; omega)
                  omega
                have htd : (1000000000 : Int).tdiv (x1 : Int) = (1000000000 : Int) / (x1 : Int) := Int.tdiv_eq_ediv_of_nonneg (by omega)
                have hwd : IntKind.i64.wrap ((1000000000 : Int) / (x1 : Int)) = (1000000000 : Int) / (x1 : Int) := IntWalk.i64_in _ (by
                  have h1 := Int.ediv_nonneg (a := 1000000000) (b := (x1 : Int)) (by omega) (by omega)
                  have h2 := Int.ediv_le_self (a := 1000000000) (x1 : Int) (by omega)
                  omega)
                have hwz : IntKind.i64.wrap (z : Int) = (z : Int) := IntWalk.i64_in _ (by omega)
                have hwy : IntKind.i64.wrap ((y : Int) + (z : Int)) = (y : Int) + (z : Int) := IntWalk.i64_in _ (by omega)
                have hwi : IntKind.i64.wrap ((I : Int) + (J : Int)) = (I : Int) + (J : Int) := IntWalk.i64_in _ (by omega)
                have hI2 : (I : Int) < (s : Int) + 1 := by omega
                have hJ2 : (J : Int) < (N : Int) + 1 := by omega
                have hIJ2 : (I : Int) + (J : Int) < (s : Int) + 1 := by omega
                have hdv2 : 0 < x1 → ¬ (1000000000 : Int) / (x1 : Int) < (x2 : Int) := fun h => hdv (by omega)
                have hx1n : 0 < x1 → ¬ x1 = 0 := fun h => by omega
                clear hdv
                rcases hx0 with hx0 | hx0
                all_goals
                  simp only [hx0, true_implies, false_implies] at hdv2 hx1n
                  go_wp2_with fail
                  go_quiet (fail)
                  have hgk : w7.grownBy (wj.drewN nq) none := gr_drewN hgJ nq
                  have hrk : IRow (wj.drewN nq) w7.heap.size (s + 1) (stp aa bb I J) := hrJ
                  generalize wj.drewN nq = wk at *
                  clear ra rb rn rnf rnl f0 f0f f0l hbJ
                  have hbk := hb7.grown0 hgk
                  have f0 := hbk.cell 0
                  have f0f := hbk.free 0
                  have f0l := hbk.lt
                  have ra := (hrw7.grown0 hgk).cell (i := I) (by omega)
                  have rb := (hrcb.grown0 hgk).cell (i := J) hJl.1
                  have rn := hrk.cell (i := I + J) (by omega)
                  have rnf := hrk.free (I + J)
                  have rnl := hrk.lt
                  rw [hx1] at ra
                  rw [hx2] at rb
                  rw [hy] at rn
                  simp only [List.getElem?_toArray, List.getElem?_cons_zero] at f0
                  have hwi2 : 0 ≤ (I : Int) + (J : Int) := by omega
                  go_wp2_with fail
                  have hbl7 := hb7.lt
                  have hyz : ¬ (1000000000 : Int) < (y : Int) + (z : Int) := by omega
                  have hset := hrk.set (I + J) (y + z)
                  rw [Int.natCast_add] at hset
                  have hsc := hset.congr (f' := stp aa bb I (J + 1)) (fun x _ => by
                    rw [hst x]
                    unfold upd
                    by_cases e : x = I + J
                    · rw [if_pos e, if_pos e, e, hy]
                    · rw [if_neg e, if_neg e])
                  have hX : Blk (wk.setCell ⟨w7.heap.size, I + J, none⟩ (.int .i64 ((y : Int) + (z : Int)))) b 39 #[.bool false] := hbk.other (by show b ≠ w7.heap.size; omega) _
                  have hgX := gr_set hgk (p := ⟨w7.heap.size, I + J, none⟩) (.inr (Nat.le_refl _)) (.int .i64 ((y : Int) + (z : Int)))
                  have hsch := Lib.hid hsc
                  have hXh := Lib.hid hX
                  have hgXh := Lib.hid hgX
                  clear hset hsc hX hgX
                  go_region
                  go_wp2_with fail
                  go_roundw
                  case rel => exact ⟨J + 1, by omega, by omega, by omega, by go_num, (show IRow ((wk.setCell ⟨w7.heap.size, I + J, none⟩ (.int .i64 ((y : Int) + (z : Int)))).setCell ⟨b, 0, none⟩ (.bool false)) _ _ _ by rw [set_one hXh.out]; exact hsch.out), gr_drew (by rw [set_one hXh.out]; exact hgXh.out)⟩
                  case measure => simp [intOf]; omega
              · have hst : ∀ x, x < s + 1 → stp aa bb I J x = part aa bb (I + 1) x := fun x hx => stp_done fun j hj1 hj2 => hbN j (by omega)
                have hrJ2 := Lib.hid (hrJ.congr hst)
                have hJl2 : ¬ (J : Int) < (N : Int) + 1 ∨ ((J : Int) < (N : Int) + 1 ∧ ¬ (I : Int) + (J : Int) ≤ (s : Int)) := by omega
                rcases hJl2 with hJl2 | ⟨hJl2, hJl3⟩
                all_goals
                  go_wp2_with fail
                  go_roundw
                  case rel => exact ⟨I + 1, by omega, by go_num, hrJ2.out, hgJ⟩
                  case measure => simp [intOf]; omega
          · obtain rfl : I = s + 1 := by omega
            have hrE := Lib.hid (hrI.congr (f' := wy (((parts6 hand k).take (j + 1)).map fun p => bt N (C p))) (fun x hx => by rw [htkh.out]; exact part_conv hx))
            go_wp2_with fail
            go_roundw
            case rel => exact ⟨j + 1, w7.heap.size, by omega, by go_num, rfl, hrE.out, gr_trans hg57 hgI⟩
            case measure => simp [intOf]; omega
      · obtain rfl : j = k.args.length + 2 := by omega
        have hcw := hrw.cell (i := s) (by omega)
        have hfin := Lib.hid (show wy (((parts6 hand k).take (k.args.length + 2)).map fun p => bt N (C p)) s = wy ((parts6 hand k).map C) s by
          rw [List.take_of_length_le (by rw [parts6_len]; exact Nat.le_refl _)]
          exact lev_eq (M := N) (by omega))
        generalize wy (((parts6 hand k).take (k.args.length + 2)).map fun p => bt N (C p)) s = z at *
        go_wp2_with fail
        go_ret
        exact ⟨ret_int (by rw [hfin.out]), gr_trans hgn5 hgw⟩
end Go.Proofs.Ytlehnlfgjadleaa
