/- The program's partsOf. -/
import Derived.Test.YtlehnlfgjadleaaConc
import Derived.Test.YtlehnlfgjadleaaCnt
import Derived.Test.YtlehnlfgjadleaaHandS
import Derived.Deep.RegionLaw
namespace Go.Proofs.Ytlehnlfgjadleaa
open Go.RowKit

/-- A list of rows of types, behind pointers. -/
def PartsP (w : World) (F : Nat → Prop) (A : Option Addr) (ps : List (List Ty)) : Prop :=
  ∃ (As : Nat → Option Addr) (cs ns : Nat → Nat), Sl w F A ps.length (fun i => .slice (As i) (ns i) (cs i)) ∧ ∀ i p, ps[i]? = some p → ns i = p.length ∧ HandP w F (As i) p
theorem info_row : (Try.prog.info? 47).map (fun i => (i.zero, i.size, i.bytes)) = some (some (.slice none 0 0), 1, 24) := by kernel_rfl
/-- Blocks of F, but one row's. -/
def GOf (F : Nat → Prop) (v : Value) : Nat → Prop := fun b => F b ∧ v.ownBlock ≠ some b
theorem handP_push {w7 w8 : World} {F : Nat → Prop} {v v' : Value} {A : Option Addr} {p : List Ty} (h : HandP w7 (GOf F v) A p) (hg : w7.grownBy w8 v.ownBlock) (hat : v'.ownBlock = v.ownBlock ∨ v'.ownBlock = some w7.heap.size) : HandP w8 (GOf F v') A p := by
  have h1 : HandP w7 (fun b => GOf F v b ∧ GOf F v' b) A p := h.mono fun b hb hl => ⟨hb, hb.1, fun e => by
    rcases hat with h2 | h2
    · exact hb.2 (h2.symm.trans e)
    · rw [h2] at e; cases e; omega⟩
  exact (h1.keep fun b hb hl => hg.block b hl (fun e => hb.1.2 e.symm)).mono fun b hb _ => hb.2
theorem sl_pair (w : World) (e : TypeId) (v : Value) : Sl (w.alloc (.cells #[v, v] e)) Al (some ⟨w.heap.size, 0, none⟩) 2 (fun _ => v) := fun _ =>
  ⟨w.heap.size, 0, rfl, trivial, fun i hi => by
    rw [Nat.zero_add, (Blk.new w e #[v, v]).cell]
    rcases i with _ | _ | i
    · rfl
    · rfl
    · omega⟩
theorem own_lt {w : World} {base : Nat} {e : TypeId} {v : Value} {n : Nat} {xs : List Value} (h : w.ownsRow base e 1 v n xs) {g : Nat} (hg : v.ownBlock = some g) : g < w.heap.size := (h.lt g hg).2
/-- The loop of partsOf. -/
structure PL (w wr : World) (F : Nat → Prop) (hand : List Ty) (k : Ty) (A' : Option Addr) (cap j : Nat) (As : Nat → Option Addr) (cs ns : Nat → Nat) : Prop where
  gr : w.grownBy wr none
  own : wr.ownsRow w.heap.size 47 1 (.slice A' j cap) j ((List.range j).map fun i => .slice (As i) (ns i) (cs i))
  el : ∀ i a, i < j → k.args[i]? = some a → ns i = (hand ++ a.args).length ∧ HandP wr (GOf F (.slice A' j cap)) (As i) (hand ++ a.args)
set_option maxRecDepth 100000 in
set_option maxHeartbeats 4000000 in
theorem partsOf_any (hand : List Ty) (k : Ty) (A : Option Addr) (ca q : Nat) (F : Nat → Prop) (w : World) (hF : ∀ b, w.heap.size ≤ b → F b) (hh : HandP w F A hand) (hk : KindP w F q k) (h0 : 0 < hand.length) (hl : hand.length ≤ 1000) (hka : k.atoms ≤ 15) :
    Calls Try.prog 30 #[.slice A hand.length ca, .pointer (some ⟨q, 0, none⟩)] w fun e w' =>
      ∃ A' c', e = .returned (.slice A' (k.args.length + 2) c') ∧ PartsP w' F A' (parts6 hand k) ∧ w.grownBy w' none := by
  obtain ⟨Ak, ck, qs, hblk, hA, hs⟩ := hk.open_
  have hqb := Lib.hid (fun (W : World) (hW : w.grownBy W none) => hblk.grown0 hW)
  have hkid := Lib.hid (fun i u (hi : k.args[i]? = some u) => HandP.of_kind (hs i u hi))
  have hAh := Lib.hid (fun (W : World) (hW : w.grownBy W none) => hA.grown0 hW)
  have c0 := hblk.cell 0
  have c0l := hblk.lt
  simp only [List.getElem?_toArray, List.getElem?_cons_zero] at c0
  have hla := k.length_args
  clear hblk hA hs hk
  go_enter Try.func30, Try.ntmps30
  go_wp2_with fail
  go_loopw [5, 13] (fun o i wr => ∃ (j : Nat) (A' : Option Addr) (cap : Nat) (As : Nat → Option Addr) (cs ns : Nat → Nat), j ≤ k.args.length ∧ i = .int .i64 (j : Int) ∧ o = .slice A' j cap ∧ PL w wr F hand k A' cap j As cs ns) (fun _ i _ => k.args.length - (intOf i).toNat)
  case atStart => exact ⟨0, none, 0, fun _ => none, fun _ => 0, fun _ => 0, Nat.zero_le _, rfl, rfl, ⟨gr_refl _ _, ⟨rfl, .inl ⟨rfl, rfl⟩⟩, fun i a hi => by omega⟩⟩
  case round =>
    obtain ⟨j, A', cap, As, cs, ns, hjk, rfl, rfl, hP⟩ := hrel
    have hgw := hP.gr
    have hPh := Lib.hid hP
    have hown := hP.own
    by_cases hjl : j < k.args.length
    · have haj : k.args[j]? = some k.args[j] := List.getElem?_eq_getElem hjl
      obtain ⟨gA, oA, rfl, _, hcA⟩ := (hAh.out wr hgw) (by omega)
      have cj := hcA j hjl
      obtain ⟨Aj, cj2, hbj, hTj⟩ := hkid.out j _ haj
      have haa := Ty.atoms_of_args (List.getElem_mem hjl)
      have hajl := (k.args[j]).length_args
      have hlw : ∀ {B : Option Addr} {p : List Ty}, HandP w F B p → HandP wr (GOf F (.slice A' j cap)) B p := fun h =>
        ((h.mono (G := fun b => F b ∧ b < w.heap.size) (fun b h1 h2 => ⟨h1, h2⟩)).grown0 hgw).mono fun b hb _ => ⟨hb.1, fun e => by have := own_base hown e; have := hb.2; omega⟩
      have hG1 := hlw hh
      have hG2 := hlw hTj
      have hbj2 := hbj.grown0 hgw
      have b0 := hbj2.cell 0
      have b0l := hbj2.lt
      simp only [List.getElem?_toArray, List.getElem?_cons_zero] at b0
      have hcl : (hand ++ (k.args[j]).args).length = hand.length + (k.args[j]).args.length := List.length_append
      have hcon := Lib.hid (concat_any hand (k.args[j]).args A Aj ca cj2 wr.heap.size (GOf F (.slice A' j cap)) (wr.alloc (.cells #[.slice A hand.length ca, .slice Aj (k.args[j]).args.length cj2] 47)) (fun b hb => ⟨hF b (by have := hgw.size; rw [World.size_alloc] at hb; omega), fun e => by have := (own_lt hown e); rw [World.size_alloc] at hb; omega⟩) (hG1.grown0 (World.grownBy_alloc _ _ none)) (hG2.grown0 (World.grownBy_alloc _ _ none)) h0 (by omega) (by omega) (Blk.new _ _ _))
      have hga := World.grownBy_alloc wr (.cells #[.slice A hand.length ca, .slice Aj (k.args[j]).args.length cj2] 47) none
      have hpl : (hand ++ (k.args[j]).args).length ≤ 2000 := by omega
      have hajh := Lib.hid haj
      clear hlw hG1 hG2 hTj hbj hbj2 hcA hown hcl haj
      generalize k.args[j] = a at *
      generalize hpp : hand ++ a.args = p at *
      have hpph := Lib.hid hpp
      clear hpp
      go_wp2_with fail
      refine hcon.out.mono ?_
      rintro e w6 ⟨A6, c6, rfl, hp6, hg6⟩
      have hg06 := gr_trans hga hg6
      have hown6 := own_keep (own_keep hPh.out.own hg06) (World.grownBy_alloc w6 (.cells #[.slice A6 p.length c6] 47) none)
      have hs6 : w.heap.size ≤ (w6.alloc (.cells #[.slice A6 p.length c6] 47)).heap.size := by have h1 := hgw.size; have h2 := hg06.size; rw [World.size_alloc]; omega
      go_wp2_with (at_builtin; refine wpList_app rfl _ _ 71 rfl w.heap.size 47 (.slice none 0 0) 24 Try.underlying71 info_row rfl _ _ _ _ rfl hown6 _ 1 1 _ rfl _ (sl_one w6 47 (.slice A6 p.length c6)) (fun _ _ => rfl) (by unfold maxLen; omega) (by omega) hs6 ?_; intro A8 c8 w8 hown8 hg8 hat8)
      have hga6 := World.grownBy_alloc w6 (.cells #[.slice A6 p.length c6] 47) none
      have hPN := Lib.hid (show PL w w8 F hand k A8 c8 (j + 1) (fun i => if i = j then A6 else As i) (fun i => if i = j then c6 else cs i) (fun i => if i = j then p.length else ns i) from by
        refine ⟨gr_ownb (gr_trans (gr_trans hgw hg06) hga6) hown6 (Nat.le_refl _) hg8, ?_, ?_⟩
        · have e : (List.range (j + 1)).map (fun i => Value.slice (if i = j then A6 else As i) (if i = j then p.length else ns i) (if i = j then c6 else cs i)) = (List.range j).map (fun i => Value.slice (As i) (ns i) (cs i)) ++ (List.range 1).map (fun _ => Value.slice A6 p.length c6) := by
            rw [List.range_succ, List.map_append]
            congr 1
            · exact List.map_congr_left fun i hi => by have : i < j := by simpa using hi
                                                       rw [if_neg (by omega), if_neg (by omega), if_neg (by omega)]
            · simp
          rw [e]
          exact hown8
        · intro i u hi hb
          by_cases hij : i = j
          · subst hij
            have : u = a := by rw [hajh.out] at hb; exact (Option.some.inj hb).symm
            subst this
            simp only [if_true]
            rw [hpph.out]
            exact ⟨rfl, handP_push (hp6.grown0 hga6) hg8 hat8⟩
          · simp only [if_neg hij]
            obtain ⟨h1, h2⟩ := hPh.out.el i u (by omega) hb
            exact ⟨h1, handP_push ((h2.grown0 hg06).grown0 hga6) hg8 hat8⟩)
      go_roundw
      case rel => exact ⟨j + 1, A8, c8, _, _, _, by omega, by go_num, rfl, hPN.out⟩
      case measure => simp [intOf]; omega
    · obtain rfl : j = k.args.length := by omega
      have hownb := own_keep hown (World.grownBy_alloc wr (.cells #[.slice A hand.length ca, .slice A hand.length ca] 47) none)
      have hs6 : w.heap.size ≤ (wr.alloc (.cells #[.slice A hand.length ca, .slice A hand.length ca] 47)).heap.size := by have h1 := hgw.size; rw [World.size_alloc]; omega
      have hG1 : HandP wr (GOf F (.slice A' k.args.length cap)) A hand := ((hh.mono (G := fun b => F b ∧ b < w.heap.size) (fun b h1 h2 => ⟨h1, h2⟩)).grown0 hgw).mono fun b hb _ => ⟨hb.1, fun e => by have := own_base hown e; have := hb.2; omega⟩
      go_wp2_with (at_builtin; refine wpList_app rfl _ _ 71 rfl w.heap.size 47 (.slice none 0 0) 24 Try.underlying71 info_row rfl _ _ _ _ rfl hownb _ 2 2 _ rfl _ (sl_pair wr 47 (.slice A hand.length ca)) (fun _ _ => rfl) (by unfold maxLen; omega) (by omega) hs6 ?_; intro A8 c8 w8 hown8 hg8 hat8)
      go_ret
      have hga6 := World.grownBy_alloc wr (.cells #[.slice A hand.length ca, .slice A hand.length ca] 47) none
      refine ⟨A8, c8, rfl, ⟨fun i => if i < k.args.length then As i else A, fun i => if i < k.args.length then cs i else ca, fun i => if i < k.args.length then ns i else hand.length, ?_, ?_⟩, gr_ownb (gr_trans hgw hga6) hownb (Nat.le_refl _) hg8⟩
      · obtain ⟨A9, c9, e, hs9⟩ := own_form hown8
        cases e
        have hs := hs9 F (fun g hg => hF g (own_base hown8 hg))
        rw [parts6_len]
        intro h00
        obtain ⟨g, o, e, hg, hc⟩ := hs h00
        refine ⟨g, o, e, hg, fun i hi => ?_⟩
        rw [hc i hi]
        by_cases h2 : i < k.args.length
        · simp [List.getD, h2, List.getElem?_append_left]
        · have hl3 : i - k.args.length < 2 := by omega
          simp [List.getD, List.getElem?_append_right (show ((List.range k.args.length).map (fun i => Value.slice (As i) (ns i) (cs i))).length ≤ i by simp; omega), h2, hl3]
      · intro i p hi
        have hlast := (handP_push (hG1.grown0 hga6) hg8 hat8).mono (G := F) (fun b hb _ => hb.1)
        unfold parts6 at hi
        by_cases h2 : i < k.args.length
        · rw [List.getElem?_append_left (by simpa using h2), List.getElem?_map] at hi
          obtain ⟨a, ha, rfl⟩ := Option.map_eq_some_iff.1 hi
          simp only [if_pos h2]
          obtain ⟨h3, h4⟩ := hPh.out.el i a h2 ha
          exact ⟨h3, (handP_push (h4.grown0 hga6) hg8 hat8).mono (fun b hb _ => hb.1)⟩
        · rw [List.getElem?_append_right (by simp; omega), List.length_map] at hi
          simp only [if_neg h2]
          generalize i - k.args.length = x at hi
          match x, hi with
          | 0, hi => cases hi; exact ⟨rfl, hlast⟩
          | 1, hi => cases hi; exact ⟨rfl, hlast⟩
          | x + 2, hi => simp at hi
end Go.Proofs.Ytlehnlfgjadleaa
