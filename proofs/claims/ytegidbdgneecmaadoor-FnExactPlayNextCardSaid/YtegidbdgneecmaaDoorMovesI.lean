/- All moves of a type: the program's. -/
import Derived.Test.YtegidbdgneecmaaDoorItoa
import Derived.Test.YtegidbdgneecmaaDoorMovesL
namespace Go.Proofs.YtegidbdgneecmaaDoor
open Go.RowKit

set_option maxRecDepth 100000 in
set_option maxHeartbeats 4000000 in
theorem moves_any (m : Nat) : ∀ (t : Ty) (q : Nat) (F : Nat → Prop) (path : List UInt8) (w : World), t.atoms ≤ m → t.atoms ≤ 15 → path.length + t.atoms ≤ 100 → KindP w F q t →
    Calls Tryd.prog 45 #[.pointer (some ⟨q, 0, none⟩), .string ⟨path.toArray⟩] w fun e w' => ∃ A' c', e = .returned (.slice A' (movesT t path).length c') ∧ w'.ownsRow w.heap.size 9 1 (.slice A' (movesT t path).length c') (movesT t path).length ((movesT t path).map strv) ∧ w.grownBy w' none := by
  induction m with
  | zero => intro t q F path w h; have := t.atoms_pos; omega
  | succ m ih =>
    intro t q F path w hm h15 hpath hk
    have ihh := Lib.hid ih
    clear ih
    obtain ⟨A, cp, qs, hblk, hA, hs⟩ := hk.open_
    have hc := hblk.cell 0
    simp only [List.getElem?_toArray, List.getElem?_cons_zero] at hc
    have hsh := Lib.hid hs
    have hla := t.length_args
    have hat := Lib.hid (fun u (h : u ∈ t.args) => Ty.atoms_of_args h)
    have hmt := Lib.hid (movesT_args t path)
    have hcnt := Lib.hid (fun u p => movesT_length u p)
    have hblkh := Lib.hid hblk
    clear hs hk hblk
    have e113 : (⟨#[113]⟩ : ByteArray) ++ ⟨path.toArray⟩ = ⟨(113 :: path).toArray⟩ := ba_app [113] path
    have e116 : (⟨#[116]⟩ : ByteArray) ++ ⟨path.toArray⟩ = ⟨(116 :: path).toArray⟩ := ba_app [116] path
    have e102 : (⟨#[102]⟩ : ByteArray) ++ ⟨path.toArray⟩ = ⟨(102 :: path).toArray⟩ := ba_app [102] path
    have hg0 := World.grownBy_alloc w (.cells #[.string ⟨(113 :: path).toArray⟩, .string ⟨(116 :: path).toArray⟩, .string ⟨(102 :: path).toArray⟩] 9) none
    have hown0 : (w.alloc (.cells #[.string ⟨(113 :: path).toArray⟩, .string ⟨(116 :: path).toArray⟩, .string ⟨(102 :: path).toArray⟩] 9)).ownsRow w.heap.size 9 1 (.slice (some ⟨w.heap.size, 0, none⟩) (hds path).length 3) (hds path).length ((hds path).map strv) :=
      ⟨rfl, .inr ⟨w.heap.size, 3, _, rfl, Nat.le_refl _, heap_alloc_new w _, Nat.le_refl _, by unfold maxLen; omega, rfl, rfl⟩⟩
    have hc1 := (hblkh.out.grown0 hg0).cell 0
    simp only [List.getElem?_toArray, List.getElem?_cons_zero] at hc1
    clear hc
    go_enter Tryd.func45, Tryd.ntmps45
    go_wp2_with fail
    clear hc1
    clear e113 e116 e102
    generalize hW0 : w.alloc (.cells #[.string ⟨(113 :: path).toArray⟩, .string ⟨(116 :: path).toArray⟩, .string ⟨(102 :: path).toArray⟩] 9) = w0 at *
    clear hW0
    go_loopw [5, 20] (fun l i wr => ∃ (k : Nat) (A' : Option Addr) (c' : Nat), k ≤ t.args.length ∧ i = .int .i64 (k : Int) ∧ l = .slice A' (hds path ++ movesR (t.args.take k) path 0).length c' ∧
      wr.ownsRow w.heap.size 9 1 (.slice A' (hds path ++ movesR (t.args.take k) path 0).length c') (hds path ++ movesR (t.args.take k) path 0).length ((hds path ++ movesR (t.args.take k) path 0).map strv) ∧ w.grownBy wr none ∧ (hds path ++ movesR (t.args.take k) path 0).length ≤ 3 + 100 * k) (fun _ i _ => t.args.length - (intOf i).toNat)
    case atStart => exact ⟨0, some ⟨w.heap.size, 0, none⟩, 3, Nat.zero_le _, rfl, rfl, hown0, hg0, by simp [movesR, hds]⟩
    case round =>
      obtain ⟨k, A2, c2, hkl, rfl, rfl, hown3, hgw, hlen⟩ := hrel
      have hsz := hgw.size
      by_cases hlt : k < t.args.length
      · have hkk : t.args[k]? = some t.args[k] := List.getElem?_eq_getElem hlt
        obtain ⟨g, o, rfl, _, hcell⟩ := (hA.grown0 hgw) (by omega)
        have hck := hcell k hlt
        have hch := (hsh.out k _ hkk).grown0 hgw
        have hba := hat.out t.args[k] (List.getElem_mem hlt)
        have hal3 := t.args[k].length_args
        have hk10 : k < 10 := by omega
        have hsn := Lib.hid (Ty.take_snoc hkk)
        have hstep := Lib.hid (show hds path ++ movesR (t.args.take (k + 1)) path 0 = (hds path ++ movesR (t.args.take k) path 0) ++ movesT t.args[k] (path ++ [dgt k]) by
          rw [hsn.out, movesR_snoc, List.append_assoc, List.length_take, Nat.min_eq_left (by omega), Nat.zero_add])
        have hcn := hcnt.out t.args[k] (path ++ [dgt k])
        have hca := count_atoms t.args[k]
        have hLb : (movesT t.args[k] (path ++ [dgt k])).length ≤ 30 := by omega
        clear hcn hca
        have eP : (⟨path.toArray⟩ : ByteArray) ++ ⟨#[dgt k]⟩ = ⟨(path ++ [dgt k]).toArray⟩ := ba_app path [dgt k]
        have hI := itoa_any k (by omega) wr
        rw [dec_lt hk10] at hI
        have hIh := Lib.hid hI
        have hk0 : 0 ≤ (k : Int) := by omega
        have hpl : ¬ 9223372036854775807 < path.length + 1 := by omega
        have hC := Lib.hid (ihh.out t.args[k] (qs k) _ (path ++ [dgt k]) wr (by omega) (by omega) (by rw [List.length_append, List.length_singleton]; omega) hch)
        clear hcell hkk hI hch
        generalize hzz : hds path ++ movesR (t.args.take k) path 0 = zs at *
        clear hzz
        go_wp2_with fail
        refine hIh.out.mono ?_
        rintro e w' ⟨rfl, rfl⟩
        go_wp2_with fail
        refine hC.out.mono ?_
        rintro e w5 ⟨A5, c5, rfl, hown5, hg5⟩
        have hownZ := own_keep hown3 hg5
        have hsl5 := (own_sl hown5).1
        have hb5 : w.heap.size ≤ w5.heap.size := Nat.le_trans hsz hg5.size
        have hr5 := Lib.hid (range_sv (movesT t.args[k] (path ++ [dgt k])))
        clear hC hIh eP hck
        generalize movesT t.args[k] (path ++ [dgt k]) = L at *
        go_wp2_with (at_builtin; refine wpList_app rfl _ _ 22 rfl w.heap.size 9 (.string ⟨#[]⟩) 16 Tryd.underlying22 info_str rfl _ _ _ _ rfl hownZ _ L.length c5 _ rfl _ hsl5 (fun _ _ => rfl) (by unfold maxLen; omega) (by omega) hb5 ?_; intro A6 c6 w6 hown6 hg6 hat6)
        go_roundw
        case rel =>
          rw [hr5.out, ← List.map_append] at hown6
          refine ⟨k + 1, A6, c6, by omega, by go_num, ?_⟩
          rw [hstep.out]
          refine ⟨by rw [List.length_append], ?_, gr_own (gr_trans hgw hg5) hownZ hg6, by rw [List.length_append]; omega⟩
          rw [List.length_append]
          exact hown6
        case measure => simp [intOf]; omega
      · obtain rfl : k = t.args.length := by omega
        rw [List.take_length] at hown3 hlen ⊢
        have hEnd := Lib.hid (show hds path ++ movesR t.args path 0 = movesT t path by rw [hmt.out])
        go_wp2_with fail
        go_ret
        rw [← hEnd.out]
        exact ⟨A2, c2, rfl, hown3, hgw⟩
end Go.Proofs.YtegidbdgneecmaaDoor
