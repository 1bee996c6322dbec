/- The closure that reads a part of a body. -/
import Derived.Test.YtlehnlfgjadleaaDoorBod
import Derived.Deep.QuietTactic
import Derived.BigQuiet
import Derived.Deep.RegionHeld3
import Derived.Deep.DrawnRows
namespace Go.Proofs.YtlehnlfgjadleaaDoor
open Go.RowKit

/-- What reading gives: nil, or a new body; the scanner stands behind it. -/
def IVal (p : Nat) (w : World) (x : Option (Bo × List UInt8 × Nat)) (v : Value) (w' : World) : Prop := match x with
  | none => v = .pointer none
  | some (b, r, n') => ∃ q, v = .pointer (some ⟨q, 0, none⟩) ∧ ScanG w' p 87 [.int .i64 (n' : Int)] r ∧ BodyP w' (Fr w.heap.size) q b
def IRes (p : Nat) (w : World) (x : Option (Bo × List UInt8 × Nat)) (e : Ending) (w' : World) : Prop :=
  ∃ v, e = .returned v ∧ w.grownBy w' (some p) ∧ IVal p w x v w'
theorem IRes.no {p : Nat} {w w' : World} {x : Option (Bo × List UInt8 × Nat)} (hx : x = none) (hg : w.grownBy w' (some p)) : IRes p w x (.returned (.pointer none)) w' := by
  subst hx
  exact ⟨_, rfl, hg, rfl⟩
def IBIH (d : Nat) : Prop := ∀ (hand : List Ty) (A : Option Addr) (ca p : Nat) (l : List UInt8) (n N : Nat) (w : World) (lo : Nat), ScanG w p 87 [.int .i64 (n : Int)] l → l.length ≤ 2000000 → HandP w (Ne p) A hand →
  HandOk hand N → N + 15 * d ≤ 9999 → n ≤ 1000 → LaidW w lo → lo ≤ p →
  Calls Tryd.prog 46 #[.pointer (some ⟨p, 0, none⟩), .slice A hand.length ca, .int .i64 (d : Int)] w (IRes p w (ibody d n hand l))
theorem IVal.later {p : Nat} {w w1 w' : World} {x : Option (Bo × List UInt8 × Nat)} {v : Value} (h : IVal p w1 x v w') (hg : w.heap.size ≤ w1.heap.size) : IVal p w x v w' := by
  cases x with
  | none => exact h
  | some y =>
    obtain ⟨b, r, n'⟩ := y
    obtain ⟨q, h3, h4, h5⟩ := h
    exact ⟨q, h3, h4, h5.fr hg⟩
set_option maxRecDepth 100000 in
set_option maxHeartbeats 2000000 in
theorem part_any (d : Nat) (ih : IBIH d) (hand more : List Ty) (A B : Option Addr) (ca cb p b1 b2 b3 : Nat) (l : List UInt8) (n N : Nat) (w : World) (lo : Nat) (hs : ScanG w p 87 [.int .i64 (n : Int)] l) (hl : l.length ≤ 2000000)
    (hh : HandP w (Ne p) A hand) (hm : HandP w (Ne p) B more) (h0 : 0 < hand.length) (hk : HandOk (hand ++ more) N) (hN : N + 15 * d ≤ 9999) (hn : n ≤ 1000) (hL : LaidW w lo) (hlo : lo ≤ p)
    (hb1 : Blk w b1 85 #[.pointer (some ⟨p, 0, none⟩)]) (hb2 : Blk w b2 59 #[.slice A hand.length ca]) (hb3 : Blk w b3 3 #[.int .i64 ((d : Int) + 1)])
    (h1p : b1 ≠ p) (h2p : b2 ≠ p) (h3p : b3 ≠ p) :
    Calls Tryd.prog 53 #[.slice B more.length cb, .pointer (some ⟨b1, 0, none⟩), .pointer (some ⟨b2, 0, none⟩), .pointer (some ⟨b3, 0, none⟩)] w (IRes p w (if pre [32] l then ibody d n (hand ++ more) (cut [32] l) else none)) := by
  have x1 := hb1.cell 0
  have y1 := hb1.lt
  simp only [List.getElem?_toArray, List.getElem?_cons_zero] at x1
  have hT := Lib.hid (takeG_any p 87 [.int .i64 (n : Int)] l [32] w hs (by omega) (by simp))
  generalize hX : (if pre [32] l then ibody d n (hand ++ more) (cut [32] l) else none) = X
  have hX := Lib.hid hX
  go_enter Tryd.func53, Tryd.ntmps53
  go_wp2_with fail
  refine hT.out.mono ?_
  rintro e w1 ⟨rfl, hs1, hg1⟩
  clear hT
  cases hp : pre [32] l with
  | false =>
    have hI := Lib.hid (show IRes p w X (.returned (.pointer none)) w1 from .no (by rw [← hX.out, hp]; rfl) hg1)
    clear hX
    go_wp2_with fail
    go_ret
    exact hI.out
  | true =>
    have hl1 : (cut [32] l).length ≤ l.length := pre_length
    have hX := hX.out
    rw [hp, if_pos rfl] at hX
    generalize cut [32] l = l1 at *
    subst hX
    have hlen : hand.length + more.length ≤ N := by have := hk.1; rw [List.length_append] at this; exact this
    have hC := Lib.hid (fun (W : World) (hW : w1.grownBy W none) (hB : Blk W w1.heap.size 59 #[.slice A hand.length ca, .slice B more.length cb]) =>
      concat_any hand more A B ca cb w1.heap.size (Ne p) W (fun b hb => by have := hs1.lt; have := hW.size; unfold Ne; omega) ((hh.grown hg1).grown0 hW) ((hm.grown hg1).grown0 hW) h0 (by omega) (by omega) hB)
    have hI := Lib.hid (fun (W : World) (A' : Option Addr) (c' : Nat) (hW : w1.grownBy W none) (hH : HandP W (Ne p) A' (hand ++ more)) => ih (hand ++ more) A' c' p l1 n N W lo (hs1.grown0 hW) (by omega) hH hk hN hn ((hL.grown hg1 hlo).grown0 hW) hlo)
    have hkp := Lib.hid (fun (W : World) (hW : w1.grownBy W (some p)) => show W.cell? ⟨b1, 0, none⟩ = some (.pointer (some ⟨p, 0, none⟩)) ∧ W.cell? ⟨b2, 0, none⟩ = some (.slice A hand.length ca) ∧ W.cell? ⟨b3, 0, none⟩ = some (.int .i64 ((d : Int) + 1)) from
      ⟨((hb1.grown hg1 (by intro e; cases e; exact h1p rfl)).grown hW (by intro e; cases e; exact h1p rfl)).cell 0, ((hb2.grown hg1 (by intro e; cases e; exact h2p rfl)).grown hW (by intro e; cases e; exact h2p rfl)).cell 0, ((hb3.grown hg1 (by intro e; cases e; exact h3p rfl)).grown hW (by intro e; cases e; exact h3p rfl)).cell 0⟩)
    obtain ⟨z1, z2, z3⟩ := hkp.out w1 (gr_refl _ _)
    have hg1h := Lib.hid hg1
    clear hb1 hb2 hb3 hh hm hs hs1 hL ih hg1 x1
    generalize hand ++ more = H at *
    go_wp2_with fail
    have hwd : IntKind.i64.wrap (d : Int) = (d : Int) := IntWalk.i64_in _ (by omega)
    have hga := World.grownBy_alloc w1 (.cells #[.slice A hand.length ca, .slice B more.length cb] 59) none
    have hgx := gr_drew hga
    have hgd := gr_drew (gr_refl w1 none)
    have hBx := (Blk.new w1 59 #[.slice A hand.length ca, .slice B more.length cb]).grown0 (gr_drew (gr_refl _ none))
    go_region_held3 (fun W => W.cell? ⟨b1, 0, none⟩ = some (.pointer (some ⟨p, 0, none⟩)) ∧ W.cell? ⟨b2, 0, none⟩ = some (.slice A hand.length ca) ∧ W.cell? ⟨b3, 0, none⟩ = some (.int .i64 ((d : Int) + 1)))
      (first | exact hkp.out _ (gr_trans (gr_weak (gr_trans hgx hg2) _) hg3) | exact hkp.out _ (gr_weak (gr_trans hgx hg2) _) | exact hkp.out _ (gr_weak hgx _) | exact hkp.out _ (gr_weak hga _) | exact hkp.out _ (gr_weak hgd _) | go_keep)
      (first
        | (go_at_call 46; refine (hI.out _ _ _ (gr_trans hgx hg2) hH2).mono ?_; rintro e w3 ⟨v3, rfl, hg3, hv3⟩)
        | (go_at_call 54; refine (hC.out _ hgx hBx).mono ?_; rintro e w2 ⟨A2, c2, rfl, hH2, hg2⟩))
    go_wp2_with fail
    go_ret
    have hgw := gr_trans (gr_weak (gr_trans hgx hg2) (some p)) hg3
    exact ⟨_, rfl, gr_trans hg1h.out hgw, hv3.later (gr_trans (gr_trans hg1h.out (gr_weak hgx _)) (gr_weak hg2 _)).size⟩
theorem part_nil (d : Nat) (ih : IBIH d) (hand : List Ty) (A : Option Addr) (ca p b1 b2 b3 : Nat) (l : List UInt8) (n N : Nat) (w : World) (lo : Nat) (hs : ScanG w p 87 [.int .i64 (n : Int)] l) (hl : l.length ≤ 2000000)
    (hh : HandP w (Ne p) A hand) (h0 : 0 < hand.length) (hk : HandOk hand N) (hN : N + 15 * d ≤ 9999) (hn : n ≤ 1000) (hL : LaidW w lo) (hlo : lo ≤ p)
    (hb1 : Blk w b1 85 #[.pointer (some ⟨p, 0, none⟩)]) (hb2 : Blk w b2 59 #[.slice A hand.length ca]) (hb3 : Blk w b3 3 #[.int .i64 ((d : Int) + 1)])
    (h1p : b1 ≠ p) (h2p : b2 ≠ p) (h3p : b3 ≠ p) :
    Calls Tryd.prog 53 #[.slice none 0 0, .pointer (some ⟨b1, 0, none⟩), .pointer (some ⟨b2, 0, none⟩), .pointer (some ⟨b3, 0, none⟩)] w (IRes p w (if pre [32] l then ibody d n hand (cut [32] l) else none)) := by
  have := part_any d ih hand [] A none ca 0 p b1 b2 b3 l n N w lo hs hl hh (HandP.nil _ _ _) h0 (by rw [List.append_nil]; exact hk) hN hn hL hlo hb1 hb2 hb3 h1p h2p h3p
  rw [List.append_nil] at this
  exact this
end Go.Proofs.YtlehnlfgjadleaaDoor
