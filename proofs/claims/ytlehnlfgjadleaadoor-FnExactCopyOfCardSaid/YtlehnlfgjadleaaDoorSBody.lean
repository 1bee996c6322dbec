/- The reference's reader of bodies: what it leaves; words, and what fails at once. -/
import Derived.Test.YtlehnlfgjadleaaDoorHandS
import Derived.Test.YtlehnlfgjadleaaDoorSNum
namespace Go.Proofs.YtlehnlfgjadleaaDoor
open Go.RowKit

/-- A body as a value. -/
def nodeV (b : Bo) (A : Option Addr) (c : Nat) (B : Option Addr) (d : Nat) : Value := .agg #[.string ⟨b.atm.toArray⟩, .int .i64 (b.level : Int), .slice A b.kn c, .slice B b.yn d]
def noneV : Value := .tuple #[.agg #[.string ⟨#[]⟩, .int .i64 0, .slice none 0 0, .slice none 0 0], .int .i64 (-1)]
/-- What the reference's reader of bodies leaves. -/
def BPost (f : Nat) (hand : List Ty) (l : List UInt8) (i : Nat) (w : World) (e : Ending) (w' : World) : Prop :=
  w.grownBy w' none ∧ match sbody f hand (l.drop i) with
    | none => e = .returned noneV
    | some (b, r) => ∃ A c B d j, j ≤ l.length ∧ i < j ∧ r = l.drop j ∧ e = .returned (.tuple #[nodeV b A c B d, .int .i64 ((j : Nat) : Int)]) ∧ NV w' (Fr w.heap.size) A c B d b
theorem BPost.no {f : Nat} {hand : List Ty} {l : List UInt8} {i : Nat} {w w' : World} (h : sbody f hand (l.drop i) = none) (hg : w.grownBy w' none) : BPost f hand l i w (.returned noneV) w' := ⟨hg, by rw [h]⟩
theorem BPost.yes {f : Nat} {hand : List Ty} {l : List UInt8} {i j : Nat} {w w' : World} {b : Bo} {A : Option Addr} {c : Nat} {B : Option Addr} {d : Nat} (h : sbody f hand (l.drop i) = some (b, l.drop j)) (hg : w.grownBy w' none) (hj : j ≤ l.length) (hij : i < j) (hn : NV w' (Fr w.heap.size) A c B d b) :
    BPost f hand l i w (.returned (.tuple #[nodeV b A c B d, .int .i64 ((j : Nat) : Int)])) w' := ⟨hg, by rw [h]; exact ⟨A, c, B, d, j, hj, hij, rfl, rfl, hn⟩⟩
/-- What is to be shown. -/
def BIH (f : Nat) : Prop := ∀ (l : List UInt8) (i : Nat) (d : Int) (hand : List Ty) (A : Option Addr) (ca N : Nat) (w : World), l.length ≤ 100000 → i ≤ l.length + 10 → d = 101 - (f : Int) → f ≤ 101 → HandV w Al A hand → HandOk hand N → N + 15 * f ≤ 9999 →
    Calls Tryd.prog 35 #[.string ⟨l.toArray⟩, .int .i64 (i : Int), .slice A hand.length ca, .int .i64 d] w (BPost f hand l i w)
set_option maxRecDepth 100000 in
set_option maxHeartbeats 2000000 in
theorem l3Read_no (f : Nat) (l : List UInt8) (i : Nat) (d : Int) (hand : List Ty) (A : Option Addr) (ca : Nat) (w : World) (_hl : l.length ≤ 100000) (_hi : i ≤ l.length + 10) (hd : d > 100 ∨ l.length ≤ i) (h : sbody f hand (l.drop i) = none) :
    Calls Tryd.prog 35 #[.string ⟨l.toArray⟩, .int .i64 (i : Int), .slice A hand.length ca, .int .i64 d] w (BPost f hand l i w) := by
  have h := Lib.hid h
  have hg := World.grownBy_alloc w (.cells #[.string ⟨#[]⟩, .int .i64 0, .slice none 0 0, .slice none 0 0] 36) none
  by_cases hd1 : d > 100
  · go_enter Tryd.func35, Tryd.ntmps35
    go_wp2_with fail
    exact bodyPost_ret (v := noneV) (by simp [results, Tryd.results35, go_sem, noneV]) rfl (BPost.no h.out hg)
  · have hd2 : l.length ≤ i := by omega
    go_enter Tryd.func35, Tryd.ntmps35
    go_wp2_with fail
    exact bodyPost_ret (v := noneV) (by simp [results, Tryd.results35, go_sem, noneV]) rfl (BPost.no h.out hg)
set_option maxRecDepth 100000 in
set_option maxHeartbeats 4000000 in
theorem l3Read_leaf (f : Nat) (l : List UInt8) (i : Nat) (d : Int) (hand : List Ty) (A : Option Addr) (ca : Nat) (w : World) (_hl : l.length ≤ 100000) (hlt : i < l.length) (hd : ¬ (100 : Int) < d) (hp : pre [116] (l.drop i) = true ∨ pre [102] (l.drop i) = true ∨ pre [117] (l.drop i) = true) :
    Calls Tryd.prog 35 #[.string ⟨l.toArray⟩, .int .i64 (i : Int), .slice A hand.length ca, .int .i64 d] w (BPost (f + 1) hand l i w) := by
  have hlt' : i < (⟨l.toArray⟩ : ByteArray).size := by simpa [ByteArray.size] using hlt
  have hg := World.grownBy_alloc w (.cells #[.string ⟨#[]⟩, .int .i64 0, .slice none 0 0, .slice none 0 0] 36) none
  have hb := Blk.new w 36 #[.string ⟨#[]⟩, .int .i64 0, .slice none 0 0, .slice none 0 0]
  have z0 := hb.cell 0
  have z1 := hb.cell 1
  have z2 := hb.cell 2
  have z3 := hb.cell 3
  simp only [List.getElem?_toArray, List.getElem?_cons_zero, List.getElem?_cons_succ] at z0 z1 z2 z3
  have hS : sbody (f + 1) hand (l.drop i) = some (.w ((l.drop i).take 1), l.drop (i + 1)) := by
    unfold sbody
    rw [if_pos hp, List.drop_drop]
  have hx := extract_ba l i (i + 1)
  have hx2 : (l.take (i + 1)).drop i = (l.drop i).take 1 := by rw [List.drop_take, show i + 1 - i = 1 by omega]
  rw [hx2] at hx
  have hsz : (⟨l.toArray⟩ : ByteArray).size = l.length := by simp [ByteArray.size]
  have hnl : ¬ l.length ≤ i := by omega
  have hfin := Lib.hid (fun W (hW : w.grownBy W none) => BPost.yes (A := none) (c := 0) (B := none) (d := 0) hS hW (by omega) (by omega) (NV.leaf rfl))
  have hb1 := byte_is l i hlt hlt' 116 116 rfl
  have hb2 := byte_is l i hlt hlt' 102 102 rfl
  have hb3 := byte_is l i hlt hlt' 117 117 rfl
  clear hS hx2 hb
  generalize ((l.drop i).take 1) = a at *
  by_cases h1 : pre [116] (l.drop i) = true
  · rw [h1] at hb1
    clear hb2 hb3 h1 hp
    go_enter Tryd.func35, Tryd.ntmps35
    go_wp2_with fail
    exact bodyPost_ret (v := .tuple #[nodeV (.w a) none 0 none 0, .int .i64 ((i + 1 : Nat) : Int)]) (by simp [results, Tryd.results35, go_sem, nodeV, Bo.atm, Bo.level, Bo.kn, Bo.yn, Bo.np]) rfl (hfin.out _ (World.grownBy_alloc _ _ _))
  · have h1f : pre [116] (l.drop i) = false := by simpa using h1
    by_cases h2 : pre [102] (l.drop i) = true
    · rw [h1f] at hb1; rw [h2] at hb2
      clear hb3 h1 h1f h2 hp
      go_enter Tryd.func35, Tryd.ntmps35
      go_wp2_with fail
      exact bodyPost_ret (v := .tuple #[nodeV (.w a) none 0 none 0, .int .i64 ((i + 1 : Nat) : Int)]) (by simp [results, Tryd.results35, go_sem, nodeV, Bo.atm, Bo.level, Bo.kn, Bo.yn, Bo.np]) rfl (hfin.out _ (World.grownBy_alloc _ _ _))
    · have h2f : pre [102] (l.drop i) = false := by simpa using h2
      have h3 : pre [117] (l.drop i) = true := by
        rcases hp with h | h | h
        · exact absurd h h1
        · exact absurd h h2
        · exact h
      rw [h1f] at hb1
      rw [h2f] at hb2
      rw [h3] at hb3
      clear h1 h1f h2 h2f h3 hp
      go_enter Tryd.func35, Tryd.ntmps35
      go_wp2_with fail
      exact bodyPost_ret (v := .tuple #[nodeV (.w a) none 0 none 0, .int .i64 ((i + 1 : Nat) : Int)]) (by simp [results, Tryd.results35, go_sem, nodeV, Bo.atm, Bo.level, Bo.kn, Bo.yn, Bo.np]) rfl (hfin.out _ (World.grownBy_alloc _ _ _))
  --FI
end Go.Proofs.YtlehnlfgjadleaaDoor
