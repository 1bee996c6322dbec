/- The program's reader of bodies: no node left, words. -/
import Derived.Test.YtlehnlfgjadleaaDoorIPart
namespace Go.Proofs.YtlehnlfgjadleaaDoor
open Go.RowKit

section
variable {w w' : World} {p : Nat} {T : TypeId} {n : Int} {r : List UInt8}
theorem ScanG.cell1 (h : ScanG w p T [.int .i64 n] r) : w.cell? ⟨p, 1, none⟩ = some (.int .i64 n) := by
  have := Blk.cell h 1
  simpa using this
theorem ScanG.free1 (h : ScanG w p T [.int .i64 n] r) : w.frozen? ⟨p, 1, none⟩ = false := Blk.free h 1
theorem ScanG.set1 (h : ScanG w p T [.int .i64 n] r) (m : Int) : ScanG (w.setCell ⟨p, 1, none⟩ (.int .i64 m)) p T [.int .i64 m] r := Blk.set h 1 _
theorem ScanG.alloc (h : ScanG w p T [.int .i64 n] r) (o : Obj) : ScanG (w.alloc o) p T [.int .i64 n] r := Blk.alloc h o
end
/-- The world behind the reader's entry: three boxes, the nodes left one less. -/
def entW (w : World) (p : Nat) (A : Option Addr) (hl ca : Nat) (d n : Int) : World :=
  (((w.alloc (.cells #[.pointer (some ⟨p, 0, none⟩)] 85)).alloc (.cells #[.slice A hl ca] 59)).alloc (.cells #[.int .i64 d] 3)).setCell ⟨p, 1, none⟩ (.int .i64 n)
theorem entW_blk {w : World} {p : Nat} (A : Option Addr) (hl ca : Nat) (d n : Int) (hp : p < w.heap.size) :
    Blk (entW w p A hl ca d n) w.heap.size 85 #[.pointer (some ⟨p, 0, none⟩)] ∧ Blk (entW w p A hl ca d n) (w.heap.size + 1) 59 #[.slice A hl ca] ∧ Blk (entW w p A hl ca d n) (w.heap.size + 2) 3 #[.int .i64 d] := by
  refine ⟨(((Blk.new w _ _).alloc _).alloc _).other (by show w.heap.size ≠ p; omega) _, Blk.other ?_ (by show w.heap.size + 1 ≠ p; omega) _, Blk.other ?_ (by show w.heap.size + 2 ≠ p; omega) _⟩
  · have := (Blk.new (w.alloc (.cells #[.pointer (some ⟨p, 0, none⟩)] 85)) 59 #[.slice A hl ca]).alloc (.cells #[.int .i64 d] 3)
    rw [World.size_alloc] at this
    exact this
  · have := Blk.new ((w.alloc (.cells #[.pointer (some ⟨p, 0, none⟩)] 85)).alloc (.cells #[.slice A hl ca] 59)) 3 #[.int .i64 d]
    rw [World.size_alloc, World.size_alloc] at this
    exact this
theorem entW_gr (w : World) (p : Nat) (A : Option Addr) (hl ca : Nat) (d n : Int) : w.grownBy (entW w p A hl ca d n) (some p) :=
  gr_set (gr_alloc (gr_alloc (gr_alloc (gr_refl w _) _) _) _) (.inl rfl) _
theorem entW_scan {w : World} {p : Nat} {m : Int} {l : List UInt8} (A : Option Addr) (hl ca : Nat) (d n : Int) (hs : ScanG w p 87 [.int .i64 m] l) : ScanG (entW w p A hl ca d n) p 87 [.int .i64 n] l :=
  (((hs.alloc _).alloc _).alloc _).set1 n
theorem entW_size (w : World) (p : Nat) (A : Option Addr) (hl ca : Nat) (d n : Int) : (entW w p A hl ca d n).heap.size = w.heap.size + 3 := by
  unfold entW
  simp

theorem ent_facts {w : World} {p : Nat} {m : Int} {l : List UInt8} (A : Option Addr) (hl ca : Nat) (d n : Int) (hs : ScanG w p 87 [.int .i64 m] l) :
    (((w.alloc (.cells #[.pointer (some ⟨p, 0, none⟩)] 85)).alloc (.cells #[.slice A hl ca] 59)).alloc (.cells #[.int .i64 d] 3)).cell? ⟨p, 1, none⟩ = some (.int .i64 m) ∧
    (((w.alloc (.cells #[.pointer (some ⟨p, 0, none⟩)] 85)).alloc (.cells #[.slice A hl ca] 59)).alloc (.cells #[.int .i64 d] 3)).frozen? ⟨p, 1, none⟩ = false ∧
    (((w.alloc (.cells #[.pointer (some ⟨p, 0, none⟩)] 85)).alloc (.cells #[.slice A hl ca] 59)).alloc (.cells #[.int .i64 d] 3)).cell? ⟨w.heap.size, 0, none⟩ = some (.pointer (some ⟨p, 0, none⟩)) ∧
    (entW w p A hl ca d n).cell? ⟨w.heap.size, 0, none⟩ = some (.pointer (some ⟨p, 0, none⟩)) ∧ (entW w p A hl ca d n).cell? ⟨p, 1, none⟩ = some (.int .i64 n) := by
  have h := ((hs.alloc (.cells #[.pointer (some ⟨p, 0, none⟩)] 85)).alloc (.cells #[.slice A hl ca] 59)).alloc (.cells #[.int .i64 d] 3)
  refine ⟨h.cell1, h.free1, ?_, (entW_blk A hl ca d n hs.lt).1.cell 0, (entW_scan A hl ca d n hs).cell1⟩
  exact (((Blk.new w 85 #[.pointer (some ⟨p, 0, none⟩)]).alloc (.cells #[.slice A hl ca] 59)).alloc (.cells #[.int .i64 d] 3)).cell 0

set_option maxRecDepth 100000 in
set_option maxHeartbeats 2000000 in
theorem ibody_zero (d : Nat) (hand : List Ty) (A : Option Addr) (ca p : Nat) (l : List UInt8) (w : World) (hs : ScanG w p 87 [.int .i64 0] l) :
    Calls Tryd.prog 46 #[.pointer (some ⟨p, 0, none⟩), .slice A hand.length ca, .int .i64 (d : Int)] w (IRes p w none) := by
  have hlt := hs.lt
  have hG := Lib.hid (entW_gr w p A hand.length ca d (-1))
  obtain ⟨k1, k2, k3, k4, k5⟩ := ent_facts A hand.length ca d (-1) hs
  unfold entW at k4 k5
  go_enter Tryd.func46, Tryd.ntmps46
  go_wp2_with fail
  go_ret
  exact .no rfl hG.out
set_option maxRecDepth 100000 in
set_option maxHeartbeats 2000000 in
theorem ibody_word (d m : Nat) (hand : List Ty) (A : Option Addr) (ca p : Nat) (l : List UInt8) (w : World) (hs : ScanG w p 87 [.int .i64 ((m : Int) + 1)] l) (hl : l.length ≤ 2000000) (hm : m ≤ 1000) (hp : pre [40] l = false) :
    Calls Tryd.prog 46 #[.pointer (some ⟨p, 0, none⟩), .slice A hand.length ca, .int .i64 (d : Int)] w (IRes p w (ileaf m l)) := by
  have hlt := hs.lt
  have hG := entW_gr w p A hand.length ca d m
  have hS := entW_scan A hand.length ca d m hs
  have hT := Lib.hid (takeG_any p 87 [.int .i64 (m : Int)] l [40] _ hS (by omega) (by simp))
  have hwm : IntKind.i64.wrap (m : Int) = (m : Int) := IntWalk.i64_in _ (by omega)
  have hnm : ¬ (m : Int) < 0 := by omega
  obtain ⟨B1, _, _⟩ := entW_blk A hand.length ca d m hlt
  obtain ⟨k1, k2, k3, k4, k5⟩ := ent_facts A hand.length ca d m hs
  have hsz := entW_size w p A hand.length ca d m
  unfold entW at k4 k5
  clear hs
  have hGh := Lib.hid hG
  have hBh := Lib.hid B1
  have hszh := Lib.hid hsz
  clear B1 hG hsz hS
  generalize hX : ileaf m l = X
  have hX := Lib.hid hX
  go_enter Tryd.func46, Tryd.ntmps46
  go_wp2_with fail
  refine hT.out.mono ?_
  rintro e w1 ⟨rfl, hs1, hg1⟩
  rw [cut_no hp] at hs1
  have hgw1 := gr_trans hGh.out hg1
  have hB := hBh.out.grown hg1 (by intro e; cases e; exact Nat.lt_irrefl _ hlt)
  have z1 := hB.cell 0
  have z2 := hB.lt
  simp only [List.getElem?_toArray, List.getElem?_cons_zero] at z1
  clear hB
  go_wp2_with fail
  refine (word_any p 87 [.int .i64 (m : Int)] l w1 hs1 (by omega)).mono ?_
  rintro e w2 ⟨rfl, hs2, hg2⟩
  have hgw2 := gr_trans hgw1 hg2
  have hXX := hX.out
  unfold ileaf at hXX
  have wd1 : (⟨(l.take (wlen l)).toArray⟩ : ByteArray).toList = l.take (wlen l) := by simp
  generalize l.take (wlen l) = x at *
  generalize l.drop (wlen l) = r at *
  have hgw2h := Lib.hid hgw2
  have hs2h := Lib.hid hs2
  clear hgw2 hgw1 hs2 hg1 hg2 z1 z2 hs1 hT
  by_cases hw : isWd x = true
  · rw [if_pos hw] at hXX
    subst hXX
    rcases isWd_iff.1 hw with rfl | rfl | rfl
    all_goals
      clear hw wd1
      go_wp2_with fail
      go_ret
      exact ⟨_, rfl, gr_alloc hgw2h.out _, _, rfl, (hs2h.out).alloc _, .leaf _ _ hgw2h.out.size (by simp) (Blk.new _ _ _)⟩
  · rw [if_neg hw] at hXX
    have n1 : (x == [116]) = false := by rw [beq_eq_false_iff_ne]; rintro rfl; exact hw rfl
    have n2 : (x == [102]) = false := by rw [beq_eq_false_iff_ne]; rintro rfl; exact hw rfl
    have n3 : (x == [117]) = false := by rw [beq_eq_false_iff_ne]; rintro rfl; exact hw rfl
    have m1 : ((⟨x.toArray⟩ : ByteArray).toList != [116]) = true := by rw [bne, wd1, n1]; rfl
    have m2 : ((⟨x.toArray⟩ : ByteArray).toList != [102]) = true := by rw [bne, wd1, n2]; rfl
    have m3 : ((⟨x.toArray⟩ : ByteArray).toList != [117]) = true := by rw [bne, wd1, n3]; rfl
    clear hw wd1
    go_wp2_with fail
    go_ret
    exact .no hXX.symm hgw2h.out
end Go.Proofs.YtlehnlfgjadleaaDoor
