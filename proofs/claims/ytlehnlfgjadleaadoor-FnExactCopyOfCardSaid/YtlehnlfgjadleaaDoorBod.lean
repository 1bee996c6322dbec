/- The program's bodies behind pointers, and the reader's block; what the library's variables hold. -/
import Derived.Test.YtlehnlfgjadleaaDoorConc
import Derived.Test.YtlehnlfgjadleaaDoorWord
import Derived.Test.YtlehnlfgjadleaaDoorBo3
import Derived.Lib.LaidTab
namespace Go.Proofs.YtlehnlfgjadleaaDoor
open Go.RowKit

/-- The program's body behind a pointer to block q. All its blocks are of F. -/
inductive BodyP (w : World) (F : Nat → Prop) : Nat → Bo → Prop
  | leaf (q : Nat) (c : List UInt8) (hq : F q) (hc : c ≠ []) (hb : Blk w q 64 #[.string ⟨c.toArray⟩, .int .i64 0, .slice none 0 0, .pointer none, .pointer none]) : BodyP w F q (.w c)
  | list (q : Nat) (b : Bo) (m : Nat) (A : Option Addr) (c : Nat) (ps : Nat → Nat) (hq : F q) (hl : b.isLi = true) (hm : b.parts.length = m + 2)
      (hb : Blk w q 64 #[.string ⟨#[]⟩, .int .i64 b.level, .slice A m c, .pointer (some ⟨ps m, 0, none⟩), .pointer (some ⟨ps (m + 1), 0, none⟩)])
      (hA : Sl w F A m (fun i => .pointer (some ⟨ps i, 0, none⟩))) (hs : ∀ i u, b.parts[i]? = some u → BodyP w F (ps i) u) : BodyP w F q b

section
variable {w w' : World} {F G : Nat → Prop} {q : Nat} {b : Bo}
theorem BodyP.keep (h : BodyP w F q b) (hk : ∀ b, F b → b < w.heap.size → w'.heap[b]? = w.heap[b]?) : BodyP w' F q b := by
  induction h with
  | leaf q c hq hc hb => exact .leaf q c hq hc ((hk q hq hb.lt).trans hb)
  | list q b m A c ps hq hl hm hb hA _ ih => exact .list q b m A c ps hq hl hm ((hk q hq hb.lt).trans hb) (hA.keep hk) ih
theorem BodyP.mono (h : BodyP w F q b) (hm : ∀ b, F b → b < w.heap.size → G b) : BodyP w G q b := by
  induction h with
  | leaf q c hq hc hb => exact .leaf q c (hm q hq hb.lt) hc hb
  | list q b m A c ps hq hl hm2 hb hA _ ih => exact .list q b m A c ps (hm q hq hb.lt) hl hm2 hb (hA.mono hm) ih
theorem BodyP.fr {lo hi : Nat} (h : BodyP w (Fr hi) q b) (hl : lo ≤ hi) : BodyP w (Fr lo) q b := h.mono fun _ h1 _ => Nat.le_trans hl h1
theorem BodyP.all (h : BodyP w F q b) : BodyP w Al q b := h.mono fun _ _ _ => trivial
theorem BodyP.grown0 (h : BodyP w F q b) (hg : w.grownBy w' none) : BodyP w' F q b := h.keep fun b _ hl => hg.block b hl (by simp)
theorem BodyP.grown {lo g : Nat} (h : BodyP w (Fr lo) q b) (hg : w.grownBy w' (some g)) (hl : g < lo) : BodyP w' (Fr lo) q b :=
  h.keep fun b hb hl' => hg.block b hl' (by rintro e; cases e; unfold Fr at hb; omega)
theorem BodyP.lt (h : BodyP w F q b) : q < w.heap.size := by
  cases h with
  | leaf _ c hq hc hb => exact hb.lt
  | list _ _ m A c ps hq hl hm hb hA hs => exact hb.lt
end
theorem HandP.grown {w w' : World} {p : Nat} {A : Option Addr} {hand : List Ty} (h : HandP w (Ne p) A hand) (hg : w.grownBy w' (some p)) : HandP w' (Ne p) A hand :=
  h.keep fun b hb hl => hg.block b hl (fun e => hb (Option.some.inj e))

/-! ### the library's variables -/
/-- The table of powers of ten and the two errors hold what they were laid with; all lie below lo. -/
def LaidW (w : World) (lo : Nat) : Prop := lo ≤ w.heap.size ∧ 0 < lo ∧ 2 < lo ∧ 3 < lo ∧
  Lib.TabIs Tryd.prog w "internal/strconv.uint64pow10" .u64 Lib.pow10Tab ∧
  (∃ t p, w.cell? ⟨2, 0, none⟩ = some (.iface t p)) ∧ (∃ t p, w.cell? ⟨3, 0, none⟩ = some (.iface t p))
theorem named_pow : Tryd.prog.globalNamed "internal/strconv.uint64pow10" = some 0 := by kernel_rfl
theorem LaidW.keep {w w' : World} {lo : Nat} (h : LaidW w lo) (hs : w.heap.size ≤ w'.heap.size) (hk : ∀ b, b < lo → w'.heap[b]? = w.heap[b]?) : LaidW w' lo := by
  obtain ⟨h0, h1, h2, h3, h4, ⟨t, p, h5⟩, ⟨u, q, h6⟩⟩ := h
  refine ⟨Nat.le_trans h0 hs, h1, h2, h3, ?_, ⟨t, p, ?_⟩, ⟨u, q, ?_⟩⟩
  · unfold Lib.TabIs World.var? at h4 ⊢
    rw [named_pow] at h4 ⊢
    simp only [Option.bind_some] at h4 ⊢
    rw [hk _ h1]
    exact h4
  · exact (World.cell?_of_block (w := w) (a := ⟨2, 0, none⟩) (hk _ h2)).trans h5
  · exact (World.cell?_of_block (w := w) (a := ⟨3, 0, none⟩) (hk _ h3)).trans h6
theorem LaidW.grown {w w' : World} {lo p : Nat} (h : LaidW w lo) (hg : w.grownBy w' (some p)) (hp : lo ≤ p) : LaidW w' lo :=
  h.keep hg.size fun b hb => hg.block b (Nat.lt_of_lt_of_le hb h.1) (fun e => by cases e; omega)
theorem LaidW.grown0 {w w' : World} {lo : Nat} (h : LaidW w lo) (hg : w.grownBy w' none) : LaidW w' lo :=
  h.keep hg.size fun b hb => hg.block b (Nat.lt_of_lt_of_le hb h.1) (by simp)
theorem atoi_any (l : List UInt8) (w : World) (lo : Nat) (hl : l.length ≤ 4000000000) (hL : LaidW w lo) :
    Calls Tryd.prog 52 #[.string ⟨l.toArray⟩] w fun e w' => w.grownBy w' none ∧ match Lib.atoiAll l with
      | .ok v => e = .returned (.tuple #[.int .i64 v, .nilIface])
      | _ => ∃ v t p, e = .returned (.tuple #[.int .i64 v, .iface t p]) := by
  have hsz : (⟨l.toArray⟩ : ByteArray).size = l.length := by simp [ByteArray.size]
  obtain ⟨_, _, _, _, _, ⟨t, p, h5⟩, ⟨u, q, h6⟩⟩ := hL
  cases hA : Lib.atoiAll l with
  | ok v =>
    refine (Tryd.strconv_Atoi_ok ⟨l.toArray⟩ (by omega) v hA w).mono ?_
    rintro e w' ⟨rfl, hw⟩
    refine ⟨?_, rfl⟩
    rcases hw with rfl | ⟨t, rfl⟩
    · exact gr_refl _ _
    · exact gr_below (Lib.bytesWorld_below _ _ _)
  | range =>
    refine (Tryd.strconv_Atoi_range ⟨l.toArray⟩ (by omega) hA _ w h6 (.inr ⟨_, _, rfl⟩)).mono ?_
    rintro e w' ⟨N, rfl, _, _, hb⟩
    exact ⟨gr_below hb, _, _, _, rfl⟩
  | _ =>
    refine (Any.strconv_Atoi_syntax Tryd.laysC172 ⟨l.toArray⟩ (by omega) hA _ w h5 (.inr ⟨_, _, rfl⟩)).mono ?_
    rintro e w' ⟨N, rfl, _, _, hb⟩
    exact ⟨gr_below hb, _, _, _, rfl⟩
theorem gr_grow (w : World) (k : Nat) (os : Array Obj) : w.grownBy (Sort.grow (w.drewN k) os) none :=
  ⟨rfl, rfl, rfl, by simp, fun i hi _ => Sort.heap_grow_old (w.drewN k) os hi⟩
theorem itoa_any (n : Int) (w : World) (lo : Nat) (h0 : -9223372036854775808 ≤ n) (h1 : n ≤ 9223372036854775807) (hL : LaidW w lo) :
    Calls Tryd.prog 32 #[.int .i64 n] w fun e w' => e = .returned (.string ⟨(Lib.itoa n).toArray⟩) ∧ w.grownBy w' none := by
  refine (Tryd.strconv_Itoa n h0 h1 w hL.2.2.2.2.1).mono ?_
  rintro e w' ⟨rfl, k, os, rfl⟩
  exact ⟨rfl, gr_grow _ _ _⟩
end Go.Proofs.YtlehnlfgjadleaaDoor
