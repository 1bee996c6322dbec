/- strings.IndexAny at " ()", whatever the text. -/
import Derived.Test.YtlehnlfgjadleaaDoorTake
import Derived.Test.YtlehnlfgjadleaaDoorShelf
import Derived.Laws.RangeAny
import Derived.Laws.Runes
import Derived.Deep.LoopGhost
import Derived.WalkMore
import Derived.Lib.OthersKept
import Derived.Deep.RegionWith
import Derived.Deep.QuietTactic
import Derived.BigQuiet
namespace Go.Proofs.YtlehnlfgjadleaaDoor
open Go.RowKit

/-- A rune past ASCII ends in a byte past ASCII. -/
theorem enc_shape (r : Int) (h : 128 ≤ r) : ∃ c : UInt8, 128 ≤ c.toNat ∧ ((∃ a, Utf8.encode r = ⟨#[a, c]⟩) ∨ (∃ a b, Utf8.encode r = ⟨#[a, b, c]⟩) ∨ ∃ a b d, Utf8.encode r = ⟨#[a, b, d, c]⟩) := by
  have hb : ∀ n : Nat, 128 ≤ (UInt8.ofNat (0x80 + n % 64)).toNat := fun n => by
    have : (UInt8.ofNat (0x80 + n % 64)).toNat = (0x80 + n % 64) % 256 := rfl
    omega
  have hc : 128 ≤ (if Utf8.valid r then r.toNat else Utf8.runeError) := by
    split
    · omega
    · decide
  simp only [Utf8.encode]
  generalize (if Utf8.valid r then r.toNat else Utf8.runeError) = c at *
  refine ⟨_, hb c, ?_⟩
  rw [if_neg (by omega)]
  split
  · exact .inl ⟨_, rfl⟩
  · split
    · exact .inr (.inl ⟨_, _, rfl⟩)
    · exact .inr (.inr ⟨_, _, _, rfl⟩)

/-- What a rune that begins past ASCII takes is all past ASCII. -/
theorem dec_high (s : ByteArray) (i : Nat) (h : i < s.size) (ha : 128 ≤ (s[i]'h).toNat) : i + (Utf8.decode s i).2 ≤ s.size ∧ ∀ k, k < (Utf8.decode s i).2 → ∃ h' : i + k < s.size, 128 ≤ (s[i + k]'h').toNat := by
  have hg : ∀ k (h' : i + k < s.size), s.get! (i + k) = s[i + k]'h' := fun k h' => by
    simp [ByteArray.get!, getElem!_pos, h']
    rfl
  have c0 : ∃ h' : i + 0 < s.size, 128 ≤ (s[i + 0]'h').toNat := ⟨h, ha⟩
  have hcont : ∀ k, (decide (i + k < s.size) && (s.get! (i + k)).toNat / 64 == 2) = true → ∃ h' : i + k < s.size, 128 ≤ (s[i + k]'h').toNat := fun k hk => by
    simp only [Bool.and_eq_true, decide_eq_true_eq, beq_iff_eq] at hk
    refine ⟨hk.1, ?_⟩
    rw [← hg k hk.1]
    omega
  have done1 : i + 1 ≤ s.size ∧ ∀ k, k < 1 → ∃ h' : i + k < s.size, 128 ≤ (s[i + k]'h').toNat := ⟨h, fun k hk => by obtain rfl : k = 0 := by omega
                                                                                                                    exact c0⟩
  have hn : ¬ (s.get! (i + 0)).toNat < 128 := by rw [hg 0 h]; exact Nat.not_lt.2 ha
  simp only [Utf8.decode]
  rw [if_neg hn]
  split
  · rename_i h1
    rw [Bool.and_eq_true] at h1
    have c1 := hcont 1 h1.2
    split
    · refine ⟨by obtain ⟨q, _⟩ := c1; omega, fun k hk => ?_⟩
      have hk2 : k = 0 ∨ k = 1 := by simp only at hk; omega
      rcases hk2 with rfl | rfl
      · exact c0
      · exact c1
    · exact done1
  · split
    · rename_i h1
      rw [Bool.and_eq_true, Bool.and_eq_true] at h1
      have c1 := hcont 1 h1.1.2
      have c2 := hcont 2 h1.2
      split
      · refine ⟨by obtain ⟨q, _⟩ := c2; omega, fun k hk => ?_⟩
        have hk2 : k = 0 ∨ k = 1 ∨ k = 2 := by simp only at hk; omega
        rcases hk2 with rfl | rfl | rfl
        · exact c0
        · exact c1
        · exact c2
      · exact done1
    · split
      · rename_i h1
        rw [Bool.and_eq_true, Bool.and_eq_true, Bool.and_eq_true] at h1
        have c1 := hcont 1 h1.1.1.2
        have c2 := hcont 2 h1.1.2
        have c3 := hcont 3 h1.2
        split
        · refine ⟨by obtain ⟨q, _⟩ := c3; omega, fun k hk => ?_⟩
          have hk2 : k = 0 ∨ k = 1 ∨ k = 2 ∨ k = 3 := by simp only at hk; omega
          rcases hk2 with rfl | rfl | rfl | rfl
          · exact c0
          · exact c1
          · exact c2
          · exact c3
        · exact done1
      · exact done1

/-- The three signs that end a word. -/
def seps : List UInt8 := [32, 40, 41]
theorem seps_high {c : UInt8} (h : 128 ≤ c.toNat) : seps.contains c = false := by
  have hne : ∀ k : UInt8, k.toNat < 128 → c ≠ k := fun k hk e => by subst e; omega
  have h1 := hne 32 (by decide)
  have h2 := hne 40 (by decide)
  have h3 := hne 41 (by decide)
  simp [seps, h1, h2, h3]
theorem seps_index {c : UInt8} (h : 128 ≤ c.toNat) (l : List UInt8) (hl : ∀ x ∈ l, x.toNat < 128) : Lib.indexByte l c = -1 := by
  induction l with
  | nil => rfl
  | cons b l ih =>
    have h1 := hl b (by simp)
    have h2 : (b == c) = false := by
      rw [beq_eq_false_iff_ne]
      rintro rfl
      omega
    rw [Lib.indexByte, h2, ih fun x hx => hl x (by simp [hx])]
    rfl

def sepB : ByteArray := ⟨#[32, 40, 41]⟩
theorem gr_iter (w : World) (s : ByteArray) (p : Nat) : w.grownBy (w.iter s p) none := World.grownBy_alloc w _ none
theorem sep_at (i : Nat) (h : i < 3) (h' : i < sepB.size) : ((sepB[i]'h').toNat : Int) ≠ 65533 ∧ (sepB[i]'h').toNat < 128 := by
  have : ∀ i : Fin 3, ((sepB[i.val]'i.isLt).toNat : Int) ≠ 65533 ∧ (sepB[i.val]'i.isLt).toNat < 128 := by decide +kernel
  exact this ⟨i, h⟩
set_option maxRecDepth 100000 in
set_option maxHeartbeats 2000000 in
/-- A rune past ASCII is none of them. -/
theorem indexRune_high (r : Int) (h : 128 ≤ r) (h2 : r ≤ 2147483647) (w : World) :
    Calls Tryd.prog 72 #[.string sepB, .int .i32 r] w fun e w' => e = .returned (.int .i64 (-1)) ∧ w.grownBy w' none := by
  have n1 : ¬ r < 128 := by omega
  by_cases he : r = 65533
  · subst he
    have hS := Lib.hid sep_at
    generalize hsb : sepB = S at *
    have hs3 : S.size = 3 := by rw [← hsb]; rfl
    have hsbh := Lib.hid hsb
    clear hsb
    go_enter Tryd.func72, Tryd.ntmps72
    go_wp2_with fail
    go_loopg [5, 6] 3 (fun g _ _ wx => ∃ i : Nat, i + g = 3 ∧ wx = w.iter S i)
    case atStart => exact ⟨0, by omega, rfl⟩
    case round =>
      obtain ⟨i, hig, rfl⟩ := hrel
      cases gk with
      | zero =>
        obtain rfl : i = S.size := by omega
        have hnx := fun ty => run_next_end (P := Tryd.prog) w S 3 ty (by omega)
        go_wp2_with fail
        go_ret
        exact ⟨rfl, gr_iter _ _ _⟩
      | succ g =>
        have hi : i < S.size := by omega
        obtain ⟨hx1, hx2⟩ := hS.out i (by omega) hi
        obtain ⟨x, hx⟩ : ∃ x : UInt8, S[i]'hi = x := ⟨_, rfl⟩
        rw [hx] at hx1 hx2
        have hnx := fun ty => run_next_ascii (P := Tryd.prog) w S i ty hi (by rw [hx]; exact hx2)
        rw [hx] at hnx
        have hx3 : ((x.toNat : Int) == 65533) = false := by rw [beq_eq_false_iff_ne]; exact hx1
        clear hx
        go_wp2_with fail
        go_roundg g
        case measure => omega
        case rel => exact ⟨i + 1, by omega, rfl⟩
  · have he2 : (r == 65533) = false := by rw [beq_eq_false_iff_ne]; exact he
    cases hv : Lib.validRune r with
    | false =>
      have hvh := Lib.hid hv
      clear hv
      go_enter Tryd.func72, Tryd.ntmps72
      go_wp2_with (go_at_call 84; refine (Tryd.utf8_ValidRune r _).mono ?_; rintro e w' ⟨rfl, rfl⟩; rw [hvh.out])
      go_ret
      exact ⟨rfl, gr_refl _ _⟩
    | true =>
      have hvh := Lib.hid hv
      clear hv
      obtain ⟨c, hc, hs⟩ := enc_shape r h
      have hne0 : ((40 : Int) != (c.toNat : Int)) = true := by rw [bne_iff_ne]; omega
      have hne1 : ((41 : Int) != (c.toNat : Int)) = true := by rw [bne_iff_ne]; omega
      have hix : ∀ l : List UInt8, (∀ x ∈ l, x.toNat < 128) → Lib.indexByte l ((c.toNat : Int)).toNat.toUInt8 = -1 := fun l hl => by
        rw [show ((c.toNat : Int)).toNat.toUInt8 = c by simp]
        exact seps_index hc l hl
      have hI := Lib.hid (fun (W : World) (l : ByteArray) (x : Int) (n : Nat) (hx : x = (c.toNat : Int)) (hl : ∀ y ∈ l.data.toList, y.toNat < 128) => show Calls Tryd.prog 83 #[.string l, .int .u8 x] (W.drewN n) fun e w'' => e = .returned (.int .i64 (-1)) ∧ ∃ m, w'' = W.drewN m from by
        subst hx
        refine (Tryd.strings_IndexByte _ _ _).mono ?_
        rintro e w' ⟨rfl, rfl⟩
        exact ⟨by rw [hix _ hl], n, rfl⟩)
      clear hix
      unfold sepB
      have hw2 : IntKind.i64.wrap 2 = 2 := IntWalk.i64_in _ (by omega)
      have hw3 : IntKind.i64.wrap 3 = 3 := IntWalk.i64_in _ (by omega)
      rcases hs with ⟨a, hs⟩ | ⟨a, b, hs⟩ | ⟨a, b, d, hs⟩
      · go_enter Tryd.func72, Tryd.ntmps72
        go_wp2_with (go_at_call 84; refine (Tryd.utf8_ValidRune r _).mono ?_; rintro e w' ⟨rfl, rfl⟩; rw [hvh.out])
        have hcv := run_convert_int_string (P := Tryd.prog) w' 21 9 .i32 r (by rw [Tryd.underlying21]; rfl) Tryd.underlying9
        rw [hs] at hcv
        clear hs
        apply wp_scope_straight
        go_wp2_with fail
        have hnb : ∀ (h1 : 1 < (⟨#[32, 40, 41]⟩ : ByteArray).size) (h2 : 1 < (⟨#[a, c]⟩ : ByteArray).size), ((((⟨#[32, 40, 41]⟩ : ByteArray)[1]'h1).toNat : Int) != (((⟨#[a, c]⟩ : ByteArray)[1]'h2).toNat : Int)) = true := fun _ _ => hne0
        go_loopw [9] (fun i wr => i = .int .i64 1 ∧ wr = w') (fun _ _ => 0)
        case atStart => exact ⟨rfl, rfl⟩
        case round =>
          obtain ⟨rfl, rfl⟩ := hrel
          go_wp2_with fail
          apply wp_scope_straight
          go_wp2_with fail
          go_quiet (fail)
          have hgq : wr.grownBy (wr.drewN nq) none := gr_drewN (gr_refl _ _) nq
          generalize wr.drewN nq = wq at *
          go_wp2_with fail
          go_quiet ((go_at_call 83; exact hI.out _ _ _ _ rfl (by decide +kernel)))
          go_wp2_with fail
          simp (config := { zetaDelta := true }) only [Exit.noGoto_ret, Exit.inBlock, Exit.then]
          go_ret
          exact ⟨rfl, gr_drewN hgq _⟩
      · go_enter Tryd.func72, Tryd.ntmps72
        go_wp2_with (go_at_call 84; refine (Tryd.utf8_ValidRune r _).mono ?_; rintro e w' ⟨rfl, rfl⟩; rw [hvh.out])
        have hcv := run_convert_int_string (P := Tryd.prog) w' 21 9 .i32 r (by rw [Tryd.underlying21]; rfl) Tryd.underlying9
        rw [hs] at hcv
        clear hs
        apply wp_scope_straight
        go_wp2_with fail
        have hnb : ∀ (h1 : 2 < (⟨#[32, 40, 41]⟩ : ByteArray).size) (h2 : 2 < (⟨#[a, b, c]⟩ : ByteArray).size), ((((⟨#[32, 40, 41]⟩ : ByteArray)[2]'h1).toNat : Int) != (((⟨#[a, b, c]⟩ : ByteArray)[2]'h2).toNat : Int)) = true := fun _ _ => hne1
        go_loopw [9] (fun i wr => i = .int .i64 2 ∧ wr = w') (fun _ _ => 0)
        case atStart => exact ⟨rfl, rfl⟩
        case round =>
          obtain ⟨rfl, rfl⟩ := hrel
          go_wp2_with fail
          apply wp_scope_straight
          go_wp2_with fail
          go_quiet (fail)
          have hgq : wr.grownBy (wr.drewN nq) none := gr_drewN (gr_refl _ _) nq
          generalize wr.drewN nq = wq at *
          go_wp2_with fail
          go_quiet ((go_at_call 83; exact hI.out _ _ _ _ rfl (by decide +kernel)))
          go_wp2_with fail
          simp (config := { zetaDelta := true }) only [Exit.noGoto_ret, Exit.inBlock, Exit.then]
          go_ret
          exact ⟨rfl, gr_drewN hgq _⟩
      · go_enter Tryd.func72, Tryd.ntmps72
        go_wp2_with (go_at_call 84; refine (Tryd.utf8_ValidRune r _).mono ?_; rintro e w' ⟨rfl, rfl⟩; rw [hvh.out])
        have hcv := run_convert_int_string (P := Tryd.prog) w' 21 9 .i32 r (by rw [Tryd.underlying21]; rfl) Tryd.underlying9
        rw [hs] at hcv
        clear hs
        apply wp_scope_straight
        go_wp2_with fail
        go_loopw [9] (fun i wr => i = .int .i64 3 ∧ wr = w') (fun _ _ => 0)
        case atStart => exact ⟨rfl, rfl⟩
        case round =>
          obtain ⟨rfl, rfl⟩ := hrel
          go_wp2_with fail
          simp only [Exit.noGoto_ret]
          go_ret
          exact ⟨rfl, gr_refl _ _⟩

/-- How far the word goes. -/
def wlen (l : List UInt8) : Nat := (l.takeWhile fun c => !seps.contains c).length
theorem indexAny_wlen : ∀ l : List UInt8, Lib.indexAny l seps = if wlen l = l.length then -1 else (wlen l : Int)
  | [] => rfl
  | b :: l => by
    have ih := indexAny_wlen l
    unfold Lib.indexAny wlen
    unfold wlen at ih
    cases hb : seps.contains b with
    | true => simp only [if_true, List.takeWhile, hb, Bool.not_true, List.length_nil, List.length_cons]; rw [if_neg (by omega)]; rfl
    | false =>
      simp only [Bool.false_eq_true, if_false, List.takeWhile, hb, Bool.not_false, List.length_cons]
      rw [ih]
      generalize (List.takeWhile (fun c => !seps.contains c) l).length = T
      by_cases h : T = l.length
      · subst h
        rw [if_pos rfl, if_pos rfl]
        rfl
      · rw [if_neg h, if_neg (by omega : ¬ T + 1 = l.length + 1), if_neg (by rw [beq_iff_eq]; omega)]
        omega

theorem gr_iterAt {a w : World} (h : a.grownBy w none) (s : ByteArray) (p : Nat) : a.grownBy (w.iterAt a.heap.size s p) none :=
  ⟨h.os, h.tape, h.output, by rw [Lib.iterAt_size]; exact h.size, fun i hi hx => (Lib.iterAt_other w _ i s p (by omega)).trans (h.block i hi hx)⟩
set_option maxRecDepth 100000 in
set_option maxHeartbeats 4000000 in
theorem indexAny_short (l : List UInt8) (w : World) (h8 : l.length ≤ 8) :
    Calls Tryd.prog 62 #[.string ⟨l.toArray⟩, .string sepB] w fun e w' => e = .returned (.int .i64 (Lib.indexAny l seps)) ∧ w.grownBy w' none := by
  have hsz : (⟨l.toArray⟩ : ByteArray).size = l.length := by simp [ByteArray.size]
  have hdl : (⟨l.toArray⟩ : ByteArray).data.toList = l := rfl
  generalize (⟨l.toArray⟩ : ByteArray) = s at *
  have hdh := Lib.hid hdl
  have hc3 : sepB.size = 3 := rfl
  have hn1 : ((3 : Int) == 1) = false := rfl
  have h8z : decide ((8 : Int) < (s.size : Int)) = false := decide_eq_false (by omega)
  have hcd : sepB.data.toList = seps := rfl
  have hce : sepB.toList.isEmpty = false := by decide +kernel
  have hci : ∀ (W : World) (x : UInt8), x.toNat < 128 → Calls Tryd.prog 72 #[.string sepB, .int .i32 (x.toNat : Int)] W fun e w' => e = .returned (.int .i64 (Lib.indexByte seps x)) ∧ w' = W := fun W x hx => by
    refine (Tryd.strings_IndexRune_ascii sepB _ W (by omega) (by omega)).mono ?_
    rintro e w' ⟨rfl, rfl⟩
    exact ⟨by rw [hcd]; simp, rfl⟩
  have hcih := Lib.hid hci
  have hhi := Lib.hid indexRune_high
  generalize hSB : sepB = B at *
  have hSBh := Lib.hid hSB
  clear hSB hci hcd hdl
  have hszh := Lib.hid hsz
  clear hsz
  go_enter Tryd.func62, Tryd.ntmps62
  go_wp2_with (go_at_call 73; refine (Tryd.strings_shouldUseASCIISet _ _).mono ?_; rintro e w' ⟨rfl, hw⟩; rw [hw, h8z])
  go_loopg [9, 10] s.size (fun g _ _ wx => ∃ i : Nat, i + g = s.size ∧ wx.heap[w.heap.size]? = some (.stringIter s i) ∧ w.grownBy wx none ∧ Lib.NoAny l seps i)
  case atStart => exact ⟨0, by omega, World.iter_heap _ _ _, gr_iter _ _ _, Lib.NoAny.zero _ _⟩
  case round =>
    obtain ⟨wi, hwi⟩ : ∃ wo, wo = wr := ⟨_, rfl⟩
    subst hwi
    obtain ⟨i, hig, hit, hgr, hno⟩ := hrel
    have hith := Lib.hid hit
    clear hit
    have HN := Lib.hid hno
    clear hno
    by_cases hi : i < s.size
    · obtain ⟨x, hx⟩ : ∃ x : UInt8, s[i]'hi = x := ⟨_, rfl⟩
      have hxl : l[i]? = some x := by rw [← hx, ← hdh.out]; exact Lib.data_getElem? s i hi
      have Hx := Lib.hid hxl
      clear hxl
      by_cases hx128 : x.toNat < 128
      · have hnx := fun ty => Lib.run_next_ascii_at (P := Tryd.prog) wi w.heap.size s i ty hith.out hi (by rw [hx]; exact hx128)
        rw [hx] at hnx
        have hR := Lib.hid (hcih.out (wi.iterAt w.heap.size s (i + 1)) x hx128)
        have hcon := Lib.contains_iff_indexByte seps x
        have HX := Lib.hid hx
        clear hx
        cases hin : seps.contains x
        · rw [hin] at hcon
          have hlt : ¬ ((0 : Int) ≤ Lib.indexByte seps x) := of_decide_eq_false hcon.symm
          have hinh := Lib.hid hin
          clear hcon hin
          go_wp2_with (go_at_call 72; refine hR.out.mono ?_; rintro e w' ⟨rfl, hw⟩; rw [hw])
          go_roundg (s.size - (i + 1))
          case measure => omega
          case rel => exact ⟨i + 1, by omega, Lib.iterAt_heap _ _ _ _ _ hith.out, gr_iterAt hgr _ _, HN.out.succ Hx.out hinh.out⟩
        · rw [hin] at hcon
          have hge : (0 : Int) ≤ Lib.indexByte seps x := of_decide_eq_true hcon.symm
          have hinh := Lib.hid hin
          clear hcon hin
          go_wp2_with (go_at_call 72; refine hR.out.mono ?_; rintro e w' ⟨rfl, hw⟩; rw [hw])
          go_ret
          exact ⟨by rw [Lib.indexAny_hit HN.out Hx.out hinh.out]; rfl, gr_iterAt hgr _ _⟩
      · have hd := dec_high s i hi (by rw [hx]; omega)
        have hd1 := decode_high s i hi (by rw [hx]; omega)
        have hd2 := decode_le s i
        have hnx := fun ty => Lib.run_next_any_at (P := Tryd.prog) wi w.heap.size s i ty hith.out hi
        generalize hdec : Utf8.decode s i = dc at *
        obtain ⟨rn, wd⟩ := dc
        simp only at hd hd1 hd2 hnx
        have hR := Lib.hid (hhi.out (rn : Int) (by omega) (by omega) (wi.iterAt w.heap.size s (i + wd)))
        have hdecr := Lib.hid hdec
        have HX := Lib.hid hx
        have HNn : Lib.NoAny l seps (i + wd) := fun j b hj hb => by
          by_cases hji : j < i
          · exact HN.out j b hji hb
          · obtain ⟨k, rfl⟩ : ∃ k, j = i + k := ⟨j - i, by omega⟩
            obtain ⟨h', hk⟩ := hd.2 k (by omega)
            have h1 := Lib.data_getElem? s (i + k) h'
            rw [hdh.out, hb] at h1
            injection h1 with h1
            rw [h1]
            exact seps_high hk
        have HNh := Lib.hid HNn
        have hdl1 := hd.1
        clear hdec hx HNn hd
        go_wp2_with fail
        refine hR.out.mono ?_
        rintro e w2 ⟨rfl, hg2⟩
        go_wp2_with fail
        have hlt : w.heap.size < (wi.iterAt w.heap.size s (i + wd)).heap.size := (Array.getElem?_eq_some_iff.1 (Lib.iterAt_heap _ _ _ _ (i + wd) hith.out)).1
        go_roundg (s.size - (i + wd))
        case measure => omega
        case rel => exact ⟨i + wd, by omega, (hg2.block _ hlt (by simp)).trans (Lib.iterAt_heap _ _ _ _ _ hith.out), gr_trans (gr_iterAt hgr _ _) hg2, HNh.out⟩
    · obtain rfl : i = s.size := by omega
      have hnx := fun ty => Lib.run_next_end_at (P := Tryd.prog) wi w.heap.size s s.size ty hith.out (by omega)
      go_wp2_with fail
      go_ret
      exact ⟨by rw [Lib.indexAny_none (by rw [← hszh.out]; exact HN.out)]; rfl, hgr⟩
end Go.Proofs.YtlehnlfgjadleaaDoor
