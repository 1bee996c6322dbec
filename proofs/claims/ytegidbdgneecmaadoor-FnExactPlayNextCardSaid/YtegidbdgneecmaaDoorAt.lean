/- Types at paths; moves. -/
import Derived.Test.YtegidbdgneecmaaDoorType
import Derived.Lib.Bytealg
namespace Go.Proofs.YtegidbdgneecmaaDoor
open Go.RowKit

theorem byte_val (l : List UInt8) (i : Nat) (h : i < l.length) (h' : i < (⟨l.toArray⟩ : ByteArray).size) : ((⟨l.toArray⟩ : ByteArray)[i]'h') = l[i] := by
  show (l.toArray)[i]'(by simpa using h) = l[i]
  simp

theorem at_cons {t : Ty} {c : UInt8} {p : List UInt8} : t.at_ (c :: p) = if 48 ≤ c.toNat then (match t.args[c.toNat - 48]? with | some u => Ty.at_ u p | none => none) else none := rfl

/-- What 'at' leaves. -/
def AtPost (w : World) (F : Nat → Prop) (t : Ty) (p : List UInt8) (e : Ending) : Prop :=
  match t.at_ p with
  | none => e = .returned (.pointer none)
  | some u => ∃ q, e = .returned (.pointer (some ⟨q, 0, none⟩)) ∧ KindP w F q u

set_option maxHeartbeats 1000000 in
theorem at_any (q : Nat) (t : Ty) (p : List UInt8) (F : Nat → Prop) (w : World) (hk : KindP w F q t) (ht : t.atoms ≤ 15) (hp : p.length ≤ 1099511627776) :
    Calls Tryd.prog 69 #[.pointer (some ⟨q, 0, none⟩), .string ⟨p.toArray⟩] w fun e w' => AtPost w F t p e ∧ w = w' := by
  go_enter Tryd.func69, Tryd.ntmps69
  go_wp2_with fail
  go_loop [0, 9] (fun k i => ∃ (j : Nat) (u : Ty) (q' : Nat), j ≤ p.length ∧ i = .int .i64 (j : Int) ∧ k = .pointer (some ⟨q', 0, none⟩) ∧ KindP w F q' u ∧ u.atoms ≤ 15 ∧ t.at_ p = u.at_ (p.drop j)) (fun _ i => p.length - (intOf i).toNat)
  case atStart => exact ⟨0, t, q, Nat.zero_le _, rfl, rfl, hk, ht, rfl⟩
  case round =>
    obtain ⟨j, u, q', hj, rfl, rfl, hku, hu, hat⟩ := hrel
    have hath := Lib.hid hat
    clear hat
    by_cases hlt : j < p.length
    · have hlt' : j < (⟨p.toArray⟩ : ByteArray).size := by simpa [ByteArray.size] using hlt
      have hd : p.drop j = p[j] :: p.drop (j + 1) := List.drop_eq_getElem_cons hlt
      have hat := hath.out
      rw [hd, at_cons] at hat
      have hbv := byte_val p j hlt hlt'
      obtain ⟨A, cp, qs, hblk, hA, hs⟩ := hku.open_
      have hc := hblk.cell 0
      simp only [List.getElem?_toArray, List.getElem?_cons_zero] at hc
      have hsh := Lib.hid hs
      clear hs hd
      have hm256 : p[j].toNat < 256 := p[j].toNat_lt
      generalize p[j] = c at *
      have hal := u.length_args
      by_cases h48 : 48 ≤ c.toNat
      · rw [if_pos h48] at hat
        by_cases hlen : c.toNat - 48 < u.args.length
        · have hkk : u.args[c.toNat - 48]? = some (u.args[c.toNat - 48]'hlen) := List.getElem?_eq_getElem hlen
          rw [hkk] at hat
          have hath2 := Lib.hid hat
          have hch := hsh.out _ _ hkk
          have hau := Ty.atoms_of_args (List.mem_of_getElem? hkk)
          obtain ⟨g, o, rfl, _, hcell⟩ := hA (by omega)
          have hck := hcell _ hlen
          clear hat hkk hcell
          go_wp2_with fail
          go_round
          case rel => exact ⟨j + 1, _, _, by omega, by go_num, rfl, hch, by omega, hath2.out⟩
          case measure => simp [intOf]; omega
        · rw [List.getElem?_eq_none (by omega)] at hat
          have hath2 := Lib.hid hat
          clear hat
          go_wp2_with fail
          go_ret
          exact ⟨by unfold AtPost; rw [hath2.out]; rfl, rfl⟩
      · rw [if_neg h48] at hat
        have hath2 := Lib.hid hat
        clear hat
        go_wp2_with fail
        go_ret
        exact ⟨by unfold AtPost; rw [hath2.out]; rfl, rfl⟩
    · have hat := hath.out
      rw [List.drop_eq_nil_of_le (by omega)] at hat
      have hath2 := Lib.hid hat
      clear hat
      go_wp2_with fail
      go_ret
      exact ⟨by unfold AtPost; rw [hath2.out]; exact ⟨q', rfl, hku⟩, rfl⟩

/-- Is it a move of the type? -/
def isMove (t : Ty) (m : List UInt8) : Bool :=
  match m with
  | [] => false
  | c :: p => (c == 113 || c == 116 || c == 102) && (t.at_ p).isSome

theorem qtf_ge (c : UInt8) : decide (0 ≤ Lib.indexByte [113, 116, 102] c) = (c == 113 || c == 116 || c == 102) := by
  simp only [Lib.indexByte]
  by_cases h1 : c = 113
  · subst h1; decide
  · by_cases h2 : c = 116
    · subst h2; decide
    · by_cases h3 : c = 102
      · subst h3; decide
      · simp [h1, h2, h3, Ne.symm h1, Ne.symm h2, Ne.symm h3]

set_option maxRecDepth 100000 in
set_option maxHeartbeats 1000000 in
theorem qtf_any (c : UInt8) (w : World) : Calls Tryd.prog 68 #[.string ⟨[113, 116, 102].toArray⟩, .int .u8 (c.toNat : Int)] w fun e w' => e = .returned (.int .i64 (Lib.indexByte [113, 116, 102] c)) ∧ w = w' := by
  go_enter Tryd.func68, Tryd.ntmps68
  go_wp2
  rw [run_callFunc_extern Tryd.func81 (by kernel_rfl) (by kernel_rfl) (by kernel_rfl) (e := Extern.BytealgIndexByte.indexByte) (by kernel_rfl), Lib.run_indexByteString]
  simp only [Result.andThen]
  rw [Oper.upon_value]
  go_wp2
  go_ret
  exact ⟨ret_int (by simp), rfl⟩

set_option maxHeartbeats 1000000 in
theorem hasMove_any (q : Nat) (t : Ty) (m : List UInt8) (F : Nat → Prop) (w : World) (hk : KindP w F q t) (ht : t.atoms ≤ 15) (hm : m.length ≤ 1099511627776) :
    Calls Tryd.prog 57 #[.pointer (some ⟨q, 0, none⟩), .string ⟨m.toArray⟩] w fun e w' => e = .returned (.bool (isMove t m)) ∧ w = w' := by
  cases m with
  | nil =>
    go_enter Tryd.func57, Tryd.ntmps57
    go_wp2_with fail
    go_ret
    exact ⟨rfl, rfl⟩
  | cons c p =>
    have h0 : 0 < (⟨(c :: p).toArray⟩ : ByteArray).size := by simp [ByteArray.size]
    have hbv := byte_val (c :: p) 0 (by simp) h0
    simp only [List.getElem_cons_zero] at hbv
    have hsl : (⟨(c :: p).toArray⟩ : ByteArray).extract 1 (p.length + 1) = ⟨p.toArray⟩ := by rw [extract_ba]; simp
    have hq := Lib.hid (qtf_ge c)
    have hne : (c :: p).isEmpty = false := rfl
    have hml : p.length + 1 ≤ 1099511627776 := by simpa using hm
    have hA := Lib.hid (at_any q t p F w hk ht (by omega))
    cases hc : (c == 113 || c == 116 || c == 102) with
    | false =>
      have hd := hq.out
      rw [hc] at hd
      have hR := Lib.hid (show isMove t (c :: p) = false by unfold isMove; simp only; rw [hc]; rfl)
      have hd2 : Lib.indexByte [113, 116, 102] c < 0 := by simpa using hd
      clear hc
      go_enter Tryd.func57, Tryd.ntmps57
      go_wp2_with fail
      refine (qtf_any c w).mono ?_
      rintro e w' ⟨rfl, rfl⟩
      go_wp2_with fail
      go_ret
      exact ⟨by rw [hR.out]; rfl, rfl⟩
    | true =>
      have hd := hq.out
      rw [hc] at hd
      have hR := Lib.hid (show isMove t (c :: p) = (t.at_ p).isSome by unfold isMove; simp only; rw [hc]; rfl)
      have hd2 : 0 ≤ Lib.indexByte [113, 116, 102] c := by simpa using hd
      clear hc
      go_enter Tryd.func57, Tryd.ntmps57
      go_wp2_with fail
      refine (qtf_any c w).mono ?_
      rintro e w' ⟨rfl, rfl⟩
      go_wp2_with fail
      refine hA.out.mono ?_
      rintro e w' ⟨hAt, rfl⟩
      unfold AtPost at hAt
      cases hu : t.at_ p with
      | none =>
        have hR2 := hR.out
        rw [hu] at hR2 hAt
        have hR3 := Lib.hid hR2
        subst hAt
        clear hu hR2
        go_wp2_with fail
        go_ret
        exact ⟨by rw [hR3.out]; rfl, rfl⟩
      | some u =>
        have hR2 := hR.out
        rw [hu] at hR2 hAt
        have hR3 := Lib.hid hR2
        obtain ⟨q', rfl, _⟩ := hAt
        clear hu hR2
        go_wp2_with fail
        go_ret
        exact ⟨by rw [hR3.out]; rfl, rfl⟩
end Go.Proofs.YtegidbdgneecmaaDoor
