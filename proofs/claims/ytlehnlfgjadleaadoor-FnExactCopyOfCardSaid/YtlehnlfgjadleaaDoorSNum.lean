/- The reference's reading of a level. -/
import Derived.Test.YtlehnlfgjadleaaDoorBo3
import Derived.Test.YtlehnlfgjadleaaDoorKind2
import Derived.Test.YtlehnlfgjadleaaDoorStr
import Derived.Deep.QuietTactic
import Derived.BigQuiet
namespace Go.Proofs.YtlehnlfgjadleaaDoor
open Go.RowKit

/-- What it gives: the number and where it ends. -/
def numRes (l : List UInt8) (i : Nat) : Value := match num4 (l.drop i) with
  | none => .tuple #[.int .i64 0, .int .i64 (-1)]
  | some (v, _) => .tuple #[.int .i64 (v : Int), .int .i64 ((i + (digs (l.drop i)).length : Nat) : Int)]
theorem digs_len (l : List UInt8) : (digs l).length ≤ 4 ∧ (digs l).length ≤ l.length := by
  have h := (List.takeWhile_prefix isDg (l := l.take 4)).length_le
  rw [List.length_take] at h
  exact ⟨by unfold digs; omega, by unfold digs; omega⟩
theorem digs_get {l : List UInt8} {j : Nat} (h : j < (digs l).length) : ∃ c, l[j]? = some c ∧ (digs l)[j]? = some c ∧ isDg c = true := by
  have e := digs_app l
  have h1 : (digs l)[j]? = some (digs l)[j] := List.getElem?_eq_getElem h
  refine ⟨(digs l)[j], ?_, h1, digs_isDg l _ (List.getElem_mem h)⟩
  refine Eq.trans ?_ h1
  refine Eq.trans (congrArg (fun t => t[j]?) e) ?_
  exact List.getElem?_append_left h
theorem tw_stop (p : UInt8 → Bool) : ∀ (l : List UInt8), (l.takeWhile p).length < l.length → ∃ c, l[(l.takeWhile p).length]? = some c ∧ p c = false
  | [], h => by simp at h
  | a :: l, h => by
    cases ha : p a with
    | false => exact ⟨a, by rw [List.takeWhile_cons_of_neg (by simp [ha])]; rfl, ha⟩
    | true =>
      rw [List.takeWhile_cons_of_pos ha] at h ⊢
      obtain ⟨c, h1, h2⟩ := tw_stop p l (by simpa using h)
      exact ⟨c, by simpa using h1, h2⟩
/-- What stands where it ends. -/
theorem digs_stop (l : List UInt8) : (digs l).length = 4 ∨ l.length ≤ (digs l).length ∨ ∃ c, l[(digs l).length]? = some c ∧ isDg c = false := by
  have hd := digs_len l
  by_cases h4 : (digs l).length = 4
  · exact .inl h4
  · by_cases hl : l.length ≤ (digs l).length
    · exact .inr (.inl hl)
    · have h1 : ((l.take 4).takeWhile isDg).length < (l.take 4).length := by
        have : (digs l).length = ((l.take 4).takeWhile isDg).length := rfl
        rw [List.length_take]; omega
      obtain ⟨c, k1, k2⟩ := tw_stop isDg (l.take 4) h1
      rw [List.getElem?_take_of_lt (by rw [List.length_take] at h1; omega)] at k1
      exact .inr (.inr ⟨c, k1, k2⟩)
theorem numV_take {l : List UInt8} {j : Nat} {c : UInt8} (h : l[j]? = some c) : numV (l.take (j + 1)) = numV (l.take j) * 10 + (c.toNat - 48) := by
  rw [Ty.take_snoc h, numV_snoc]
theorem numV_lt : ∀ (n : Nat) (ds : List UInt8), ds.length = n → (∀ c ∈ ds, isDg c = true) → numV ds < 10 ^ n := by
  intro n
  induction n with
  | zero =>
    intro ds hl _
    rw [List.length_eq_zero_iff.1 hl]
    decide
  | succ n ih =>
    intro ds hl hd
    rcases List.eq_nil_or_concat ds with rfl | ⟨es, c, rfl⟩
    · simp at hl
    · rw [List.concat_eq_append] at *
      obtain ⟨d, hd10, _, hcn⟩ := dg_val (hd c (by simp))
      have := ih es (by simpa using hl) (fun x hx => hd x (by simp [hx]))
      rw [numV_snoc, Nat.pow_succ]
      omega
set_option maxRecDepth 100000 in
set_option maxHeartbeats 2000000 in
theorem l3Number_any (l : List UInt8) (i : Nat) (w : World) (hl : l.length ≤ 100000) (hi : i ≤ l.length) :
    Calls Tryd.prog 44 #[.string ⟨l.toArray⟩, .int .i64 (i : Int)] w fun e w' => e = .returned (numRes l i) ∧ w = w' := by
  have hsz : (⟨l.toArray⟩ : ByteArray).size = l.length := by simp [ByteArray.size]
  have hD : (l.drop i).length = l.length - i := List.length_drop
  have hm4 := digs_len (l.drop i)
  have hget := Lib.hid (fun j (h : j < (digs (l.drop i)).length) => digs_get h)
  have hst := Lib.hid (digs_stop (l.drop i))
  have hbd := Lib.hid (show ∀ j, j ≤ 4 → numV ((digs (l.drop i)).take j) < 10000 from fun j hj => by
    have h1 := numV_lt _ ((digs (l.drop i)).take j) rfl (fun c hc => digs_isDg _ c (List.mem_of_mem_take hc))
    have h2 : ((digs (l.drop i)).take j).length ≤ 4 := by rw [List.length_take]; omega
    have h3 : 10 ^ ((digs (l.drop i)).take j).length ≤ 10 ^ 4 := Nat.pow_le_pow_right (by omega) h2
    omega)
  have hbyte := Lib.hid (show ∀ j c, (l.drop i)[j]? = some c → ∃ h : i + j < (⟨l.toArray⟩ : ByteArray).size, ((⟨l.toArray⟩ : ByteArray)[i + j]'h) = c from fun j c h => by
    rw [List.getElem?_drop] at h
    have hlt : i + j < l.length := (List.getElem?_eq_some_iff.1 h).1
    refine ⟨by rw [hsz]; exact hlt, ?_⟩
    have := Lib.data_getElem? (⟨l.toArray⟩ : ByteArray) (i + j) (by rw [hsz]; exact hlt)
    have h2 : l[i + j]? = some ((⟨l.toArray⟩ : ByteArray)[i + j]'(by rw [hsz]; exact hlt)) := by simpa using this
    rw [h] at h2
    exact (Option.some.inj h2).symm)
  have hR : numRes l i = if digs (l.drop i) = [] then .tuple #[.int .i64 0, .int .i64 (-1)] else if (digs (l.drop i)).length > 1 ∧ (digs (l.drop i)).head? = some 48 then .tuple #[.int .i64 0, .int .i64 (-1)] else .tuple #[.int .i64 (numV (digs (l.drop i)) : Int), .int .i64 ((i + (digs (l.drop i)).length : Nat) : Int)] := by
    unfold numRes num4
    split <;> rename_i h
    · split at h
      · rename_i h1; rw [if_pos h1]
      · rename_i h1
        split at h
        · rename_i h2; rw [if_neg h1, if_pos h2]
        · cases h
    · split at h
      · cases h
      · rename_i h1
        split at h
        · cases h
        · rename_i h2; cases h; rw [if_neg h1, if_neg h2]
  have hRh := Lib.hid hR
  clear hR
  generalize numRes l i = R at *
  generalize digs (l.drop i) = ds at *
  generalize hB : (⟨l.toArray⟩ : ByteArray) = S at *
  clear hB
  go_enter Tryd.func44, Tryd.ntmps44
  go_wp2_with fail
  have hszh := Lib.hid hsz
  clear hsz hD
  go_loopw [6, 7] (fun n k wr => ∃ (j : Nat), j ≤ ds.length ∧ n = .int .i64 (numV (ds.take j) : Int) ∧ k = .int .i64 ((i + j : Nat) : Int) ∧ wr = w) (fun _ k _ => (S.size + 1) - (intOf k).toNat)
  case atStart => exact ⟨0, Nat.zero_le _, rfl, rfl, rfl⟩
  case round =>
    obtain ⟨j, hj, rfl, rfl, rfl⟩ := hrel
    by_cases hjl : j < ds.length
    · obtain ⟨c, h1, h2, h3⟩ := hget.out j hjl
      obtain ⟨hx, hc⟩ := hbyte.out j c h1
      have hd' : 48 ≤ c.toNat ∧ c.toNat ≤ 57 := by unfold isDg at h3; simpa using h3
      have d1 : (48 : Int) ≤ (c.toNat : Int) := by omega
      have d2 : (c.toNat : Int) ≤ 57 := by omega
      have e1 := Lib.hid (numV_take h2)
      have hj4 : j < 4 := by omega
      have hkI : ((i + j : Nat) : Int) < (S.size : Int) := by omega
      have hkJ : ((i + j : Nat) : Int) < (i : Int) + 4 := by omega
      have hk0 : (0 : Int) ≤ ((i + j : Nat) : Int) := by omega
      clear h1 h2 h3 hj4
      have hb1 := hbd.out j (by omega)
      generalize numV (ds.take j) = v at *
      have hw1 : wrap64 (10 * (v : Int)) = 10 * (v : Int) := IntWalk.wrap64_in _ ⟨by omega, by omega⟩
      have hw2 : wrap64 (10 * (v : Int) + ((c.toNat : Int) - 48)) = 10 * (v : Int) + ((c.toNat : Int) - 48) := IntWalk.wrap64_in _ ⟨by omega, by omega⟩
      go_wp2_with fail
      refine ⟨⟨j + 1, by omega, ?_, ?_, trivial⟩, ?_⟩
      · rw [e1.out]
        exact congrArg (Value.int IntKind.i64) (by omega)
      · exact congrArg (Value.int IntKind.i64) (by omega)
      · simp [intOf]; omega
    · obtain rfl : j = ds.length := by omega
      rw [List.take_length]
      have hv := hbd.out 4 (Nat.le_refl _)
      rw [List.take_of_length_le hm4.1] at hv
      have hstop := Lib.hid (show ∀ c, (l.drop i)[ds.length]? = some c → 48 ≤ c.toNat → c.toNat ≤ 57 → ds.length = 4 from fun c hc h1 h2 => by
        rcases hst.out with h | h | ⟨c', k1, k2⟩
        · exact h
        · have := (List.getElem?_eq_some_iff.1 hc).1; omega
        · rw [k1] at hc
          cases hc
          unfold isDg at k2
          simp [h1, h2] at k2)
      have hch := Lib.hid (show i + ds.length < S.size → ∃ c, (l.drop i)[ds.length]? = some c from fun h => by
        have h2 := hszh.out
        exact ⟨_, List.getElem?_eq_getElem (by rw [List.length_drop]; omega)⟩)
      have hk0 : (0 : Int) ≤ ((i + ds.length : Nat) : Int) := by omega
      have hA := Lib.hid (show ds.length = 0 → R = .tuple #[.int .i64 0, .int .i64 (-1)] from fun h => by rw [hRh.out, if_pos (List.length_eq_zero_iff.1 h)])
      have hBC := Lib.hid (show ds.length ≠ 0 → ∃ c0, (l.drop i)[0]? = some c0 ∧ R = if 1 < ds.length ∧ c0 = 48 then .tuple #[.int .i64 0, .int .i64 (-1)] else .tuple #[.int .i64 (numV ds : Int), .int .i64 ((i + ds.length : Nat) : Int)] from fun h => by
        obtain ⟨c0, k1, k2, _⟩ := hget.out 0 (by omega)
        have hne : ds ≠ [] := fun e => h (by rw [e]; rfl)
        have hh : ds.head? = some c0 := by rw [List.head?_eq_getElem?]; exact k2
        refine ⟨c0, k1, ?_⟩
        rw [hRh.out, if_neg hne, hh]
        by_cases h1 : 1 < ds.length ∧ c0 = 48
        · rw [if_pos h1, if_pos ⟨h1.1, by rw [h1.2]⟩]
        · rw [if_neg h1, if_neg (fun h2 => h1 ⟨h2.1, Option.some.inj h2.2⟩)])
      clear hRh hst hget hbd
      generalize numV ds = V at *
      generalize ds.length = m at *
      by_cases hm0 : m = 0
      · have hR := Lib.hid (hA.out hm0)
        have hq : ((i : Int) + (m : Int) == (i : Int)) = true := by rw [beq_iff_eq]; omega
        clear hm0 hBC hA
        by_cases hlen : i + m < S.size
        · obtain ⟨c, hc0⟩ := hch.out hlen
          obtain ⟨hx, hc⟩ := hbyte.out m c hc0
          have hkI : ((i + m : Nat) : Int) < (S.size : Int) := by omega
          by_cases d1 : (48 : Int) ≤ (c.toNat : Int)
          · by_cases d2 : (c.toNat : Int) ≤ 57
            · have hm4e : m = 4 := hstop.out c hc0 (by omega) (by omega)
              have hkJ : ¬ (m : Int) < 4 := by omega
              clear hm4e hc0
              go_wp2_with fail
              exact bodyPost_ret (v := .tuple #[.int .i64 0, .int .i64 (-1)]) (by simp [results, Tryd.results44, go_sem]) rfl ⟨by rw [hR.out], rfl⟩
            · clear hc0
              go_wp2_with fail
              exact bodyPost_ret (v := .tuple #[.int .i64 0, .int .i64 (-1)]) (by simp [results, Tryd.results44, go_sem]) rfl ⟨by rw [hR.out], rfl⟩
          · clear hc0
            go_wp2_with fail
            exact bodyPost_ret (v := .tuple #[.int .i64 0, .int .i64 (-1)]) (by simp [results, Tryd.results44, go_sem]) rfl ⟨by rw [hR.out], rfl⟩
        · have hkI : ¬ ((i + m : Nat) : Int) < (S.size : Int) := by omega
          go_wp2_with fail
          exact bodyPost_ret (v := .tuple #[.int .i64 0, .int .i64 (-1)]) (by simp [results, Tryd.results44, go_sem]) rfl ⟨by rw [hR.out], rfl⟩
      · obtain ⟨c0, hc00, hRR⟩ := hBC.out hm0
        obtain ⟨hy, hyc⟩ := hbyte.out 0 c0 hc00
        have hq : ((i : Int) + (m : Int) == (i : Int)) = false := by rw [beq_eq_false_iff_ne]; omega
        have hyi : i < S.size := by omega
        have hyI : (i : Int) < (S.size : Int) := by omega
        have hys : S[i]'hyi = c0 := hyc
        have hi0 : (0 : Int) ≤ (i : Int) := by omega
        clear hBC hA hy hyc hc00
        by_cases hm1 : 1 < m
        · have hgt : (i : Int) + 1 < (i : Int) + (m : Int) := by omega
          have hgt2 : (1 : Int) < (m : Int) := by omega
          have hgt3 := hm1
          by_cases hz : c0 = 48
          · have hR := Lib.hid (show R = .tuple #[.int .i64 0, .int .i64 (-1)] by rw [hRR, if_pos ⟨hm1, hz⟩])
            have hzb : ((c0.toNat : Int) == 48) = true := by rw [hz]; rfl
            clear hRR hz hm0 hm1
            by_cases hlen : i + m < S.size
            · obtain ⟨c, hc0⟩ := hch.out hlen
              obtain ⟨hx, hc⟩ := hbyte.out m c hc0
              have hkI : ((i + m : Nat) : Int) < (S.size : Int) := by omega
              by_cases d1 : (48 : Int) ≤ (c.toNat : Int)
              · by_cases d2 : (c.toNat : Int) ≤ 57
                · have hm4e : m = 4 := hstop.out c hc0 (by omega) (by omega)
                  have hkJ : ¬ (m : Int) < 4 := by omega
                  clear hm4e hc0
                  go_wp2_with fail
                  exact bodyPost_ret (v := .tuple #[.int .i64 0, .int .i64 (-1)]) (by simp [results, Tryd.results44, go_sem]) rfl ⟨by rw [hR.out], rfl⟩
                · clear hc0
                  go_wp2_with fail
                  exact bodyPost_ret (v := .tuple #[.int .i64 0, .int .i64 (-1)]) (by simp [results, Tryd.results44, go_sem]) rfl ⟨by rw [hR.out], rfl⟩
              · clear hc0
                go_wp2_with fail
                exact bodyPost_ret (v := .tuple #[.int .i64 0, .int .i64 (-1)]) (by simp [results, Tryd.results44, go_sem]) rfl ⟨by rw [hR.out], rfl⟩
            · have hkI : ¬ ((i + m : Nat) : Int) < (S.size : Int) := by omega
              go_wp2_with fail
              exact bodyPost_ret (v := .tuple #[.int .i64 0, .int .i64 (-1)]) (by simp [results, Tryd.results44, go_sem]) rfl ⟨by rw [hR.out], rfl⟩
          · have hR := Lib.hid (show R = .tuple #[.int .i64 (V : Int), .int .i64 ((i + m : Nat) : Int)] by rw [hRR, if_neg (fun h => hz h.2)])
            have hzb : ((c0.toNat : Int) == 48) = false := by
              rw [beq_eq_false_iff_ne]
              intro h
              apply hz
              apply UInt8.toNat_inj.1
              show c0.toNat = 48
              omega
            clear hRR hz hm0 hm1
            by_cases hlen : i + m < S.size
            · obtain ⟨c, hc0⟩ := hch.out hlen
              obtain ⟨hx, hc⟩ := hbyte.out m c hc0
              have hkI : ((i + m : Nat) : Int) < (S.size : Int) := by omega
              by_cases d1 : (48 : Int) ≤ (c.toNat : Int)
              · by_cases d2 : (c.toNat : Int) ≤ 57
                · have hm4e : m = 4 := hstop.out c hc0 (by omega) (by omega)
                  have hkJ : ¬ (m : Int) < 4 := by omega
                  clear hm4e hc0
                  go_wp2_with fail
                  exact bodyPost_ret (v := .tuple #[.int .i64 (V : Int), .int .i64 ((i + m : Nat) : Int)]) (by simp [results, Tryd.results44, go_sem]) rfl ⟨by rw [hR.out], rfl⟩
                · clear hc0
                  go_wp2_with fail
                  exact bodyPost_ret (v := .tuple #[.int .i64 (V : Int), .int .i64 ((i + m : Nat) : Int)]) (by simp [results, Tryd.results44, go_sem]) rfl ⟨by rw [hR.out], rfl⟩
              · clear hc0
                go_wp2_with fail
                exact bodyPost_ret (v := .tuple #[.int .i64 (V : Int), .int .i64 ((i + m : Nat) : Int)]) (by simp [results, Tryd.results44, go_sem]) rfl ⟨by rw [hR.out], rfl⟩
            · have hkI : ¬ ((i + m : Nat) : Int) < (S.size : Int) := by omega
              go_wp2_with fail
              exact bodyPost_ret (v := .tuple #[.int .i64 (V : Int), .int .i64 ((i + m : Nat) : Int)]) (by simp [results, Tryd.results44, go_sem]) rfl ⟨by rw [hR.out], rfl⟩
        · have hgt : ¬ (i : Int) + 1 < (i : Int) + (m : Int) := by omega
          have hgt2 : ¬ (1 : Int) < (m : Int) := by omega
          have hgt3 := hm1
          have hR := Lib.hid (show R = .tuple #[.int .i64 (V : Int), .int .i64 ((i + m : Nat) : Int)] by rw [hRR, if_neg (fun h => hm1 h.1)])
          clear hRR hm0 hm1
          by_cases hlen : i + m < S.size
          · obtain ⟨c, hc0⟩ := hch.out hlen
            obtain ⟨hx, hc⟩ := hbyte.out m c hc0
            have hkI : ((i + m : Nat) : Int) < (S.size : Int) := by omega
            by_cases d1 : (48 : Int) ≤ (c.toNat : Int)
            · by_cases d2 : (c.toNat : Int) ≤ 57
              · have hm4e : m = 4 := hstop.out c hc0 (by omega) (by omega)
                exact absurd (show 1 < m by omega) hgt3
              · clear hc0
                go_wp2_with fail
                exact bodyPost_ret (v := .tuple #[.int .i64 (V : Int), .int .i64 ((i + m : Nat) : Int)]) (by simp [results, Tryd.results44, go_sem]) rfl ⟨by rw [hR.out], rfl⟩
            · clear hc0
              go_wp2_with fail
              exact bodyPost_ret (v := .tuple #[.int .i64 (V : Int), .int .i64 ((i + m : Nat) : Int)]) (by simp [results, Tryd.results44, go_sem]) rfl ⟨by rw [hR.out], rfl⟩
          · have hkI : ¬ ((i + m : Nat) : Int) < (S.size : Int) := by omega
            go_wp2_with fail
            exact bodyPost_ret (v := .tuple #[.int .i64 (V : Int), .int .i64 ((i + m : Nat) : Int)]) (by simp [results, Tryd.results44, go_sem]) rfl ⟨by rw [hR.out], rfl⟩
end Go.Proofs.YtlehnlfgjadleaaDoor
