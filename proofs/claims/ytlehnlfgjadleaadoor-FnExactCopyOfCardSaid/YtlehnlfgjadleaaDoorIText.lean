/- The program's depth, fits and text of bodies. -/
import Derived.Test.YtlehnlfgjadleaaDoorISize
import Derived.Test.YtlehnlfgjadleaaDoorTidy
namespace Go.Proofs.YtlehnlfgjadleaaDoor
open Go.RowKit

def bdep : List Bo → Nat
  | [] => 0
  | x :: l => max (x.dep + 1) (bdep l)
theorem bdep_app (l m : List Bo) : bdep (l ++ m) = max (bdep l) (bdep m) := by
  induction l with
  | nil => simp [bdep]
  | cons x r ih => simp only [List.cons_append, bdep, ih]; omega
theorem bdep_parts (b : Bo) : b.dep = bdep b.parts := by
  induction b with
  | w c => rfl
  | hd v => rfl
  | sn l x ihl _ => simp only [Bo.dep, Bo.parts, bdep_app, bdep, ihl]; omega
theorem bdep_take (L : List Bo) (k : Nat) : bdep (L.take k) ≤ bdep L := by
  have := bdep_app (L.take k) (L.drop k)
  rw [List.take_append_drop] at this
  omega
theorem bdep_next {L : List Bo} {k : Nat} {u : Bo} (h : L[k]? = some u) : bdep (L.take (k + 1)) = max (bdep (L.take k)) (u.dep + 1) := by
  obtain ⟨hk, rfl⟩ := List.getElem?_eq_some_iff.1 h
  rw [List.take_succ_eq_append_getElem hk, bdep_app]
  simp [bdep]
theorem dep_size (b : Bo) : b.dep < b.size := by
  induction b with
  | w c => simp [Bo.dep, Bo.size]
  | hd v => simp [Bo.dep, Bo.size]
  | sn l x ihl ihx => simp only [Bo.dep, Bo.size]; omega
set_option maxRecDepth 100000 in
set_option maxHeartbeats 2000000 in
theorem depthB_any (m : Nat) : ∀ (b : Bo) (q : Nat) (F : Nat → Prop) (w : World), b.size ≤ m → b.size ≤ 1000000 → BodyP w F q b →
    Calls Tryd.prog 30 #[.pointer (some ⟨q, 0, none⟩)] w fun e w' => e = .returned (.int .i64 (b.dep : Int)) ∧ w.grownBy w' none := by
  induction m with
  | zero => intro b q F w h; have := b.size_pos; omega
  | succ m ih =>
    intro b q F w hm hsz hk
    have ihh := Lib.hid ih
    clear ih
    cases hk with
    | leaf _ c hq hc hb =>
      have hP := Lib.hid (parts_leaf q c w hc hb)
      go_enter Tryd.func30, Tryd.ntmps30
      go_wp2_with fail
      refine hP.out.mono ?_
      rintro e w' ⟨rfl, rfl⟩
      go_wp2_with fail
      refine wp_loop_rounds 1 ?_
      rw [rounds_succ]
      go_wp2_with fail
      go_ret
      exact ⟨rfl, gr_refl _ _⟩
    | list _ _ mm A c ps hq hl hmm hb hA hs =>
      have hsp := Lib.hid (bsize_parts b)
      have hle := Lib.hid (bsum_take b.parts)
      have hpl : mm + 2 ≤ 1000000 := by have := hsp.out; have := bsum_len b.parts; omega
      have hpb : ∀ u ∈ b.parts, u.size + 1 ≤ b.size ∧ u.dep < u.size := by
        intro u hu
        obtain ⟨i, hi⟩ := List.getElem?_of_mem hu
        have h1 := bsum_next hi
        have h2 := hle.out (i + 1)
        have h3 := hsp.out
        exact ⟨by omega, dep_size u⟩
      have hpbh := Lib.hid hpb
      have hdl := Lib.hid (fun k => show bdep (b.parts.take k) ≤ 1000000 by have := bdep_take b.parts k; have := bdep_parts b; have := dep_size b; omega)
      have hP := Lib.hid (parts_list q mm b.level A c (fun i => .pointer (some ⟨ps i, 0, none⟩)) (ps mm) (ps (mm + 1)) F w hb hA (fun _ _ => rfl) (by omega))
      have hkh := Lib.hid (fun (W : World) (hW : w.grownBy W none) i u (hi : b.parts[i]? = some u) => (hs i u hi).grown0 hW)
      have hmmh := Lib.hid hmm
      clear hpb hs hA hb hmm
      go_enter Tryd.func30, Tryd.ntmps30
      go_wp2_with fail
      refine hP.out.mono ?_
      rintro e w1 ⟨A1, c1, rfl, hown1, hg1⟩
      have hS := parts_rows hown1
      clear hown1 hP
      go_wp2_with fail
      go_loopw [3, 9] (fun n i wr => ∃ k : Nat, k ≤ mm + 2 ∧ i = .int .i64 (k : Int) ∧ n = .int .i64 (bdep (b.parts.take k) : Int) ∧ w1.grownBy wr none) (fun _ i _ => mm + 2 - (intOf i).toNat)
      case atStart => exact ⟨0, Nat.zero_le _, rfl, rfl, gr_refl _ _⟩
      case round =>
        obtain ⟨wi, hwi⟩ : ∃ wo, wo = wr := ⟨_, rfl⟩
        subst hwi
        obtain ⟨k, hkl, rfl, rfl, hgw⟩ := hrel
        have hl1 := hdl.out k
        by_cases hlt : k < mm + 2
        · have hlt2 : k < b.parts.length := by rw [hmmh.out]; exact hlt
          have hkk : b.parts[k]? = some b.parts[k] := List.getElem?_eq_getElem hlt2
          have hch := hkh.out wi (gr_trans hg1 hgw) k _ hkk
          obtain ⟨g, o, rfl, _, hcc⟩ := (hS.grown0 hgw) (by omega)
          have q0 := hcc k hlt
          unfold bptr at q0
          have hmem := List.getElem_mem hlt2
          have hsn := Lib.hid (bdep_next hkk)
          have hps := hpbh.out _ hmem
          have hcl := Lib.hid (ihh.out b.parts[k] (ps k) F wi (by omega) (by omega) hch)
          have hud : b.parts[k].dep ≤ 1000000 := by omega
          clear hkk hmem hch hcc
          generalize b.parts[k] = u at *
          generalize hD : bdep (b.parts.take k) = D at *
          by_cases hmx : D ≤ 1 + u.dep
          · have hnx := Lib.hid (show bdep (b.parts.take (k + 1)) = 1 + u.dep by rw [hsn.out]; omega)
            have hmI : (D : Int) ≤ 1 + (u.dep : Int) := by omega
            have hmI2 : max (D : Int) (1 + (u.dep : Int)) = 1 + (u.dep : Int) := by omega
            go_wp2_with fail
            refine hcl.out.mono ?_
            rintro e w' ⟨rfl, hg2⟩
            go_wp2_with fail
            go_roundw
            case rel => exact ⟨k + 1, by omega, by go_num, by rw [hnx.out]; go_num, gr_trans hgw hg2⟩
            case measure => simp [intOf]; omega
          · have hnx := Lib.hid (show bdep (b.parts.take (k + 1)) = D by rw [hsn.out]; omega)
            have hmI : ¬ (D : Int) ≤ 1 + (u.dep : Int) := by omega
            have hmI2 : max (D : Int) (1 + (u.dep : Int)) = (D : Int) := by omega
            go_wp2_with fail
            refine hcl.out.mono ?_
            rintro e w' ⟨rfl, hg2⟩
            go_wp2_with fail
            go_roundw
            case rel => exact ⟨k + 1, by omega, by go_num, by rw [hnx.out], gr_trans hgw hg2⟩
            case measure => simp [intOf]; omega
        · have hfull := Lib.hid (show bdep (b.parts.take k) = b.dep by rw [List.take_of_length_le (by rw [hmmh.out]; omega)]; exact (bdep_parts b).symm)
          go_wp2_with fail
          go_ret
          exact ⟨by rw [← hfull.out]; rfl, gr_trans hg1 hgw⟩
set_option maxHeartbeats 2000000 in
theorem fits_any (b : Bo) (q : Nat) (F : Nat → Prop) (w : World) (hs : b.size ≤ 200) (hd : b.dep ≤ 100) (h : BodyP w F q b) :
    Calls Tryd.prog 20 #[.pointer (some ⟨q, 0, none⟩)] w fun e w' => e = .returned (.bool true) ∧ w.grownBy w' none := by
  have hS := Lib.hid (sizeB_any _ b q F w (Nat.le_refl _) (by omega) h)
  have hD := Lib.hid (fun W (hW : w.grownBy W none) => depthB_any _ b q F W (Nat.le_refl _) (by omega) (h.grown0 hW))
  have hdd := Lib.hid (show Ending.returned (.bool (decide ((b.dep : Int) ≤ 100))) = .returned (.bool true) by rw [decide_eq_true (by omega)])
  clear h
  go_enter Tryd.func20, Tryd.ntmps20
  go_wp2_with fail
  refine hS.out.mono ?_
  rintro e w1 ⟨rfl, hg1⟩
  go_wp2_with fail
  refine (hD.out w1 hg1).mono ?_
  rintro e w2 ⟨rfl, hg2⟩
  go_wp2_with fail
  go_ret
  exact ⟨hdd.out, gr_trans hg1 hg2⟩
def strT (x : List UInt8) : Value := .string ⟨x.toArray⟩
theorem map_bytes (xs : List (List UInt8)) : (xs.map fun l => (⟨l.toArray⟩ : ByteArray)).map (·.data.toList) = xs := by
  induction xs with
  | nil => rfl
  | cons x r ih => rw [List.map_cons, List.map_cons, ih]
theorem joinOwn_any (xs : List (List UInt8)) (A : Option Addr) (c n base : Nat) (w : World) (hn : xs.length = n) (h0 : xs ≠ []) (hown : w.ownsRow base 9 1 (.slice A n c) n (xs.map strT)) (hlen : (Lib.join xs [32]).length ≤ 1000000) (hxl : n ≤ 1000000) :
    Calls Tryd.prog 34 #[.slice A n c, .string ⟨#[32]⟩] w fun e w' => e = .returned (.string ⟨(Lib.join xs [32]).toArray⟩) ∧ w.grownBy w' none := by
  have hpos : 0 < n := by rw [← hn]; exact List.length_pos_iff.2 h0
  have hcap : n ≤ c := by
    obtain ⟨_, ⟨e1, e2⟩ | ⟨g', cap, cur, e1, _, _, h1, _⟩⟩ := hown
    · omega
    · injection e1 with _ _ e3; omega
  obtain ⟨A', c', e, hs⟩ := own_form hown
  cases e
  obtain ⟨g, o, rfl, _, hcell⟩ := hs Al (fun _ _ => trivial) hpos
  have hmd : (xs.map fun l => (⟨l.toArray⟩ : ByteArray)).map (·.data.toList) = xs := map_bytes xs
  have hJ := Tryd.strings_Join g o c (xs.map fun l => (⟨l.toArray⟩ : ByteArray)) ⟨#[32]⟩ w (fun j x hx => by
      rw [List.getElem?_map] at hx
      cases hy : xs[j]? with
      | none => rw [hy] at hx; cases hx
      | some y =>
        rw [hy] at hx
        simp only [Option.map_some, Option.some.injEq] at hx
        subst hx
        have hjl := (List.getElem?_eq_some_iff.1 hy).1
        rw [hcell j (by omega)]
        simp [List.getD, hy, strT])
    (World.block_lt_of_cell? w ⟨g, o + 0, none⟩ (hcell 0 hpos)) (by simp; omega) (by simp; omega) (by
      rw [hmd]
      rw [show (⟨#[32]⟩ : ByteArray).data.toList = [32] from rfl]
      omega)
  rw [List.length_map, hn, hmd, show (⟨#[32]⟩ : ByteArray).data.toList = [32] from rfl] at hJ
  refine hJ.mono ?_
  rintro e w' ⟨rfl, hb⟩
  exact ⟨rfl, gr_below hb⟩
theorem ba_list (bd : List UInt8) : ((⟨#[40]⟩ : ByteArray) ++ ⟨bd.toArray⟩ ++ ⟨#[41]⟩) = ⟨(40 :: (bd ++ [41])).toArray⟩ := by
  apply ByteArray.ext
  simp [ByteArray.data_append]
/-- The words of a list up to part k. -/
def wordsTo (b : Bo) (k : Nat) : List (List UInt8) := Lib.decDigits b.level :: (b.parts.take k).map Bo.text
theorem wordsTo_next {b : Bo} {k : Nat} {u : Bo} (h : b.parts[k]? = some u) : wordsTo b (k + 1) = wordsTo b k ++ [u.text] := by
  obtain ⟨hk, rfl⟩ := List.getElem?_eq_some_iff.1 h
  unfold wordsTo
  rw [List.take_succ_eq_append_getElem hk, List.map_append]
  rfl
set_option maxRecDepth 100000 in
set_option maxHeartbeats 4000000 in
theorem textB_any (m : Nat) : ∀ (b : Bo) (q : Nat) (F : Nat → Prop) (w : World), b.size ≤ m → b.size ≤ 1000 → b.tidy → BodyP w F q b →
    Calls Tryd.prog 21 #[.pointer (some ⟨q, 0, none⟩)] w fun e w' => e = .returned (.string ⟨b.text.toArray⟩) ∧ w.grownBy w' none := by
  induction m with
  | zero => intro b q F w h; have := b.size_pos; omega
  | succ m ih =>
    intro b q F w hm hsz htd hk
    have ihh := Lib.hid ih
    clear ih
    cases hk with
    | leaf _ c hq hc hb =>
      have hI := Lib.hid (isList_leaf q c w hc hb)
      have c0 := hb.cell 0
      have hlt := hb.lt
      simp only [List.getElem?_toArray, List.getElem?_cons_zero] at c0
      have hT := Lib.hid (show (Bo.w c).text = c from rfl)
      clear htd hm hsz
      go_enter Tryd.func21, Tryd.ntmps21
      go_wp2_with fail
      refine hI.out.mono ?_
      rintro e w' ⟨rfl, rfl⟩
      go_wp2_with fail
      go_ret
      exact ⟨by rw [hT.out]; rfl, gr_refl _ _⟩
    | list _ _ mm A c ps hq hl hmm hb hA hs =>
      have hsp := Lib.hid (bsize_parts b)
      have hle := Lib.hid (bsum_take b.parts)
      have hpl : mm + 2 ≤ 1000 := by have := hsp.out; have := bsum_len b.parts; omega
      have hpb : ∀ u ∈ b.parts, u.size + 1 ≤ b.size ∧ u.tidy := by
        intro u hu
        obtain ⟨i, hi⟩ := List.getElem?_of_mem hu
        have h1 := bsum_next hi
        have h2 := hle.out (i + 1)
        have h3 := hsp.out
        exact ⟨by omega, Bo.tidy_parts htd u hu⟩
      have hpbh := Lib.hid hpb
      have hlv := Bo.tidy_level htd hl
      have hj := Lib.hid (body_join htd hl)
      have htx := Lib.hid (Bo.text_li hl)
      have hbl := Lib.hid ((tidy_len htd).1 hl)
      have hI := Lib.hid (isList_list q (.int .i64 b.level) (.slice A mm c) _ _ w hb)
      have hIt := Lib.hid (fun W => Tryd.strconv_Itoa_small b.level hlv W)
      have c1 := hb.cell 1
      have hlt := hb.lt
      simp only [List.getElem?_toArray, List.getElem?_cons_zero, List.getElem?_cons_succ] at c1
      have hP := Lib.hid (fun W (hW : w.grownBy W none) => parts_list q mm b.level A c (fun i => .pointer (some ⟨ps i, 0, none⟩)) (ps mm) (ps (mm + 1)) F W (hb.grown0 hW) (hA.grown0 hW) (fun _ _ => rfl) (by omega))
      have hkh := Lib.hid (fun (W : World) (hW : w.grownBy W none) i u (hi : b.parts[i]? = some u) => (hs i u hi).grown0 hW)
      have hmmh := Lib.hid hmm
      have hW0 := Lib.hid (show wordsTo b 0 = [Lib.decDigits b.level] from rfl)
      have hga := World.grownBy_alloc w (.cells #[strT (Lib.decDigits b.level)] 9) none
      have hownA : (w.alloc (.cells #[strT (Lib.decDigits b.level)] 9)).ownsRow w.heap.size 9 1 (.slice (some ⟨w.heap.size, 0, none⟩) 1 1) 1 ((wordsTo b 0).map strT) :=
        ⟨rfl, .inr ⟨w.heap.size, 1, #[strT (Lib.decDigits b.level)], rfl, Nat.le_refl _, heap_alloc_new w _, Nat.le_refl _, by unfold maxLen; omega, rfl, rfl⟩⟩
      have hownAh := Lib.hid hownA
      have hszA := World.size_alloc w (.cells #[strT (Lib.decDigits b.level)] 9)
      have hblh := Lib.hid (show b.body.length ≤ 100000 by have := hbl.out; omega)
      generalize hlvv : b.level = lv at *
      generalize hdd : Lib.decDigits lv = dd at *
      have hdv := Lib.hid (show Lib.decDigits b.level = dd by rw [hlvv, hdd])
      clear hlvv hdd
      have hgah := Lib.hid hga
      clear hpb hs hA hb hmm htd hownA hbl
      go_enter Tryd.func21, Tryd.ntmps21
      go_wp2_with fail
      refine hI.out.mono ?_
      rintro e w' ⟨rfl, rfl⟩
      go_wp2_with fail
      refine (hIt.out _).mono ?_
      rintro e w' ⟨rfl, hw'⟩
      have hw2 := hw'.symm
      subst hw2
      go_wp2_with fail
      refine (hP.out _ hgah.out).mono ?_
      rintro e w1 ⟨A1, c1', rfl, hown1, hg1⟩
      rw [hszA] at hown1
      have hS := (parts_rows hown1).mono (G := fun g => w.heap.size < g ∧ g < w1.heap.size) fun g hg hl => ⟨by unfold Fr at hg; omega, hl⟩
      have hownw := own_keep hownAh.out hg1
      have hgw1 := gr_trans hgah.out hg1
      clear hown1 hP hIt hI
      go_wp2_with fail
      go_loopw [3, 22] (fun v i wr => ∃ (k : Nat) (A' : Option Addr) (c' : Nat), v = .slice A' (k + 1) c' ∧ i = .int .i64 (k : Int) ∧ k ≤ mm + 2 ∧ wr.ownsRow w.heap.size 9 1 (.slice A' (k + 1) c') (k + 1) ((wordsTo b k).map strT) ∧ w.grownBy wr none ∧ w1.heap.size ≤ wr.heap.size ∧
          (∀ g, (Value.slice A' (k + 1) c').ownBlock = some g → g = w.heap.size ∨ w1.heap.size ≤ g) ∧ (∀ g, w.heap.size < g → g < w1.heap.size → wr.heap[g]? = w1.heap[g]?)) (fun _ i _ => mm + 2 - (intOf i).toNat)
      case atStart => exact ⟨0, some ⟨w.heap.size, 0, none⟩, 1, rfl, rfl, Nat.zero_le _, hownw, hgw1, Nat.le_refl _, fun g hg => .inl (by cases hg; rfl), fun _ _ _ => rfl⟩
      case round =>
        obtain ⟨k, A', c', rfl, rfl, hkl, hown, hgr, hsz1, hob, hkeep⟩ := hrel
        by_cases hlt3 : k < mm + 2
        · have hlt2 : k < b.parts.length := by rw [hmmh.out]; exact hlt3
          have hkk : b.parts[k]? = some b.parts[k] := List.getElem?_eq_getElem hlt2
          have hch := hkh.out wr hgr k _ hkk
          obtain ⟨g, o, rfl, hgG, hcc⟩ := (hS.keep (w' := wr) fun g hg _ => hkeep g hg.1 hg.2) (by omega)
          have q0 := hcc k hlt3
          unfold bptr at q0
          have hmem := List.getElem_mem hlt2
          have hsn := Lib.hid (wordsTo_next hkk)
          have hps := hpbh.out _ hmem
          have hcl := Lib.hid (ihh.out b.parts[k] (ps k) F wr (by omega) (by omega) hps.2 hch)
          have hownh := Lib.hid hown
          have hobh := Lib.hid hob
          have hkeeph := Lib.hid hkeep
          clear hkk hmem hch hcc hps hown hob hkeep
          generalize b.parts[k] = u at *
          go_wp2_with fail
          refine hcl.out.mono ?_
          rintro e w' ⟨rfl, hg2⟩
          have hga2 := World.grownBy_alloc w' (.cells #[.string ⟨u.text.toArray⟩] 9) none
          have hown2 := own_keep (own_keep hownh.out hg2) hga2
          have hgr2 := gr_trans (gr_trans hgr hg2) hga2
          have hbase := hgr2.size
          have hg2s := hg2.size
          have hga2s := hga2.size
          go_wp2_with (at_builtin; refine wpList_app rfl _ _ 66 rfl w.heap.size 9 (.string ⟨#[]⟩) 16 Tryd.underlying66 info_str rfl _ _ (k + 1) _ rfl hown2 _ 1 1 _ rfl _ (sl_one w' 9 (.string ⟨u.text.toArray⟩)) (fun _ _ => rfl) (by unfold maxLen; omega) (by omega) hbase ?_; intro A2 c2 w3 hown3 hg3 hat3)
          have hg3s := hg3.size
          go_roundw
          case rel =>
            refine ⟨k + 1, A2, c2, rfl, by go_num, by omega, ?_, gr_ownP hgr2 hown2 (Nat.le_refl _) hg3, by omega, ?_, ?_⟩
            · rw [hsn.out, List.map_append]
              exact hown3
            · intro g' hg'
              rcases hat3 with e | e
              · rw [e] at hg'; exact hobh.out g' hg'
              · rw [e] at hg'; have := Option.some.inj hg'; right; omega
            · intro g' h1 h2
              refine (hg3.block g' (by omega) (fun e => ?_)).trans ((hga2.block g' (by omega) (by simp)).trans ((hg2.block g' (by omega) (by simp)).trans (hkeeph.out g' h1 h2)))
              rcases hobh.out g' e.symm with h | h <;> omega
          case measure => simp [intOf]; omega
        · obtain rfl : k = mm + 2 := by omega
          have hwt : wordsTo b (mm + 2) = dd :: b.parts.map Bo.text := by
            unfold wordsTo
            rw [List.take_of_length_le (by rw [hmmh.out]; omega), hdv.out]
          rw [hwt] at hown
          have hJ := Lib.hid (joinOwn_any (dd :: b.parts.map Bo.text) A' c' (mm + 2 + 1) w.heap.size wr (by simp [hmmh.out]) (by simp) hown (by rw [hj.out]; have := hblh.out; omega) (by omega))
          rw [hj.out] at hJ
          have hTe := Lib.hid (show b.text = 40 :: (b.body ++ [41]) from htx.out)
          generalize b.body = bd at *
          have hbl2 := hblh.out
          have hbl3 : ¬ 9223372036854775807 < 1 + bd.length := by omega
          have hbl4 : ¬ 9223372036854775807 < bd.length + 1 := by omega
          have hbl5 : ¬ 9223372036854775807 < bd.length + 1 + 1 := by omega
          have hbl6 : ¬ 9223372036854775807 < 1 + bd.length + 1 := by omega
          clear hown hob hkeep hwt hS
          go_wp2_with fail
          refine hJ.out.mono ?_
          rintro e w5 ⟨rfl, hg5⟩
          go_wp2_with fail
          go_ret
          exact ⟨by rw [hTe.out, ← ba_list bd]; rfl, gr_trans hgr hg5⟩
end Go.Proofs.YtlehnlfgjadleaaDoor
