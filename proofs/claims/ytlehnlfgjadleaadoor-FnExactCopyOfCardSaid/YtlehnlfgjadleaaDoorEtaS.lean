/- The reference's l4Eta. -/
import Derived.Test.YtlehnlfgjadleaaDoorSBodyA
import Derived.Test.YtlehnlfgjadleaaDoorTidy
import Derived.Deep.RegionLaw
namespace Go.Proofs.YtlehnlfgjadleaaDoor
open Go.RowKit

/-- append of one element of four cells, at an operation. -/
theorem wp_app4 {P : Program} {w : World} {o : Oper} {a : Act} {K : Act → World → Prop} {Q : Exit → Act → World → Prop} (s x : Operand) (t : TypeId)
    (ho : o.op = .call { callee := .builtin .append, args := #[s, x], argTypes := #[t, t] })
    (base : Nat) (e : TypeId) (z : Value) (bytes : Nat) (ht : P.underlying t = some (.slice e)) (hi : (P.info? e).map (fun i => (i.zero, i.size, i.bytes)) = some (some z, 4, bytes)) (hzs : z.cells.size = 4)
    (A0 : Option Addr) (cap0 n : Nat) (xs : List Value) (hs : a.eval s = .slice A0 n cap0) (hown : w.ownsRow base e 4 (.slice A0 n cap0) n xs)
    (g : Nat) (u1 u2 u3 u4 : Value) (hx : a.eval x = .slice (some ⟨g, 0, none⟩) 1 1) (hb : Blk w g e #[u1, u2, u3, u4]) (h1 : u1.oneCell' = true) (h2 : u2.oneCell' = true) (h3 : u3.oneCell' = true) (h4 : u4.oneCell' = true)
    (h63 : n + 1 ≤ maxLen) (hbytes : (n + 1) * bytes ≤ 140737488355328) (hbase : base ≤ w.heap.size) (N : Nat) (hN : n + 1 = N)
    (h : ∀ A' cap w', w'.ownsRow base e 4 (.slice A' N cap) N (xs ++ [u1, u2, u3, u4]) → w.grownBy w' (Value.slice A0 n cap0).ownBlock →
      ((Value.slice A' N cap).ownBlock = (Value.slice A0 n cap0).ownBlock ∨ (Value.slice A' N cap).ownBlock = some w.heap.size) → K (a.put o.dst (.slice A' N cap)) w') : o.wp P a w K Q := by
  subst hN
  cases hii : P.info? e with
  | none => rw [hii] at hi; cases hi
  | some i =>
    rw [hii] at hi
    injection hi with hi
    injection hi with hz hi
    injection hi with k2 h48
    obtain ⟨v', w', hrun, r2, r3, _, r5⟩ := run_append_own_at (P := P) w base t o.type e i _ 4 bytes ht hii hz k2 h48 hzs (by omega) _ n _ hown ⟨g, 0, none⟩ 1 1 [u1, u2, u3, u4] rfl
      (fun j y hj => by
        rw [show (Addr.add ⟨g, 0, none⟩ j) = ⟨g, j, none⟩ by (simp [Addr.add]; omega), hb.cell]
        simpa using hj) (fun y hy => by
        simp only [List.mem_cons, List.not_mem_nil, or_false] at hy
        rcases hy with rfl | rfl | rfl | rfl
        · exact h1
        · exact h2
        · exact h3
        · exact h4) h63 hbytes hbase
    obtain ⟨hl, ⟨e1, e2⟩ | ⟨g', cap, cur, rfl, _⟩⟩ := id r2
    · omega
    unfold Oper.wp execOp
    simp only [ho, resolve, invoke, builtin, Sem.run_bind, Sem.run_pure, Result.andThen_ok, List.map_toArray, List.map_cons, List.map_nil, hs, hx, hrun]
    exact h _ cap w' r2 r3 r5
theorem etas_level (t : Ty) : ∀ (acc : Bo) (i N : Nat), acc.isLi = true → (etas t acc i N).isLi = true ∧ (etas t acc i N).level = acc.level ∧ (etas t acc i N).np = acc.np + t.args.length := by
  induction t with
  | b => intro acc i N h; exact ⟨h, rfl, rfl⟩
  | arr a c _ ihc =>
    intro acc i N h
    obtain ⟨h1, h2, h3⟩ := ihc (.sn acc (eta a i N)) (i + 1) N rfl
    refine ⟨h1, h2, ?_⟩
    rw [etas_arr, h3]
    simp only [Bo.np, Ty.args, List.length_cons]
    omega
theorem gr_ownM {w0 w1 w2 : World} {b m : Nat} {e : TypeId} {v : Value} {n : Nat} {xs : List Value} (h : w0.grownBy w1 none) (hown : w1.ownsRow b e m v n xs) (hb : w0.heap.size ≤ b) (hg : w1.grownBy w2 v.ownBlock) : w0.grownBy w2 none := by
  cases hv : v.ownBlock with
  | none => rw [hv] at hg; exact gr_trans h hg
  | some g => rw [hv] at hg; exact gr_trans_new h hg (Nat.le_trans hb (ownN_lt hown hv).1)
/-- The reference's copy in the making. -/
structure ES (w wr : World) (t : Ty) (A : Option Addr) (c lv : Nat) (acc : Bo) (K : List ND) (A' : Option Addr) (cap k : Nat) : Prop where
  len : K.length = k
  par : acc.parts = K.map ND.x
  gr : w.grownBy wr none
  b0 : Blk wr w.heap.size 29 #[.slice A t.args.length c]
  b1 : Blk wr (w.heap.size + 1) 36 #[.string ⟨#[]⟩, .int .i64 0, .slice none 0 0, .slice none 0 0]
  b2 : Blk wr (w.heap.size + 1 + 1) 36 #[.string ⟨#[]⟩, .int .i64 (lv : Int), .slice A' k cap, .slice none 0 0]
  rows : Rows2 wr (w.heap.size + 1 + 1) (.slice A' k cap) (.slice none 0 0) K []
theorem ES.own {w wr : World} {t : Ty} {A A' : Option Addr} {c lv cap k : Nat} {acc : Bo} {K : List ND} (h : ES w wr t A c lv acc K A' cap k) : wr.ownsRow (w.heap.size + 1 + 1 + 1) 36 4 (.slice A' k cap) k (K.flatMap ND.cells) := by
  have := h.rows.k
  rw [h.len] at this
  exact this
theorem ES.push {w wr w6 w8 : World} {t : Ty} {A A' A6 B6 A8 : Option Addr} {c lv cap k c6 d6 c8 : Nat} {acc x : Bo} {K : List ND} (h : ES w wr t A c lv acc K A' cap k) (hg1 : wr.grownBy w6 none) (hx : NV w6 (Fr wr.heap.size) A6 c6 B6 d6 x)
    (hown8 : w8.ownsRow (w.heap.size + 1 + 1 + 1) 36 4 (.slice A8 (k + 1) c8) (k + 1) (K.flatMap ND.cells ++ [.string ⟨x.atm.toArray⟩, .int .i64 (x.level : Int), .slice A6 x.kn c6, .slice B6 x.yn d6]))
    (hg8 : (w6.alloc (.cells #[.string ⟨x.atm.toArray⟩, .int .i64 (x.level : Int), .slice A6 x.kn c6, .slice B6 x.yn d6] 36)).grownBy w8 (Value.slice A' k cap).ownBlock)
    (hat : (Value.slice A8 (k + 1) c8).ownBlock = (Value.slice A' k cap).ownBlock ∨ (Value.slice A8 (k + 1) c8).ownBlock = some (w6.alloc (.cells #[.string ⟨x.atm.toArray⟩, .int .i64 (x.level : Int), .slice A6 x.kn c6, .slice B6 x.yn d6] 36)).heap.size) :
    ES w (w8.setCell ⟨w.heap.size + 1 + 1, 2, none⟩ (.slice A8 (k + 1) c8)) t A c lv (.sn acc x) (K ++ [⟨x, A6, c6, B6, d6⟩]) A8 c8 (k + 1) := by
  have hga := World.grownBy_alloc w6 (.cells #[.string ⟨x.atm.toArray⟩, .int .i64 (x.level : Int), .slice A6 x.kn c6, .slice B6 x.yn d6] 36) none
  have hown7 := ownN_keep (ownN_keep h.own hg1 (by simp)) hga (by simp)
  have h2l := h.b2.lt
  have hne : ∀ b, b ≤ w.heap.size + 1 + 1 → some b ≠ (Value.slice A' k cap).ownBlock := fun b hb e => by have := (ownN_lt h.own e.symm).1; omega
  refine ⟨by simp [h.len], by simp only [Bo.parts, h.par, List.map_append, List.map_cons, List.map_nil], gr_set (gr_ownM (gr_trans (gr_trans h.gr hg1) hga) hown7 (by omega) hg8) (.inr (by show w.heap.size ≤ w.heap.size + 1 + 1; omega)) _, ?_, ?_, ?_, ?_⟩
  · exact ((((h.b0.grown0 hg1).grown0 hga).grown hg8 (hne _ (by omega))).other (by show w.heap.size ≠ w.heap.size + 1 + 1; omega) _)
  · exact ((((h.b1.grown0 hg1).grown0 hga).grown hg8 (hne _ (by omega))).other (by show w.heap.size + 1 ≠ w.heap.size + 1 + 1; omega) _)
  · have := (((h.b2.grown0 hg1).grown0 hga).grown hg8 (hne _ (by omega))).set 2 (.slice A8 (k + 1) c8)
    simpa using this
  · exact Rows2.step (i := 2) (st := .slice A8 (k + 1) c8) h.len h.rows (gr_trans hg1 hga) h2l (hx.grown0 hga) hown8 hg8 hat
/-- A store at or below the node keeps its rows. -/
theorem Rows2.low {w : World} {Bx : Nat} {v u : Value} {K Y : List ND} (h : Rows2 w Bx v u K Y) {p : Addr} (hp : p.block ≤ Bx) (x : Value) : Rows2 (w.setCell p x) Bx v u K Y :=
  ⟨ownN_keep h.k (gr_set (gr_refl w (some p.block)) (.inl rfl) x) (fun g hg he => by cases he; have := (ownN_lt h.k hg).1; omega),
   ownN_keep h.y (gr_set (gr_refl w (some p.block)) (.inl rfl) x) (fun g hg he => by cases he; have := (ownN_lt h.y hg).1; omega), h.ne,
   fun d hd => (h.s d hd).keep fun b hb _ => heap_setCell_other _ _ _ _ (by have := hb.1; omega)⟩
/-- The answers' row. -/
def yes8 : Array Value := #[.string ⟨#[116]⟩, .int .i64 0, .slice none 0 0, .slice none 0 0, .string ⟨#[102]⟩, .int .i64 0, .slice none 0 0, .slice none 0 0]
theorem Rows2.answers {w : World} {Bx k cap : Nat} {A' : Option Addr} {K : List ND} (h : Rows2 w Bx (.slice A' k cap) (.slice none 0 0) K []) (hB : Bx < w.heap.size) :
    Rows2 (w.alloc (.cells yes8 36)) Bx (.slice A' k cap) (.slice (some ⟨w.heap.size, 0, none⟩) 2 2) K [⟨.w [116], none, 0, none, 0⟩, ⟨.w [102], none, 0, none, 0⟩] := by
  have hga := World.grownBy_alloc w (.cells yes8 36) none
  refine ⟨ownN_keep h.k hga (by simp), ⟨rfl, .inr ⟨w.heap.size, 2, yes8, rfl, hB, heap_alloc_new _ _, Nat.le_refl _, by unfold maxLen; omega, rfl, rfl⟩⟩, fun g hg e => by have := (ownN_lt h.k hg).2; have e2 : w.heap.size = g := Option.some.inj e; omega, fun d hd => ?_⟩
  simp only [List.mem_append, List.mem_cons, List.not_mem_nil, or_false] at hd
  rcases hd with hd | rfl | rfl
  · refine ((h.s d (by simp [hd])).mono (G := OffN Bx (.slice A' k cap) (.slice (some ⟨w.heap.size, 0, none⟩) 2 2)) fun b hb hl => ⟨hb.1, hb.2.1, fun e => by have e2 : w.heap.size = b := Option.some.inj e; omega⟩).grown0 hga
  · exact NV.leaf rfl
  · exact NV.leaf rfl
theorem res4 {W : World} {n : Nat} {b0 b1 b2 b3 : Value} (h1 : Blk W n 36 #[b0, b1, b2, b3]) (v1 v2 v3 v4 : Value) :
    Blk ((((W.setCell ⟨n, 0, none⟩ v1).setCell ⟨n, 1, none⟩ v2).setCell ⟨n, 2, none⟩ v3).setCell ⟨n, 3, none⟩ v4) n 36 #[v1, v2, v3, v4] := by
  have k := Blk.set (Blk.set (Blk.set (Blk.set h1 0 v1) 1 v2) 2 v3) 3 v4
  simpa using k
set_option maxRecDepth 100000 in
set_option maxHeartbeats 4000000 in
theorem l4Eta_any (m : Nat) : ∀ (t : Ty) (A : Option Addr) (c lv n : Nat) (w : World), t.atoms ≤ m → t.atoms ≤ 100 → lv ≤ 1000 → n + t.atoms ≤ 1000 → TreeV w Al (.slice A t.args.length c) t →
    Calls Tryd.prog 15 #[.agg #[.slice A t.args.length c], .int .i64 (lv : Int), .int .i64 (n : Int)] w fun e w' => w.grownBy w' none ∧ ∃ A' c' B' d', e = .returned (nodeV (eta t lv n) A' c' B' d') ∧ NV w' (Fr w.heap.size) A' c' B' d' (eta t lv n) := by
  induction m with
  | zero => intro t A c lv n w h; have := t.atoms_pos; omega
  | succ m ih =>
    intro t A c lv n w hm h100 hlv hn hk
    have ihh := Lib.hid ih
    clear ih
    obtain ⟨A', cp, vs, e, hA, hs⟩ := hk.open_
    cases e
    have hAh := Lib.hid (fun (W : World) (hW : w.grownBy W none) => hA.grown0 hW)
    have hkid := Lib.hid (fun (W : World) (hW : w.grownBy W none) i u (hi : t.args[i]? = some u) => (hs i u hi).grown0 hW)
    have hla := t.length_args
    clear hA hs hk
    go_enter Tryd.func15, Tryd.ntmps15
    go_wp2_with fail
    have hga := gr_alloc (gr_alloc (World.grownBy_alloc w (.cells #[.slice A t.args.length c] 29) none) (.cells #[.string ⟨#[]⟩, .int .i64 0, .slice none 0 0, .slice none 0 0] 36)) (.cells #[.string ⟨#[]⟩, .int .i64 (lv : Int), .slice none 0 0, .slice none 0 0] 36)
    have hb0 := ((Blk.new w 29 #[.slice A t.args.length c]).alloc (.cells #[.string ⟨#[]⟩, .int .i64 0, .slice none 0 0, .slice none 0 0] 36)).alloc (.cells #[.string ⟨#[]⟩, .int .i64 (lv : Int), .slice none 0 0, .slice none 0 0] 36)
    have hb1 := (Blk.new (w.alloc (.cells #[.slice A t.args.length c] 29)) 36 #[.string ⟨#[]⟩, .int .i64 0, .slice none 0 0, .slice none 0 0]).alloc (.cells #[.string ⟨#[]⟩, .int .i64 (lv : Int), .slice none 0 0, .slice none 0 0] 36)
    rw [World.size_alloc] at hb1
    have hb2 := Blk.new ((w.alloc (.cells #[.slice A t.args.length c] 29)).alloc (.cells #[.string ⟨#[]⟩, .int .i64 0, .slice none 0 0, .slice none 0 0] 36)) 36 #[.string ⟨#[]⟩, .int .i64 (lv : Int), .slice none 0 0, .slice none 0 0]
    rw [World.size_alloc, World.size_alloc] at hb2
    have hb0h := Lib.hid hb0
    have hb1h := Lib.hid hb1
    have hb2h := Lib.hid hb2
    have hgah := Lib.hid hga
    clear hga hb0 hb1 hb2
    have hES0 := Lib.hid (show ES w _ t A c lv (.hd lv) [] none 0 0 from ⟨rfl, rfl, hgah.out, hb0h.out, hb1h.out, hb2h.out, ⟨⟨rfl, .inl ⟨rfl, rfl⟩⟩, ⟨rfl, .inl ⟨rfl, rfl⟩⟩, (fun g h => by cases h), (fun d h => by cases h)⟩⟩)
    clear hgah hb0h hb1h hb2h
    go_loopw [8] (fun i wr => ∃ (k : Nat) (acc : Bo) (rest : Ty) (K : List ND) (A' : Option Addr) (cap : Nat), i = .int .i64 (k : Int) ∧ k ≤ t.args.length ∧ rest.args = t.args.drop k ∧ etas rest acc (n + k) (n + t.args.length) = etas t (.hd lv) n (n + t.args.length) ∧ ES w wr t A c lv acc K A' cap k)
      (fun i _ => t.args.length - (intOf i).toNat)
    case atStart => exact ⟨0, .hd lv, t, [], none, 0, rfl, Nat.zero_le _, rfl, rfl, hES0.out⟩
    case round =>
      obtain ⟨k, acc, rest, K, A', cap, rfl, hjl, hrest, het, hE⟩ := hrel
      have hgw := hE.gr
      have a0 := hE.b0.cell 0
      have a0l := hE.b0.lt
      have o1 := hE.b2.cell 2
      have o1f := hE.b2.free 2
      have o1l := hE.b2.lt
      simp only [List.getElem?_toArray, List.getElem?_cons_zero, List.getElem?_cons_succ] at o1 a0
      by_cases hlt : k < t.args.length
      · cases rest with
        | b => have := congrArg List.length hrest; simp [Ty.args] at this; omega
        | arr a cc =>
          have hdr : t.args.drop k = a :: cc.args := hrest.symm
          have haj : t.args[k]? = some a := by
            have := congrArg (fun l => l[0]?) hdr
            simpa using this
          have hcr : cc.args = t.args.drop (k + 1) := by
            have := congrArg (List.drop 1) hdr
            simpa [List.drop_drop, Nat.add_comm] using this.symm
          have ham := Ty.atoms_of_args (List.mem_of_getElem? haj)
          have har := args_room (List.mem_of_getElem? haj)
          have hka := hkid.out wr hgw k a haj
          obtain ⟨Aa, ca, vsa, hva, _, _⟩ := hka.open_
          rw [hva] at hka
          obtain ⟨g, o, rfl, _, hcc⟩ := (hAh.out wr hgw) (by omega)
          have cj := hcc k hlt
          rw [hva] at cj
          have hR := fun (W : World) (hW : wr.grownBy W none) => ihh.out a Aa ca (n + k) (n + t.args.length) W (by omega) (by omega) (by omega) (by omega) (hka.grown0 hW)
          rw [show ((n + k : Nat) : Int) = (n : Int) + (k : Int) by omega, show ((n + t.args.length : Nat) : Int) = (n : Int) + (t.args.length : Int) by omega] at hR
          have het2 : etas cc (.sn acc (eta a (n + k) (n + t.args.length))) (n + (k + 1)) (n + t.args.length) = etas t (.hd lv) n (n + t.args.length) := het
          generalize eta a (n + k) (n + t.args.length) = x at *
          have hRh := Lib.hid hR
          have hEh := Lib.hid hE
          have hownh := Lib.hid hE.own
          have hgd := gr_drew (gr_refl wr none)
          have hcrh := Lib.hid hcr
          have het2h := Lib.hid het2
          have hw1 : IntKind.i64.wrap ((n : Int) + (k : Int)) = (n : Int) + (k : Int) := IntWalk.i64_in _ (by omega)
          have hw2 : IntKind.i64.wrap ((n : Int) + (t.args.length : Int)) = (n : Int) + (t.args.length : Int) := IntWalk.i64_in _ (by omega)
          clear hR hE hdr hcr het het2 hka hcc haj hrest hva
          go_wp2_with fail
          go_region_law (first
            | (rw [if_pos (by rfl)]; refine wp_app4 _ _ 34 rfl (w.heap.size + 1 + 1 + 1) 36 (.agg #[.string ⟨#[]⟩, .int .i64 0, .slice none 0 0, .slice none 0 0]) 72 Tryd.underlying34 info_node rfl A' cap k _ rfl hown7 w6.heap.size _ _ _ _ rfl hb7 rfl rfl rfl rfl (by unfold maxLen; omega) (by omega) hbs7 (k + 1) rfl ?_; intro A8 c8 w8 hown8 hg8 hat8; have hb8 := ((hEh.out.b2.grown0 hg06).alloc (.cells #[.string ⟨x.atm.toArray⟩, .int .i64 (x.level : Int), .slice A6 x.kn c6, .slice B6 x.yn d6] 36)).grown hg8 (fun e => by have := (ownN_lt hownh.out e.symm).1; omega); have x8 := hb8.cell 2; have x8f := hb8.free 2; have x8l := hb8.lt; simp only [List.getElem?_toArray, List.getElem?_cons_zero, List.getElem?_cons_succ] at x8)
            | (go_simp; go_at_call 15; refine (hRh.out _ hgd).mono ?_; rintro e w6 ⟨hg6, A6, c6, B6, d6, rfl, hn6⟩; have hg06 := gr_trans hgd hg6; have x6 := (hEh.out.b2.grown0 hg06).cell 2; have x6l := (hEh.out.b2.grown0 hg06).lt; have x7 := ((hEh.out.b2.grown0 hg06).alloc (.cells #[.string ⟨x.atm.toArray⟩, .int .i64 (x.level : Int), .slice A6 x.kn c6, .slice B6 x.yn d6] 36)).cell 2; simp only [List.getElem?_toArray, List.getElem?_cons_zero, List.getElem?_cons_succ] at x6 x7; have hga7 := World.grownBy_alloc w6 (.cells #[.string ⟨x.atm.toArray⟩, .int .i64 (x.level : Int), .slice A6 x.kn c6, .slice B6 x.yn d6] 36) none; have hown7 := ownN_keep (ownN_keep hownh.out hg06 (by simp)) hga7 (by simp); have hb7 := Blk.new w6 36 #[.string ⟨x.atm.toArray⟩, .int .i64 (x.level : Int), .slice A6 x.kn c6, .slice B6 x.yn d6]; have hbs7 : w.heap.size + 1 + 1 + 1 ≤ (w6.alloc (.cells #[.string ⟨x.atm.toArray⟩, .int .i64 (x.level : Int), .slice A6 x.kn c6, .slice B6 x.yn d6] 36)).heap.size := ((hEh.out.b2.grown0 hg06).alloc (.cells #[.string ⟨x.atm.toArray⟩, .int .i64 (x.level : Int), .slice A6 x.kn c6, .slice B6 x.yn d6] 36)).lt; unfold nodeV))
          all_goals
            have hE9 := Lib.hid (ES.push hEh.out hg06 hn6 hown8 hg8 hat8)
            go_wp2_with fail
            go_roundw
            case rel => exact ⟨k + 1, .sn acc x, cc, _, A8, c8, by go_num, by omega, hcrh.out, het2h.out, hE9.out⟩
            case measure => simp [intOf]; omega
      · have hfull : acc = etas t (.hd lv) n (n + t.args.length) := by
          rw [← het]
          cases rest with
          | b => rfl
          | arr a cc => have := congrArg List.length hrest; simp [Ty.args] at this; omega
        have hlv2 := etas_level t (.hd lv) n (n + t.args.length) rfl
        rw [← hfull] at hlv2
        have hnpk : acc.np = k := by rw [← Bo.np_parts, hE.par, List.length_map, hE.len]
        have hkn : (eta t lv n).kn = k := by unfold eta Bo.kn; rw [← hfull]; show acc.np + 1 + 1 - 2 = k; omega
        have hyn : (eta t lv n).yn = 2 := by unfold Bo.yn; rw [hkn]; unfold eta; rw [← hfull]; show acc.np + 1 + 1 - k = 2; omega
        have hlvl : (eta t lv n).level = lv := by unfold eta; rw [← hfull]; exact hlv2.2.1
        have hpar : (eta t lv n).parts = (K ++ ([⟨.w [116], none, 0, none, 0⟩, ⟨.w [102], none, 0, none, 0⟩] : List ND)).map ND.x := by unfold eta; rw [← hfull]; simp only [Bo.parts, hE.par, List.map_append, List.map_cons, List.map_nil, List.append_assoc, List.cons_append, List.nil_append]
        have hB2l := hE.b2.lt
        have p0 := hE.b2.cell 0
        have p1 := hE.b2.cell 1
        have p2 := hE.b2.cell 2
        have p3 := hE.b2.cell 3
        have p3f := hE.b2.free 3
        have r0 := hE.b1.cell 0
        have r1 := hE.b1.cell 1
        have r2 := hE.b1.cell 2
        have r3 := hE.b1.cell 3
        have rf0 := hE.b1.free 0
        have rf1 := hE.b1.free 1
        have rf2 := hE.b1.free 2
        have rf3 := hE.b1.free 3
        have rl := hE.b1.lt
        simp only [List.getElem?_toArray, List.getElem?_cons_zero, List.getElem?_cons_succ] at p0 p1 p2 p3 r0 r1 r2 r3
        have hb1b := hE.b1.other (p := ⟨w.heap.size + 1 + 1, 3, none⟩) (by show w.heap.size + 1 ≠ w.heap.size + 1 + 1; omega) (.slice (some ⟨wr.heap.size, 0, none⟩) 2 2)
        have hz := (res4 hb1b (.string ⟨#[]⟩) (.int .i64 (lv : Int)) (.slice A' k cap) (.slice (some ⟨wr.heap.size, 0, none⟩) 2 2)).alloc (.cells yes8 36)
        have hrow5 := ((((hE.rows.low (p := ⟨w.heap.size + 1 + 1, 3, none⟩) (Nat.le_refl _) (.slice (some ⟨wr.heap.size, 0, none⟩) 2 2)).low (p := ⟨w.heap.size + 1, 0, none⟩) (by show w.heap.size + 1 ≤ _; omega) (.string ⟨#[]⟩)).low (p := ⟨w.heap.size + 1, 1, none⟩) (by show w.heap.size + 1 ≤ _; omega) (.int .i64 (lv : Int))).low (p := ⟨w.heap.size + 1, 2, none⟩) (by show w.heap.size + 1 ≤ _; omega) (.slice A' k cap)).low (p := ⟨w.heap.size + 1, 3, none⟩) (by show w.heap.size + 1 ≤ _; omega) (.slice (some ⟨wr.heap.size, 0, none⟩) 2 2)
        have hrF := hrow5.answers (by simpa using hB2l)
        have hgF := gr_alloc (gr_set (gr_set (gr_set (gr_set (gr_set hE.gr (p := ⟨w.heap.size + 1 + 1, 3, none⟩) (.inr (by show w.heap.size ≤ w.heap.size + 1 + 1; omega)) (.slice (some ⟨wr.heap.size, 0, none⟩) 2 2)) (p := ⟨w.heap.size + 1, 0, none⟩) (.inr (by show w.heap.size ≤ w.heap.size + 1; omega)) (.string ⟨#[]⟩)) (p := ⟨w.heap.size + 1, 1, none⟩) (.inr (by show w.heap.size ≤ w.heap.size + 1; omega)) (.int .i64 (lv : Int))) (p := ⟨w.heap.size + 1, 2, none⟩) (.inr (by show w.heap.size ≤ w.heap.size + 1; omega)) (.slice A' k cap)) (p := ⟨w.heap.size + 1, 3, none⟩) (.inr (by show w.heap.size ≤ w.heap.size + 1; omega)) (.slice (some ⟨wr.heap.size, 0, none⟩) 2 2)) (.cells yes8 36)
        rw [← hE.len] at hrF
        simp only [World.size_setCell] at hrF
        have hNV := Rows2.node (lo := w.heap.size) (Bx := w.heap.size + 1 + 1) hrF hpar.symm (by rw [hkn]; exact hE.len) (by omega)
        rw [hE.len] at hNV
        have hNVh := Lib.hid hNV
        have hgFh := Lib.hid hgF
        have hnv : nodeV (eta t lv n) A' cap (some ⟨wr.heap.size, 0, none⟩) 2 = .agg #[.string ⟨#[]⟩, .int .i64 (lv : Int), .slice A' k cap, .slice (some ⟨wr.heap.size, 0, none⟩) 2 2] := by unfold nodeV; rw [hkn, hyn, hlvl]; rfl
        have hnvh := Lib.hid hnv
        have hzh := Lib.hid hz
        clear hpar hkn hyn hlvl hnpk hlv2 hfull hE hrest het hb1b hz hrow5 hrF hgF hNV hnv
        go_wp2_with fail
        have hzz := hzh.out
        unfold yes8 at hzz
        have z0 := hzz.cell 0
        have z1 := hzz.cell 1
        have z2 := hzz.cell 2
        have z3 := hzz.cell 3
        simp only [List.getElem?_toArray, List.getElem?_cons_zero, List.getElem?_cons_succ] at z0 z1 z2 z3
        refine bodyPost_ret (v := .agg #[.string ⟨#[]⟩, .int .i64 (lv : Int), .slice A' k cap, .slice (some ⟨wr.heap.size, 0, none⟩) 2 2]) ?_ rfl ?_
        · simp [results, Tryd.results15, go_sem, z0, z1, z2, z3]
        · exact ⟨hgFh.out, _, _, _, _, congrArg Ending.returned hnvh.out.symm, hNVh.out⟩
end Go.Proofs.YtlehnlfgjadleaaDoor
