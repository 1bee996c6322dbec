/- PLAIN: the copying strategy of a type, as a body; it is well formed and small. -/
import Derived.Test.YtlehnlfgjadleaaDoorBo3
namespace Go.Proofs.YtlehnlfgjadleaaDoor
open Go.RowKit

/-- The kids of a copy behind acc: the first one is level i, their own kids' levels begin at N. -/
def etas : Ty → Bo → Nat → Nat → Bo
  | .b, acc, _, _ => acc
  | .arr a c, acc, i, N => etas c (.sn acc (.sn (.sn (etas a (.hd i) N (N + a.args.length)) (.w [116])) (.w [102]))) (i + 1) N
/-- The copy of level lv, whose kids' levels begin at n. -/
def eta (t : Ty) (lv n : Nat) : Bo := .sn (.sn (etas t (.hd lv) n (n + t.args.length)) (.w [116])) (.w [102])
theorem etas_arr (a c : Ty) (acc : Bo) (i N : Nat) : etas (.arr a c) acc i N = etas c (.sn acc (eta a i N)) (i + 1) N := rfl
theorem etas_size (t : Ty) : ∀ (acc : Bo) (i N : Nat), (etas t acc i N).size + 3 ≤ acc.size + 3 * t.atoms := by
  induction t with
  | b => intro acc i N; simp [etas, Ty.atoms]
  | arr a c iha ihc =>
    intro acc i N
    have h1 := iha (.hd i) N (N + a.args.length)
    have h2 := ihc (.sn acc (eta a i N)) (i + 1) N
    rw [etas_arr]
    have e1 : (Bo.sn acc (eta a i N)).size = acc.size + (etas a (.hd i) N (N + a.args.length)).size + 2 := by simp only [eta, Bo.size]; omega
    have e2 : (Bo.hd i).size = 1 := rfl
    simp only [Ty.atoms]
    omega
theorem eta_size (t : Ty) (lv n : Nat) : (eta t lv n).size ≤ 3 * t.atoms := by
  have := etas_size t (.hd lv) n (n + t.args.length)
  simp only [eta, Bo.size] at this ⊢
  omega
theorem etas_dep (t : Ty) : ∀ (acc : Bo) (i N : Nat), (etas t acc i N).dep ≤ max acc.dep t.atoms := by
  induction t with
  | b => intro acc i N; simp only [etas]; omega
  | arr a c iha ihc =>
    intro acc i N
    have h1 := iha (.hd i) N (N + a.args.length)
    have h2 := ihc (.sn acc (eta a i N)) (i + 1) N
    have := a.atoms_pos
    rw [etas_arr]
    have e1 : (Bo.sn acc (eta a i N)).dep = max acc.dep (max (max (etas a (.hd i) N (N + a.args.length)).dep 1) 1 + 1) := by simp only [eta, Bo.dep]
    have e2 : (Bo.hd i).dep = 0 := rfl
    simp only [Ty.atoms]
    omega
theorem eta_dep (t : Ty) (lv n : Nat) : (eta t lv n).dep ≤ t.atoms := by
  have := etas_dep t (.hd lv) n (n + t.args.length)
  have := t.atoms_pos
  simp only [eta, Bo.dep] at *
  omega
/-- What holds of the kids laid so far. -/
theorem etas_wf (t : Ty) : ∀ (hand args : List Ty) (acc : Bo) (lv i N : Nat), acc.isLi = true → acc.wf hand → acc.level = lv → Bo.argsOf hand lv = args → (∀ j, args[acc.np + j]? = t.args[j]?) →
    N = hand.length → (∀ j, hand[i + j]? = t.args[j]? ∨ t.args.length ≤ j) →
    (etas t acc i N).isLi = true ∧ (etas t acc i N).wf hand ∧ (etas t acc i N).level = lv ∧ (etas t acc i N).np = acc.np + t.args.length := by
  induction t with
  | b => intro hand args acc lv i N h1 h2 h3 _ _ _ _; exact ⟨h1, h2, h3, rfl⟩
  | arr a c iha ihc =>
    intro hand args acc lv i N h1 h2 h3 h4 h5 h6 h7
    subst h6
    have ha0 : args[acc.np]? = some a := by have := h5 0; simpa [Ty.args] using this
    have hi0 : hand[i]? = some a := by
      rcases h7 0 with h | h
      · simpa [Ty.args] using h
      · simp [Ty.args] at h
    have hhat : Bo.handAt hand args acc.np = hand ++ a.args := by unfold Bo.handAt; rw [ha0]
    have hil : i < hand.length := (List.getElem?_eq_some_iff.1 hi0).1
    have hia : (hand ++ a.args)[i]? = some a := by rw [List.getElem?_append_left hil]; exact hi0
    have hag : Bo.argsOf (hand ++ a.args) i = a.args := by unfold Bo.argsOf; rw [hia]
    obtain ⟨k1, k2, k3, k4⟩ := iha (hand ++ a.args) a.args (.hd i) i hand.length (hand.length + a.args.length) rfl (show i < (hand ++ a.args).length by rw [List.length_append]; omega) rfl hag (fun j => by simp [Bo.np]) (by rw [List.length_append])
      (fun j => .inl (by rw [List.getElem?_append_right (by omega)]; congr 1; omega))
    have hE : (eta a i hand.length).wf (hand ++ a.args) ∧ (eta a i hand.length).full (hand ++ a.args) := by
      have e0 : (Bo.hd i).np = 0 := rfl
      rw [e0, Nat.zero_add] at k4
      have hw1 : (Bo.w [116]).wf (Bo.handAt (hand ++ a.args) (Bo.argsOf (hand ++ a.args) (etas a (.hd i) hand.length (hand.length + a.args.length)).level) (etas a (.hd i) hand.length (hand.length + a.args.length)).np) := (by decide : isWd [116] = true)
      refine ⟨⟨rfl, ⟨k1, k2, ?_, hw1, fun h => by cases h⟩, ?_, (by decide : isWd [102] = true), fun h => by cases h⟩, fun _ => ?_⟩
      · rw [k3, hag]; omega
      · show (etas a (.hd i) hand.length (hand.length + a.args.length)).np + 1 < (Bo.argsOf (hand ++ a.args) (etas a (.hd i) hand.length (hand.length + a.args.length)).level).length + 2
        rw [k3, hag]; omega
      · show (etas a (.hd i) hand.length (hand.length + a.args.length)).np + 1 + 1 = (Bo.argsOf (hand ++ a.args) (etas a (.hd i) hand.length (hand.length + a.args.length)).level).length + 2
        rw [k3, hag]; omega
    have hacc : (Bo.sn acc (eta a i hand.length)).wf hand := by
      refine ⟨h1, h2, ?_, ?_, ?_⟩
      · rw [h3, h4]; have := (List.getElem?_eq_some_iff.1 ha0).1; omega
      · rw [h3, h4, hhat]; exact hE.1
      · rw [h3, h4, hhat]; exact hE.2
    have := ihc hand args (.sn acc (eta a i hand.length)) lv (i + 1) hand.length rfl hacc h3 h4 (fun j => by
      have := h5 (j + 1)
      simp only [Ty.args, List.getElem?_cons_succ] at this
      rw [← this]
      show args[acc.np + 1 + j]? = _
      congr 1; omega) rfl (fun j => by
      have := h7 (j + 1)
      simp only [Ty.args, List.getElem?_cons_succ, List.length_cons] at this
      rw [show i + 1 + j = i + (j + 1) by omega]
      rcases this with h | h
      · exact .inl h
      · exact .inr (by omega))
    rw [etas_arr]
    obtain ⟨q1, q2, q3, q4⟩ := this
    refine ⟨q1, q2, q3, ?_⟩
    rw [q4]
    simp only [Bo.np, Ty.args, List.length_cons]
    omega
/-- The copy of a type is a strategy of the type from it to itself. -/
theorem eta_whole (t : Ty) (ht : t.atoms ≤ 30) : isB (t :: t.args) (eta t 0 1).text (eta t 0 1) := by
  have hag : Bo.argsOf (t :: t.args) 0 = t.args := rfl
  obtain ⟨k1, k2, k3, k4⟩ := etas_wf t (t :: t.args) t.args (.hd 0) 0 1 (1 + t.args.length) rfl (show 0 < (t :: t.args).length by simp) rfl hag (fun j => by simp [Bo.np]) (by simp; omega)
    (fun j => .inl (by rw [show 1 + j = j + 1 by omega]; rfl))
  have e0 : (Bo.hd 0).np = 0 := rfl
  rw [e0, Nat.zero_add] at k4
  refine ⟨rfl, ⟨rfl, ⟨k1, k2, ?_, (by decide : isWd [116] = true), fun h => by cases h⟩, ?_, (by decide : isWd [102] = true), fun h => by cases h⟩, fun _ => ?_, ?_, ?_⟩
  · rw [k3, hag]; omega
  · show (etas t (.hd 0) 1 (1 + t.args.length)).np + 1 < (Bo.argsOf (t :: t.args) (etas t (.hd 0) 1 (1 + t.args.length)).level).length + 2
    rw [k3, hag]; omega
  · show (etas t (.hd 0) 1 (1 + t.args.length)).np + 1 + 1 = (Bo.argsOf (t :: t.args) (etas t (.hd 0) 1 (1 + t.args.length)).level).length + 2
    rw [k3, hag]; omega
  · have := eta_dep t 0 1; omega
  · have := eta_size t 0 1; omega
end Go.Proofs.YtlehnlfgjadleaaDoor
