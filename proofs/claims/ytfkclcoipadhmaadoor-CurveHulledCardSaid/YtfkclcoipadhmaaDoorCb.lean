/- Curves plainly: where a value lies; grids. -/
import Derived.Test.YtfkclcoipadhmaaDoorCa
namespace Go.Proofs.YtfkclcoipadhmaaDoor
open Go.RowKit

theorem takeWhile_len {α : Type} {p : α → Bool} {d : α} : ∀ {l : List α} {i : Nat}, i ≤ l.length → (∀ j, j < i → p (l.getD j d) = true) → (i < l.length → p (l.getD i d) = false) → (l.takeWhile p).length = i
  | [], i, h, _, _ => by
    have : i = 0 := by simpa using h
    subst this
    rfl
  | a :: l, 0, _, _, h2 => by
    have : p a = false := h2 (by simp)
    rw [List.takeWhile_cons, this]
    rfl
  | a :: l, i + 1, h, h1, h2 => by
    have : p a = true := h1 0 (by omega)
    rw [List.takeWhile_cons, this]
    show (List.takeWhile p l).length + 1 = i + 1
    rw [takeWhile_len (d := d) (by simpa using h) (fun j hj => h1 (j + 1) (by omega)) (fun hi => h2 (by simpa using hi))]
theorem cut_at {c : List Pt} {x : Rat} {i : Nat} (hi : i < c.length) (h1 : ∀ j, j < i → (c.getD j (0, 0)).1 < x) (h2 : x ≤ (c.getD i (0, 0)).1) : cutI c x = i := by
  refine takeWhile_len (d := (0, 0)) (by omega) (fun j hj => decide_eq_true (h1 j hj)) (fun _ => decide_eq_false ?_)
  exact Rat.not_lt.2 h2
theorem at_same {c : List Pt} (hc : CV c) {x : Rat} {i : Nat} (hi : i < c.length) (h : (c.getD i (0, 0)).1 = x) : atO c x = some (c.getD i (0, 0)).2 := by
  unfold atO
  rw [cut_at hi (fun j hj => by rw [← h]; exact (hc.lt hj hi).1) (by rw [h]; exact Rat.le_refl)]
  unfold atI
  rw [if_pos h]
theorem at_between {c : List Pt} (hc : CV c) {x : Rat} {i : Nat} (hi : i + 1 < c.length) (h1 : (c.getD i (0, 0)).1 < x) (h2 : x < (c.getD (i + 1) (0, 0)).1) : atO c x = segO (c.getD i (0, 0)) (c.getD (i + 1) (0, 0)) x := by
  unfold atO
  rw [cut_at hi (fun j hj => ?_) (Rat.le_of_lt h2)]
  · unfold atI
    rw [if_neg (fun e => by rw [e] at h2; exact Rat.lt_irrefl h2)]
    rfl
  · by_cases hji : j = i
    · rw [hji]; exact h1
    · have := (hc.lt (show j < i by omega) (by omega)).1
      grind
/-- In the domain. -/
def InDom (c : List Pt) (x : Rat) : Prop := 0 ≤ x ∧ x ≤ (c.getD (c.length - 1) (0, 0)).1

/-- The points over a list of numbers. -/
def ptsO (f : Rat → Option Pt) (l : List Rat) : Nat → Option (List Pt)
  | 0 => some []
  | k + 1 => (ptsO f l k).bind fun o => (f (l.getD k 0)).map fun p => o ++ [p]
theorem ptsO_len {f : Rat → Option Pt} {l : List Rat} : ∀ {k : Nat} {o : List Pt}, ptsO f l k = some o → o.length = k
  | 0, o, h => by cases h; rfl
  | k + 1, o, h => by
    unfold ptsO at h
    cases h1 : ptsO f l k with
    | none => rw [h1] at h; cases h
    | some o' =>
      rw [h1] at h
      cases h2 : f (l.getD k 0) with
      | none => rw [h2] at h; cases h
      | some p =>
        rw [h2] at h
        cases h
        rw [List.length_append, ptsO_len h1]
        rfl
theorem ptsO_some {f : Rat → Option Pt} {l : List Rat} {k : Nat} {o : List Pt} {p : Pt} (h : ptsO f l k = some o) (h2 : f (l.getD k 0) = some p) : ptsO f l (k + 1) = some (o ++ [p]) := by
  unfold ptsO; rw [h, h2]; rfl
theorem ptsO_none {f : Rat → Option Pt} {l : List Rat} {k : Nat} (h2 : f (l.getD k 0) = none) : ptsO f l (k + 1) = none := by
  unfold ptsO
  cases ptsO f l k with
  | none => rfl
  | some o => rw [h2]; rfl
theorem ptsO_stay {f : Rat → Option Pt} {l : List Rat} {k : Nat} (h : ptsO f l k = none) : ∀ {m : Nat}, k ≤ m → ptsO f l m = none := by
  intro m hm
  induction m with
  | zero => obtain rfl : k = 0 := by omega
            exact h
  | succ m ih =>
    by_cases hk : k = m + 1
    · rw [← hk]; exact h
    · unfold ptsO; rw [ih (by omega)]; rfl
/-- The grid of a set of numbers up to a limit. -/
def GridOf (l : List Rat) (S : List Rat) (m : Rat) : Prop := Rising l ∧ ∀ x, x ∈ l ↔ x ∈ S ∧ x ≤ m
theorem grid_unique {l l' S S' : List Rat} {m : Rat} (h : GridOf l S m) (h' : GridOf l' S' m) (hS : ∀ x, x ∈ S ↔ x ∈ S') : l = l' :=
  rising_unique h.1 h'.1 fun x => by rw [h.2, h'.2, hS]

end Go.Proofs.YtfkclcoipadhmaaDoor
