/- Chains of numbers, plainly: what trankref04.Chain accepts. -/
import Derived.Test.YtmknengmjepdaaaJx
namespace Go.Proofs.Ytmknengmjepdaaa
open Go.RowKit

theorem nums_get {p : Pat} {j : Nat} (h : j < (nums p).length) : (nums p)[j]? = some (if j < p.rules.length then (j : Int) else -((j - p.rules.length + 1 : Nat) : Int)) := by
  rw [nums_len] at h
  unfold nums
  by_cases hj : j < p.rules.length
  · rw [if_pos hj, List.getElem?_append_left (by rw [List.length_map, List.length_range]; exact hj), List.getElem?_map, List.getElem?_range hj]
    rfl
  · rw [if_neg hj, List.getElem?_append_right (by rw [List.length_map, List.length_range]; omega), List.length_map, List.length_range, List.getElem?_map, List.getElem?_range (by omega)]
    rfl
theorem nums_inj {p : Pat} {i j : Nat} {n : Int} (hi : (nums p)[i]? = some n) (hj : (nums p)[j]? = some n) : i = j := by
  have h1 := (List.getElem?_eq_some_iff.1 hi).1
  have h2 := (List.getElem?_eq_some_iff.1 hj).1
  rw [nums_get h1] at hi
  rw [nums_get h2] at hj
  rw [← hj, Option.some.injEq] at hi
  split at hi <;> split at hi <;> omega
theorem allL_at {p : Pat} {e : Int × Rul} (h : e ∈ allL p) : ∃ J : Nat, (nums p)[J]? = some e.1 ∧ (ext p)[J]? = some e.2 := by
  obtain ⟨J, hJ⟩ := List.getElem?_of_mem h
  unfold allL at hJ
  rw [List.getElem?_zip_eq_some] at hJ
  exact ⟨J, hJ.1, hJ.2⟩

/-- A chain from a to b in which no unknown is the A of two rules. -/
structure OkChain (p : Pat) (es : List (Int × Rul)) (a b : Nat) : Prop where
  mem : ∀ e ∈ es, e ∈ allL p
  walk : isWalk (es.map (·.2)) a b
  dist : ∀ i j, i < j → j < es.length → vert (es.map (·.2)) a i ≠ vert (es.map (·.2)) a j
def sumC (es : List (Int × Rul)) : Int := (es.map fun e => e.2.c).sum
def sumD (es : List (Int × Rul)) : Int := (es.map fun e => e.2.d).sum
theorem sumC_snoc (es : List (Int × Rul)) (e : Int × Rul) : sumC (es ++ [e]) = sumC es + e.2.c := by simp [sumC]
theorem sumD_snoc (es : List (Int × Rul)) (e : Int × Rul) : sumD (es ++ [e]) = sumD es + e.2.d := by simp [sumD]
theorem sumcd_bd {p : Pat} (hp : PValid p) : ∀ es : List (Int × Rul), (∀ e ∈ es, e ∈ allL p) → -(1000 * (es.length : Int)) ≤ sumC es ∧ sumC es ≤ 1000 * es.length ∧ -(1000 * (es.length : Int)) ≤ sumD es ∧ sumD es ≤ 1000 * es.length
  | [], _ => by simp [sumC, sumD]
  | e :: es, h => by
    have h1 := sumcd_bd hp es (fun x hx => h x (List.mem_cons_of_mem _ hx))
    have h2 := allL_RV hp (h e (List.mem_cons_self ..))
    have a1 := h2.2.2.2.2.1
    have a2 := h2.2.2.2.2.2.1
    have a3 := h2.2.2.2.2.2.2.1
    have a4 := h2.2.2.2.2.2.2.2
    simp only [sumC, sumD, List.map_cons, List.sum_cons, List.length_cons] at h1 ⊢
    omega
/-- One rule of a chain. -/
theorem chain_at {es : List (Int × Rul)} {a b : Nat} (h : isWalk (es.map (·.2)) a b) {i : Nat} {e : Int × Rul} (hi : es[i]? = some e) : e.2.a = ((vert (es.map (·.2)) a i : Nat) : Int) ∧ vert (es.map (·.2)) a (i + 1) = e.2.b.toNat := by
  induction es generalizing a i with
  | nil => simp at hi
  | cons x es ih =>
    cases i with
    | zero =>
      obtain rfl : x = e := by simpa using hi
      refine ⟨by rw [vert_zero]; exact h.1, ?_⟩
      show vert (es.map (·.2)) x.2.b.toNat 0 = _
      rw [vert_zero]
    | succ i => exact ih h.2 (by simpa using hi)
theorem chain_end {es : List (Int × Rul)} {a b : Nat} (h : isWalk (es.map (·.2)) a b) : vert (es.map (·.2)) a es.length = b := by
  induction es generalizing a with
  | nil => exact h
  | cons x es ih => exact ih h.2

end Go.Proofs.Ytmknengmjepdaaa
