/- The greatest solution below a limit, plainly: what both Greatests hand back. -/
import Derived.Test.YtmknengmjepdaaaYk
namespace Go.Proofs.Ytmknengmjepdaaa
open Go.RowKit

/-- One candidate for the greatest measure of i, in units of 1 / (d * md). -/
def grC (p : Pat) (n d mn md : Int) (i j : Nat) : Int := (if j = 0 then 0 else mn * d) - chainM p n d j i * md
/-- The least of the candidates j < k and of the limit. -/
def grZ (p : Pat) (n d mn md : Int) (i : Nat) : Nat → Int
  | 0 => mn * d
  | k + 1 => if chainM p n d k i = NONE then grZ p n d mn md i k else min (grZ p n d mn md i k) (grC p n d mn md i k)
def grF (p : Pat) (n d mn md : Int) (i : Nat) : Int × Int := (newN (grZ p n d mn md i p.n.toNat) (d * md), newD (grZ p n d mn md i p.n.toNat) (d * md))
/-- The limit is too low for the least solution. -/
def grShort (p : Pat) (n d mn md : Int) : Bool := (List.range p.n.toNat).any fun v => decide (mn * d < chainM p n d v 0 * md)
/-- A measure does not fit a fraction. -/
def grWide (p : Pat) (n d mn md : Int) : Bool := (List.range p.n.toNat).any fun v => decide (newE (grZ p n d mn md v p.n.toNat) (d * md) ≠ 0)
def grE (p : Pat) (n d mn md : Int) : Int := if ¬ (PValid p ∧ FSize n d ∧ FMost mn md) then 2 else if chBad p n d then 10 else if grShort p n d mn md then 11 else if grWide p n d mn md then 5 else 0
def grL (p : Pat) (n d mn md : Int) : List (Int × Int) := if grE p n d mn md = 0 then (List.range p.n.toNat).map (grF p n d mn md) else []
theorem grZ_le (p : Pat) (n d mn md : Int) (i : Nat) : ∀ k, grZ p n d mn md i k ≤ mn * d
  | 0 => Int.le_refl _
  | k + 1 => by
    have := grZ_le p n d mn md i k
    unfold grZ
    split
    · exact this
    · exact Int.le_trans (Int.min_le_left ..) this
theorem grZ_at {p : Pat} {n d mn md : Int} {i j : Nat} (hj : chainM p n d j i ≠ NONE) : ∀ k, j < k → grZ p n d mn md i k ≤ grC p n d mn md i j
  | 0, h => by omega
  | k + 1, h => by
    unfold grZ
    by_cases e : j = k
    · subst e
      rw [if_neg hj]
      exact Int.min_le_right ..
    · have := grZ_at (mn := mn) (md := md) hj k (by omega)
      split
      · exact this
      · exact Int.le_trans (Int.min_le_left ..) this
/-- It is the limit, or one of the candidates. -/
theorem grZ_is (p : Pat) (n d mn md : Int) (i : Nat) : ∀ k, grZ p n d mn md i k = mn * d ∨ ∃ j, j < k ∧ chainM p n d j i ≠ NONE ∧ grZ p n d mn md i k = grC p n d mn md i j
  | 0 => .inl rfl
  | k + 1 => by
    have ih := grZ_is p n d mn md i k
    unfold grZ
    by_cases e : chainM p n d k i = NONE
    · rw [if_pos e]
      rcases ih with h | ⟨j, h1, h2, h3⟩
      · exact .inl h
      · exact .inr ⟨j, by omega, h2, h3⟩
    · rw [if_neg e]
      rcases Int.le_total (grZ p n d mn md i k) (grC p n d mn md i k) with h | h
      · rw [Int.min_eq_left h]
        rcases ih with h' | ⟨j, h1, h2, h3⟩
        · exact .inl h'
        · exact .inr ⟨j, by omega, h2, h3⟩
      · rw [Int.min_eq_right h]
        exact .inr ⟨k, by omega, e, rfl⟩

end Go.Proofs.Ytmknengmjepdaaa
