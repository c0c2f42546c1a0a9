/- What the law on conflicts reckons, plainly. -/
import Derived.Test.YtmknengmjepdaaaSd
namespace Go.Proofs.Ytmknengmjepdaaa
open Go.RowKit

/-- The bounds after one more loop. -/
def stC (s : Rat × Rat) (c d : Int) : Rat × Rat :=
  if d = 0 ∧ 0 < c then (41, s.2)
  else if 0 < d then (s.1, if ((-c : Int) : Rat) / (d : Rat) < s.2 then ((-c : Int) : Rat) / (d : Rat) else s.2)
  else if d < 0 then (if s.1 < (c : Rat) / ((-d : Int) : Rat) then (c : Rat) / ((-d : Int) : Rat) else s.1, s.2)
  else s
theorem stC_zero {s : Rat × Rat} {c d : Int} (h : d = 0) (hc : 0 < c) : stC s c d = (41, s.2) := by unfold stC; rw [if_pos ⟨h, hc⟩]
theorem stC_pos {s : Rat × Rat} {c d : Int} (h : 0 < d) : stC s c d = (s.1, if ((-c : Int) : Rat) / (d : Rat) < s.2 then ((-c : Int) : Rat) / (d : Rat) else s.2) := by unfold stC; rw [if_neg (by omega), if_pos h]
theorem stC_neg {s : Rat × Rat} {c d : Int} (h : d < 0) : stC s c d = (if s.1 < (c : Rat) / ((-d : Int) : Rat) then (c : Rat) / ((-d : Int) : Rat) else s.1, s.2) := by unfold stC; rw [if_neg (by omega), if_neg (by omega), if_pos h]
theorem rat_zero : ((0 : Int) : Rat) / ((1 : Int) : Rat) = 0 := by grind
theorem rat_forty : ((40 : Int) : Rat) / ((1 : Int) : Rat) = 40 := by grind
theorem pos_hi {s : Rat × Rat} {c d : Int} (h : 0 < d) : (stC s c d).1 = s.1 ∧ (stC s c d).2 ≤ ((-c : Int) : Rat) / (d : Rat) := by
  rw [stC_pos h]
  refine ⟨rfl, ?_⟩
  dsimp only
  split
  · exact Rat.le_refl
  · rename_i hh; exact Rat.not_lt.1 hh
theorem neg_lo {s : Rat × Rat} {c d : Int} (h : d < 0) : (stC s c d).2 = s.2 ∧ (c : Rat) / ((-d : Int) : Rat) ≤ (stC s c d).1 := by
  rw [stC_neg h]
  refine ⟨rfl, ?_⟩
  dsimp only
  split
  · exact Rat.le_refl
  · rename_i hh; exact Rat.not_lt.1 hh
theorem gap_one {c d : Int} (h : (0 ≤ d ∧ 0 < c) ∨ (d < 0 ∧ -40 * d < c)) : (stC (0, 40) c d).2 < (stC (0, 40) c d).1 := by
  rcases h with ⟨hd, hc⟩ | ⟨hd, hc⟩
  · by_cases h0 : d = 0
    · rw [stC_zero h0 hc]; decide
    · obtain ⟨e1, e2⟩ := pos_hi (s := (0, 40)) (c := c) (show 0 < d by omega)
      rw [e1]
      refine Std.lt_of_le_of_lt e2 ?_
      show _ < (0 : Rat)
      rw [← rat_zero]
      exact (div_lt_div (by omega) (by decide)).2 (by omega)
  · obtain ⟨e1, e2⟩ := neg_lo (s := (0, 40)) (c := c) hd
    rw [e1]
    refine Std.lt_of_lt_of_le ?_ e2
    show (40 : Rat) < _
    rw [← rat_forty]
    exact (div_lt_div (by decide) (by omega)).2 (by omega)
theorem gap_two {c d c2 d2 : Int} (h1 : d < 0) (h2 : 0 ≤ d2) (h3 : 0 < c2 * -d + d2 * c) : (stC (stC (0, 40) c d) c2 d2).2 < (stC (stC (0, 40) c d) c2 d2).1 := by
  obtain ⟨e1, e2⟩ := neg_lo (s := (0, 40)) (c := c) h1
  by_cases h0 : d2 = 0
  · have hc2 : 0 < c2 := by
      subst h0
      have : 0 < c2 * -d := by omega
      exact Int.pos_of_mul_pos_left this (by omega)
    rw [stC_zero h0 hc2, e1]; decide
  · obtain ⟨g1, g2⟩ := pos_hi (s := stC (0, 40) c d) (c := c2) (show 0 < d2 by omega)
    rw [g1]
    refine Std.lt_of_le_of_lt g2 (Std.lt_of_lt_of_le ?_ e2)
    refine (div_lt_div (by omega) (by omega)).2 ?_
    have e3 : c * d2 = d2 * c := Int.mul_comm _ _
    have e4 : -c2 * -d = -(c2 * -d) := by rw [Int.neg_mul]
    omega

end Go.Proofs.Ytmknengmjepdaaa
