/- The mean of two sizes, plainly: if a pattern is feasible at two sizes, it is feasible at their mean, and the least solution is convex. -/
import Derived.Test.YtmknengmjepdaaaYh
import Derived.Test.YtmknengmjepdaaaSa
import Derived.Test.YtmknengmjepdaaaYc
namespace Go.Proofs.Ytmknengmjepdaaa
open Go.RowKit

section
variable {p : Pat} {n1 d1 n2 d2 n3 d3 : Int}
theorem mid_two {a b c : Rat} (h : c = (a + b) / (((2 : Int) : Rat) / ((1 : Int) : Rat))) : c + c = a + b := by
  rw [show ((2 : Int) : Rat) = 2 from rfl, show ((1 : Int) : Rat) = 1 from rfl] at h
  grind
theorem mid_good (hp : PValid p) (h1 : FSize n1 d1) (h2 : FSize n2 d2) (h3 : FSize n3 d3) (b1 : chBad p n1 d1 = false) (b2 : chBad p n2 d2 = false)
    (hm : (n3 : Rat) / (d3 : Rat) = ((n1 : Rat) / (d1 : Rat) + (n2 : Rat) / (d2 : Rat)) / (((2 : Int) : Rat) / ((1 : Int) : Rat))) : chBad p n3 d3 = false := by
  have f1 := (feas_iff (p := p) h1.1.1).1 ((chBad_iff hp h1).1 b1)
  have f2 := (feas_iff (p := p) h2.1.1).1 ((chBad_iff hp h2).1 b2)
  refine (chBad_iff hp h3).2 ((feas_iff h3.1.1).2 ?_)
  intro l a hl hw
  have k1 := f1 l a hl hw
  have k2 := f2 l a hl hw
  have k3 := mid_two hm
  generalize (n1 : Rat) / (d1 : Rat) = x1 at k1 k3
  generalize (n2 : Rat) / (d2 : Rat) = x2 at k2 k3
  generalize (n3 : Rat) / (d3 : Rat) = x3 at k3 ⊢
  generalize (cS l : Rat) = c at *
  generalize (dS l : Rat) = e at *
  have : (c + e * x3) + (c + e * x3) = (c + e * x1) + (c + e * x2) := by
    have : e * (x3 + x3) = e * (x1 + x2) := by rw [k3]
    grind
  grind
theorem wts_at {n d : Int} (hd : 1 ≤ d) (l : List Rul) : ((wts n d l : Int) : Rat) / (d : Rat) = (cS l : Rat) + (dS l : Rat) * ((n : Rat) / (d : Rat)) := by
  have := rat_ne hd
  rw [wts_cd]
  push_cast
  grind
theorem mid_le (hp : PValid p) (h1 : FSize n1 d1) (h2 : FSize n2 d2) (h3 : FSize n3 d3) (b1 : chBad p n1 d1 = false) (b2 : chBad p n2 d2 = false) (b3 : chBad p n3 d3 = false)
    (hm : (n3 : Rat) / (d3 : Rat) = ((n1 : Rat) / (d1 : Rat) + (n2 : Rat) / (d2 : Rat)) / (((2 : Int) : Rat) / ((1 : Int) : Rat))) {v : Nat} (hv : v < p.n.toNat) :
    ((2 : Int) : Rat) * (((leastF p n3 d3 v).1 : Rat) / ((leastF p n3 d3 v).2 : Rat)) ≤ ((leastF p n1 d1 v).1 : Rat) / ((leastF p n1 d1 v).2 : Rat) + ((leastF p n2 d2 v).1 : Rat) / ((leastF p n2 d2 v).2 : Rat) := by
  rw [(least_fv hp h1 b1 hv).2, (least_fv hp h2 b2 hv).2, (least_fv hp h3 b3 hv).2]
  obtain ⟨⟨l, hl, hw, hx⟩, -⟩ := chain_greatest hp h3 b3 v hv
  have g1 := (chain_greatest hp h1 b1 v hv).2 l hl hw
  have g2 := (chain_greatest hp h2 b2 v hv).2 l hl hw
  dsimp only at hx g1 g2
  have e1 := (div_le_div (a := wts n1 d1 l) (c := chainM p n1 d1 v 0) h1.1.1 h1.1.1).2 (Int.mul_le_mul_of_nonneg_right g1 (by have := h1.1.1; omega))
  have e2 := (div_le_div (a := wts n2 d2 l) (c := chainM p n2 d2 v 0) h2.1.1 h2.1.1).2 (Int.mul_le_mul_of_nonneg_right g2 (by have := h2.1.1; omega))
  rw [← hx]
  rw [wts_at h1.1.1] at e1
  rw [wts_at h2.1.1] at e2
  rw [wts_at h3.1.1]
  have k3 := mid_two hm
  rw [show ((2 : Int) : Rat) = 2 from rfl]
  generalize (n1 : Rat) / (d1 : Rat) = x1 at *
  generalize (n2 : Rat) / (d2 : Rat) = x2 at *
  generalize (n3 : Rat) / (d3 : Rat) = x3 at *
  generalize (cS l : Rat) = c at *
  generalize (dS l : Rat) = e at *
  generalize (chainM p n1 d1 v 0 : Rat) / (d1 : Rat) = m1 at *
  generalize (chainM p n2 d2 v 0 : Rat) / (d2 : Rat) = m2 at *
  have : (c + e * x3) + (c + e * x3) = (c + e * x1) + (c + e * x2) := by
    have : e * (x3 + x3) = e * (x1 + x2) := by rw [k3]
    grind
  grind
theorem mid_sgn {a b c : Rat} (h : a ≤ b + c) : sgnQ (a - (b + c)) ≤ 0 := by
  rw [sgn_npos]
  grind
end

end Go.Proofs.Ytmknengmjepdaaa
