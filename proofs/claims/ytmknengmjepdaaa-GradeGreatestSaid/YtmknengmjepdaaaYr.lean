/- The greatest solution lies within the limit, and above every other solution within it, plainly. -/
import Derived.Test.YtmknengmjepdaaaYq
namespace Go.Proofs.Ytmknengmjepdaaa
open Go.RowKit

theorem gr_within {p : Pat} {n d mn md : Int} (h : grE p n d mn md = 0) {v : Nat} (hv : v < p.n.toNat) : (grF p n d mn md v).1 * md ≤ mn * (grF p n d mn md v).2 := by
  obtain ⟨hp, hs, hm, hb, hsh, hw⟩ := gr_good h
  obtain ⟨c1, c2⟩ := gr_cross h hv
  have hd := hs.1.1
  have k := Int.mul_le_mul_of_nonneg_right (grZ_le p n d mn md v p.n.toNat) (show 0 ≤ (grF p n d mn md v).2 by have := c1.1; omega)
  rw [← c2] at k
  refine Int.le_of_mul_le_mul_right (a := d) ?_ (by omega)
  have e1 : (grF p n d mn md v).1 * md * d = (grF p n d mn md v).1 * (d * md) := by grind
  have e2 : mn * (grF p n d mn md v).2 * d = mn * d * (grF p n d mn md v).2 := by grind
  rw [e1, e2]
  exact k
theorem gr_top {p : Pat} {n d mn md : Int} {l : List (Int × Int)} (h : grE p n d mn md = 0) (hl : ftB p n d l = true) (hw : ∀ j, j < p.n.toNat → (l.getD j (0, 0)).1 * md ≤ mn * (l.getD j (0, 0)).2) {i : Nat} (hi : i < p.n.toNat) :
    (l.getD i (0, 0)).1 * (grF p n d mn md i).2 ≤ (grF p n d mn md i).1 * (l.getD i (0, 0)).2 := by
  obtain ⟨hp, hs, hm, hb, hsh, -⟩ := gr_good h
  obtain ⟨c1, c2⟩ := gr_cross h hi
  have hdm := (most_bd hs hm).2.2.1
  have k := Int.mul_le_mul_of_nonneg_right (gr_above hl hm hb hw hi) (show 0 ≤ (grF p n d mn md i).2 by have := c1.1; omega)
  refine Int.le_of_mul_le_mul_right (a := d * md) ?_ (by omega)
  have e1 : (l.getD i (0, 0)).1 * (grF p n d mn md i).2 * (d * md) = (l.getD i (0, 0)).1 * (d * md) * (grF p n d mn md i).2 := by grind
  have e2 : (grF p n d mn md i).1 * (l.getD i (0, 0)).2 * (d * md) = grZ p n d mn md i p.n.toNat * (l.getD i (0, 0)).2 * (grF p n d mn md i).2 := by
    have : (grF p n d mn md i).1 * (l.getD i (0, 0)).2 * (d * md) = (grF p n d mn md i).1 * (d * md) * (l.getD i (0, 0)).2 := by grind
    rw [this, c2]
    grind
  rw [e1, e2]
  exact k

end Go.Proofs.Ytmknengmjepdaaa
