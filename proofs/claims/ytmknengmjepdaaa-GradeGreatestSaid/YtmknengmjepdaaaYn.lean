/- Every solution within the limit lies below the greatest one, plainly. -/
import Derived.Test.YtmknengmjepdaaaYm
namespace Go.Proofs.Ytmknengmjepdaaa
open Go.RowKit

theorem gr_above {p : Pat} {n d mn md : Int} {l : List (Int × Int)} (h : ftB p n d l = true) (hm : FMost mn md) (hb : chBad p n d = false) (hw : ∀ j, j < p.n.toNat → (l.getD j (0, 0)).1 * md ≤ mn * (l.getD j (0, 0)).2) {i : Nat} (hi : i < p.n.toNat) :
    (l.getD i (0, 0)).1 * (d * md) ≤ grZ p n d mn md i p.n.toNat * (l.getD i (0, 0)).2 := by
  by_cases hg : PValid p ∧ FSize n d ∧ AsgP p l
  case neg => rw [(fit_two hg).2] at h; cases h
  obtain ⟨hp, hs, ha⟩ := id hg
  rw [(fit_ok hg).2, Bool.and_eq_true, decide_eq_true_eq, List.all_eq_true] at h
  have hd := hs.1.1
  have hmd := hm.1.1
  have fi := (fv_at ha hi).2
  have wi := hw i hi
  rcases grZ_is p n d mn md i p.n.toNat with e | ⟨j, hj, hne, e⟩
  · rw [e]
    have := Int.mul_le_mul_of_nonneg_right wi (show 0 ≤ d by omega)
    have e1 : (l.getD i (0, 0)).1 * (d * md) = (l.getD i (0, 0)).1 * md * d := by grind
    have e2 : mn * d * (l.getD i (0, 0)).2 = mn * (l.getD i (0, 0)).2 * d := by grind
    rw [e1, e2]
    exact this
  · rw [e]
    obtain ⟨c, c1, c2, c3⟩ := (finv_good hp hs hb).wk j i hj hi hne
    have k := fits_walk2 hp ha h.2 c j i c1 hj hi c2
    rw [c3] at k
    have fj := (fv_at ha hj).2
    have wj := hw j hj
    have h0 : j = 0 → (l.getD j (0, 0)).1 = 0 := fun e => by rw [e]; exact h.1
    unfold grC
    generalize chainM p n d j i = C at *
    generalize (l.getD i (0, 0)).1 = xi at *
    generalize (l.getD i (0, 0)).2 = ti at *
    generalize (l.getD j (0, 0)).1 = xj at *
    generalize (l.getD j (0, 0)).2 = tj at *
    have k2 := Int.mul_le_mul_of_nonneg_right k (show 0 ≤ md by omega)
    have htj : 0 < tj := by have := fj.1; omega
    have hti : 0 ≤ ti * d := Int.mul_nonneg (by have := fi.1; omega) (by omega)
    refine Int.le_of_mul_le_mul_right (a := tj) ?_ htj
    by_cases hj0 : j = 0
    · rw [if_pos hj0]
      rw [h0 hj0] at k2
      have e1 : (0 * ti - xi * tj) * d * md = - (xi * (d * md) * tj) := by grind
      have e2 : (0 - C * md) * ti * tj = - (C * (tj * ti) * md) := by grind
      rw [e1] at k2
      rw [e2]
      omega
    · rw [if_neg hj0]
      have k3 := Int.mul_le_mul_of_nonneg_right wj hti
      have e1 : (xj * ti - xi * tj) * d * md = xj * md * (ti * d) - xi * (d * md) * tj := by grind
      have e2 : (mn * d - C * md) * ti * tj = mn * tj * (ti * d) - C * (tj * ti) * md := by grind
      rw [e1] at k2
      rw [e2]
      omega

end Go.Proofs.Ytmknengmjepdaaa
