/- The greatest solution satisfies its pattern, plainly. -/
import Derived.Test.YtmknengmjepdaaaYp
namespace Go.Proofs.Ytmknengmjepdaaa
open Go.RowKit

theorem gr_good {p : Pat} {n d mn md : Int} (h : grE p n d mn md = 0) : PValid p ∧ FSize n d ∧ FMost mn md ∧ chBad p n d = false ∧ grShort p n d mn md = false ∧ grWide p n d mn md = false := by
  unfold grE at h
  by_cases h1 : PValid p ∧ FSize n d ∧ FMost mn md
  case neg => rw [if_pos h1] at h; cases h
  rw [if_neg (fun k => k h1)] at h
  cases h2 : chBad p n d with
  | true => rw [h2] at h; cases h
  | false =>
    rw [h2, if_neg (by decide)] at h
    cases h3 : grShort p n d mn md with
    | true => rw [h3] at h; cases h
    | false =>
      rw [h3, if_neg (by decide)] at h
      cases h4 : grWide p n d mn md with
      | true => rw [h4] at h; cases h
      | false => exact ⟨h1.1, h1.2.1, h1.2.2, rfl, rfl, rfl⟩
theorem gr_get {p : Pat} {n d mn md : Int} (h : grE p n d mn md = 0) {v : Nat} (hv : v < p.n.toNat) : (grL p n d mn md).getD v (0, 0) = grF p n d mn md v := by
  unfold grL
  rw [if_pos h]
  simp [List.getD, hv]
theorem gr_cross {p : Pat} {n d mn md : Int} (h : grE p n d mn md = 0) {v : Nat} (hv : v < p.n.toNat) : FV (grF p n d mn md v).1 (grF p n d mn md v).2 ∧ (grF p n d mn md v).1 * (d * md) = grZ p n d mn md v p.n.toNat * (grF p n d mn md v).2 := by
  obtain ⟨hp, hs, hm, hb, hsh, hw⟩ := gr_good h
  unfold grWide at hw
  rw [List.any_eq_false] at hw
  have := hw v (List.mem_range.2 hv)
  rw [decide_eq_true_eq] at this
  exact new_of_fit (most_bd hs hm).2.2.1 (Decidable.not_not.1 this)
theorem gr_fits {p : Pat} {n d mn md : Int} (h : grE p n d mn md = 0) : AsgP p (grL p n d mn md) ∧ ftE p n d (grL p n d mn md) = 0 ∧ ftB p n d (grL p n d mn md) = true := by
  obtain ⟨hp, hs, hm, hb, hsh, hw⟩ := gr_good h
  have hA : AsgP p (grL p n d mn md) := by
    unfold grL
    rw [if_pos h]
    refine ⟨by simp; have := hp.1; omega, fun f hf => ?_⟩
    obtain ⟨v, hv, rfl⟩ := List.mem_map.1 hf
    exact (gr_cross h (List.mem_range.1 hv)).1
  obtain ⟨e1, e2⟩ := fit_ok ⟨hp, hs, hA⟩
  refine ⟨hA, e1, ?_⟩
  have h0 : 0 < p.n.toNat := by have := hp.1; omega
  have hmd := hm.1.1
  have hdm := (most_bd hs hm).2.2.1
  rw [e2, Bool.and_eq_true, decide_eq_true_eq, List.all_eq_true]
  refine ⟨?_, fun r hr => ?_⟩
  · rw [gr_get h h0]
    obtain ⟨c1, c2⟩ := gr_cross h h0
    rw [gr_zero hp hs hm hb hsh, Int.zero_mul] at c2
    rcases Int.mul_eq_zero.1 c2 with k | k
    · exact k
    · omega
  · have hrv := ext_rv hp.1 hp.2.2.2 r hr
    have ha : r.a.toNat < p.n.toNat := by have := hrv.1; have := hrv.2.1; omega
    have hbb : r.b.toNat < p.n.toNat := by have := hrv.2.2.1; have := hrv.2.2.2.1; omega
    obtain ⟨a1, a2⟩ := gr_cross h ha
    obtain ⟨b1, b2⟩ := gr_cross h hbb
    have k := gr_rule hp hs hm hb hr
    unfold okR
    rw [gr_get h ha, gr_get h hbb, decide_eq_true_eq]
    generalize (grF p n d mn md r.a.toNat).1 = na at *
    generalize (grF p n d mn md r.a.toNat).2 = da at *
    generalize (grF p n d mn md r.b.toNat).1 = nb at *
    generalize (grF p n d mn md r.b.toNat).2 = db at *
    generalize grZ p n d mn md r.a.toNat p.n.toNat = ya at *
    generalize grZ p n d mn md r.b.toNat p.n.toNat = yb at *
    have hmm : 0 ≤ da * db := Int.mul_nonneg (by have := a1.1; omega) (by have := b1.1; omega)
    have k2 := Int.mul_le_mul_of_nonneg_right k hmm
    refine Int.le_of_mul_le_mul_right (a := md) ?_ (by omega)
    have e1 : wt r n d * (da * db) * md = wt r n d * md * (da * db) := by grind
    have e2 : (na * db - nb * da) * d * md = (ya - yb) * (da * db) := by grind
    rw [e1, e2]
    exact k2

end Go.Proofs.Ytmknengmjepdaaa
