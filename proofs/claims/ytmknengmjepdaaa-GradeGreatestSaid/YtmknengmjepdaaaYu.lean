/- What Greatest hands back, case by case. -/
import Derived.Test.YtmknengmjepdaaaYr
namespace Go.Proofs.Ytmknengmjepdaaa
open Go.RowKit

section
variable {p : Pat} {n d mn md : Int}
theorem gr_two (h : ¬ (PValid p ∧ FSize n d ∧ FMost mn md)) : grE p n d mn md = 2 ∧ grL p n d mn md = [] := by
  have h1 : grE p n d mn md = 2 := if_pos h
  exact ⟨h1, by unfold grL; rw [h1]; rfl⟩
theorem gr_ten (h : PValid p ∧ FSize n d ∧ FMost mn md) (hb : chBad p n d = true) : grE p n d mn md = 10 ∧ grL p n d mn md = [] := by
  have h1 : grE p n d mn md = 10 := by unfold grE; rw [if_neg (fun k => k h), if_pos hb]
  exact ⟨h1, by unfold grL; rw [h1]; rfl⟩
theorem gr_eleven (h : PValid p ∧ FSize n d ∧ FMost mn md) (hb : chBad p n d = false) (hs : grShort p n d mn md = true) : grE p n d mn md = 11 ∧ grL p n d mn md = [] := by
  have h1 : grE p n d mn md = 11 := by unfold grE; rw [if_neg (fun k => k h), if_neg (by rw [hb]; decide), if_pos hs]
  exact ⟨h1, by unfold grL; rw [h1]; rfl⟩
theorem gr_five (h : PValid p ∧ FSize n d ∧ FMost mn md) (hb : chBad p n d = false) (hs : grShort p n d mn md = false) (hw : grWide p n d mn md = true) : grE p n d mn md = 5 ∧ grL p n d mn md = [] := by
  have h1 : grE p n d mn md = 5 := by unfold grE; rw [if_neg (fun k => k h), if_neg (by rw [hb]; decide), if_neg (by rw [hs]; decide), if_pos hw]
  exact ⟨h1, by unfold grL; rw [h1]; rfl⟩
theorem gr_ok (h : PValid p ∧ FSize n d ∧ FMost mn md) (hb : chBad p n d = false) (hs : grShort p n d mn md = false) (hw : grWide p n d mn md = false) : grE p n d mn md = 0 ∧ grL p n d mn md = (List.range p.n.toNat).map (grF p n d mn md) := by
  have h1 : grE p n d mn md = 0 := by unfold grE; rw [if_neg (fun k => k h), if_neg (by rw [hb]; decide), if_neg (by rw [hs]; decide), if_neg (by rw [hw]; decide)]
  exact ⟨h1, by unfold grL; rw [if_pos h1]⟩
theorem chain_mul {z md : Int} (h : 0 ≤ z ∧ z ≤ 800000000) (h1 : 1 ≤ md) (h2 : md ≤ 100) : 0 ≤ z * md ∧ z * md ≤ 80000000000 :=
  ⟨Int.mul_nonneg h.1 (by omega), by have := Int.mul_le_mul h.2 h2 (by omega) (by omega); omega⟩
theorem small_mul {z md : Int} (h : -4000000000000 ≤ z ∧ z ≤ 4000000000000) (h1 : 1 ≤ md) (h2 : md ≤ 100) : -400000000000000 ≤ z * md ∧ z * md ≤ 400000000000000 := by
  have a := Int.mul_le_mul_of_nonneg_right h.1 (show 0 ≤ md by omega)
  have b := Int.mul_le_mul_of_nonneg_right h.2 (show 0 ≤ md by omega)
  omega
theorem grZ_none {i k : Nat} (h : chainM p n d k i = NONE) : grZ p n d mn md i (k + 1) = grZ p n d mn md i k := if_pos h
theorem grZ_some {i k : Nat} (h : chainM p n d k i ≠ NONE) : grZ p n d mn md i (k + 1) = min (grZ p n d mn md i k) (grC p n d mn md i k) := if_neg h
theorem grZ_bd (hp : PValid p) (hs : FSize n d) (hm : FMost mn md) (hb : chBad p n d = false) {i k : Nat} (hi : i < p.n.toNat) (hk : k ≤ p.n.toNat) : -401000000000000 ≤ grZ p n d mn md i k ∧ grZ p n d mn md i k ≤ 401000000000000 := by
  have m := most_bd hs hm
  rcases grZ_is p n d mn md i k with h | ⟨j, h1, h2, h3⟩
  · rw [h]; omega
  · rw [h3]; exact grC_bd hp hs hm hb (by omega) hi h2
theorem newE_cases (y e : Int) (he : 1 ≤ e) : newE y e = 0 ∨ newE y e = 5 := by
  unfold newE fitE
  repeat' split
  all_goals first | exact .inl rfl | exact .inr rfl | omega
end


end Go.Proofs.Ytmknengmjepdaaa
