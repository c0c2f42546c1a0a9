/- Fractions that fit. -/
import Derived.Test.YtmknengmjepdaaaYo
namespace Go.Proofs.Ytmknengmjepdaaa
open Go.RowKit

theorem new_of_fit {y e : Int} (he : 1 ≤ e) (h : newE y e = 0) : FV (newN y e) (newD y e) ∧ newN y e * e = y * newD y e := by
  have hf : fits ((y : Rat) / (e : Rat)) := by
    by_cases hf : fits ((y : Rat) / (e : Rat))
    · exact hf
    · exfalso
      unfold newE fitE at h
      rw [if_neg (by omega), if_neg hf] at h
      cases h
  have e1 : newN y e = ((y : Rat) / (e : Rat)).num := by unfold newN fitN; rw [if_neg (by omega), if_pos hf]
  have e2 : newD y e = (((y : Rat) / (e : Rat)).den : Int) := by unfold newD fitD; rw [if_neg (by omega), if_pos hf]
  have hr : ((newN y e : Int) : Rat) / ((newD y e : Int) : Rat) = (y : Rat) / (e : Rat) := by
    rw [e1, e2]
    exact (rat_parts _).symm
  have hv : FV (newN y e) (newD y e) := by
    rw [e1, e2]
    obtain ⟨q, hq⟩ : ∃ q, (y : Rat) / (e : Rat) = q := ⟨_, rfl⟩
    rw [hq] at hf ⊢
    obtain ⟨f1, f2⟩ := hf
    have hd := q.den_pos
    refine ⟨by omega, by omega, by omega, by omega, ?_⟩
    have := q.reduced
    simpa [Nat.Coprime] using this
  exact ⟨hv, div_cross hv.1 he hr⟩

end Go.Proofs.Ytmknengmjepdaaa
