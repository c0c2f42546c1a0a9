/- Plainly: where a number lies; solving for the value at x comes to x. -/
import Derived.Test.YtfkclcoipadhmaaGreatDoorCx
import Derived.Test.YtfkclcoipadhmaaGreatDoorDy
import Derived.Test.YtfkclcoipadhmaaGreatDoorEo
namespace Go.Proofs.YtfkclcoipadhmaaGreatDoor
open Go.RowKit

/-- Where x lies. -/
theorem place {C : List Pt} (hc : CV C) {x : Rat} (hd : InDom C x) : (∃ i, i < C.length ∧ (C.getD i (0, 0)).1 = x) ∨ (∃ i, i + 1 < C.length ∧ (C.getD i (0, 0)).1 < x ∧ x < (C.getD (i + 1) (0, 0)).1) := by
  have h2 := hc.two
  have key : ∀ n, n < C.length → x ≤ (C.getD n (0, 0)).1 → (∃ i, i < C.length ∧ (C.getD i (0, 0)).1 = x) ∨ (∃ i, i + 1 < C.length ∧ (C.getD i (0, 0)).1 < x ∧ x < (C.getD (i + 1) (0, 0)).1) := by
    intro n
    induction n with
    | zero =>
      intro hn hx
      have h0 := hd.1
      rw [hc.first] at hx
      exact .inl ⟨0, hn, by rw [hc.first]; show (0 : Rat) = x; have : x ≤ 0 := hx; grind⟩
    | succ n ih =>
      intro hn hx
      by_cases he : (C.getD (n + 1) (0, 0)).1 = x
      · exact .inl ⟨n + 1, hn, he⟩
      · by_cases hl : x ≤ (C.getD n (0, 0)).1
        · exact ih (by omega) hl
        · exact .inr ⟨n, hn, by grind, by grind⟩
  exact key (C.length - 1) (by omega) hd.2
theorem segO_val {p q : Pt} {x y : Rat} (h : segO p q x = some y) : y = p.2 + (x - p.1) * ((q.2 - p.2) / (q.1 - p.1)) := by
  unfold segO slO at h
  cases h1 : fitO (q.2 - p.2) with
  | none => rw [h1] at h; cases h
  | some dy =>
    cases h2 : fitO (q.1 - p.1) with
    | none => rw [h1, h2] at h; cases h
    | some dx =>
      rw [h1, h2] at h
      simp only [Option.bind_some] at h
      cases h3 : fitO (dy / dx) with
      | none => rw [h3] at h; cases h
      | some s =>
        rw [h3] at h
        simp only [Option.bind_some] at h
        cases h4 : fitO (x - p.1) with
        | none => rw [h4] at h; cases h
        | some d =>
          rw [h4] at h
          simp only [Option.bind_some] at h
          cases h5 : fitO (d * s) with
          | none => rw [h5] at h; cases h
          | some m =>
            rw [h5] at h
            simp only [Option.bind_some] at h
            rw [(fitO_fits h).2, (fitO_fits h5).2, (fitO_fits h4).2, (fitO_fits h3).2, (fitO_fits h2).2, (fitO_fits h1).2]
theorem seg_mid {a b c d x : Rat} (h1 : a < c) (h2 : b < d) (h3 : a < x) (h4 : x < c) : b < b + (x - a) * ((d - b) / (c - a)) ∧ b + (x - a) * ((d - b) / (c - a)) < d ∧ a + ((b + (x - a) * ((d - b) / (c - a))) - b) * ((c - a) / (d - b)) = x := by
  have hu : 0 < c - a := by grind
  have hv : 0 < d - b := by grind
  have hs : 0 < (d - b) / (c - a) := by rw [Rat.div_def]; exact Rat.mul_pos hv (Rat.inv_pos.2 hu)
  have e1 : (c - a) * ((d - b) / (c - a)) = d - b := by grind
  have e2 : ((d - b) / (c - a)) * ((c - a) / (d - b)) = 1 := by grind
  have m1 : 0 < (x - a) * ((d - b) / (c - a)) := Rat.mul_pos (by grind) hs
  have m2 : 0 < (c - x) * ((d - b) / (c - a)) := Rat.mul_pos (by grind) hs
  refine ⟨by grind, by grind, ?_⟩
  have : ((b + (x - a) * ((d - b) / (c - a))) - b) * ((c - a) / (d - b)) = (x - a) * (((d - b) / (c - a)) * ((c - a) / (d - b))) := by grind
  rw [this, e2]
  grind
theorem sw_get (C : List Pt) {i : Nat} (hi : i < C.length) : (C.map swP).getD i (0, 0) = swP (C.getD i (0, 0)) := by
  rw [List.getD_eq_getElem?_getD, List.getElem?_map, List.getD_eq_getElem?_getD, List.getElem?_eq_getElem hi]
  rfl
theorem sw_cv {C : List Pt} (h : CV C) : CV (C.map swP) where
  two := by rw [List.length_map]; exact h.two
  most := by rw [List.length_map]; exact h.most
  first := by rw [sw_get C (by have := h.two; omega), h.first]; rfl
  fit := fun i hi => by
    rw [List.length_map] at hi
    rw [sw_get C hi]
    exact ⟨(h.fit i hi).2, (h.fit i hi).1⟩
  rise := fun i hi => by
    rw [List.length_map] at hi
    rw [sw_get C hi, sw_get C (by omega)]
    exact ⟨(h.rise i hi).2, (h.rise i hi).1⟩
/-- Solving for the value at x comes to x. -/
theorem at_back {C : List Pt} (hc : CV C) {x y z : Rat} (hd : InDom C x) (h1 : atO C x = some y) (h2 : atO (C.map swP) y = some z) : z = x := by
  rcases place hc hd with ⟨i, hi, he⟩ | ⟨i, hi, hl, hr⟩
  · rw [at_same hc hi he] at h1
    have h3 := at_same (sw_cv hc) (x := y) (i := i) (by rwa [List.length_map]) (by rw [sw_get C hi]; exact Option.some.inj h1)
    rw [h3, sw_get C hi] at h2
    rw [← Option.some.inj h2]
    exact he
  · rw [at_between hc hi hl hr] at h1
    have hv := segO_val h1
    have hr2 := hc.rise i hi
    have hm := seg_mid hr2.1 hr2.2 hl hr
    rw [← hv] at hm
    have h3 := at_between (sw_cv hc) (x := y) (i := i) (by rwa [List.length_map]) (by rw [sw_get C (by omega)]; exact hm.1) (by rw [sw_get C hi]; exact hm.2.1)
    rw [h3, sw_get C (by omega), sw_get C hi] at h2
    rw [segO_val h2]
    exact hm.2.2

end Go.Proofs.YtfkclcoipadhmaaGreatDoor
