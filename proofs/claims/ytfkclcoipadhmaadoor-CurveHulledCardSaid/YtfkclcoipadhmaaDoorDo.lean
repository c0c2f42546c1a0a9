/- Plainly: a sorted row without neighbours that are alike is the grid of its members. -/
import Derived.Test.YtfkclcoipadhmaaDoorDn
namespace Go.Proofs.YtfkclcoipadhmaaDoor
open Go.RowKit

theorem take_mem {l : List Rat} {j : Nat} {x : Rat} : x ∈ l.take j ↔ ∃ k, k < j ∧ k < l.length ∧ l.getD k 0 = x := by
  constructor
  · intro h
    obtain ⟨k, hk, he⟩ := List.mem_iff_getElem.1 h
    rw [List.length_take] at hk
    refine ⟨k, by omega, by omega, ?_⟩
    rw [List.getElem_take] at he
    rw [List.getD_eq_getElem?_getD, List.getElem?_eq_getElem (by omega)]
    exact he
  · rintro ⟨k, h1, h2, he⟩
    refine List.mem_iff_getElem.2 ⟨k, by rw [List.length_take]; omega, ?_⟩
    rw [List.getElem_take]
    rw [List.getD_eq_getElem?_getD, List.getElem?_eq_getElem h2] at he
    exact he
theorem dd_grid {l : List Rat} (hs : ∀ i j, i ≤ j → j < l.length → l.getD i 0 ≤ l.getD j 0) : ∀ j, j ≤ l.length → Rising (ddTo l j) ∧ ∀ x, x ∈ ddTo l j ↔ x ∈ l.take j
  | 0, _ => ⟨List.Pairwise.nil, fun x => by simp [ddTo]⟩
  | j + 1, hj => by
    obtain ⟨h1, h2⟩ := dd_grid hs j (by omega)
    cases hn : newB l j with
    | true =>
      rw [ddTo_yes hn]
      refine ⟨?_, fun x => ?_⟩
      · refine List.pairwise_append.2 ⟨h1, List.pairwise_singleton _ _, fun a ha b hb => ?_⟩
        rw [List.mem_singleton] at hb
        subst hb
        obtain ⟨k, hk1, hk2, rfl⟩ := take_mem.1 ((h2 a).1 ha)
        have hlt : l.getD (j - 1) 0 < l.getD j 0 := by
          have h3 : l.getD (j - 1) 0 ≠ l.getD j 0 := by
            unfold newB at hn
            rw [decide_eq_false (show ¬ j = 0 by omega), Bool.false_or] at hn
            exact of_decide_eq_true hn
          have h4 := hs (j - 1) j (by omega) (by omega)
          grind
        have h5 := hs k (j - 1) (by omega) (by omega)
        grind
      · rw [List.mem_append, List.mem_singleton, h2, take_mem, take_mem]
        constructor
        · rintro (⟨k, a, b, c⟩ | rfl)
          · exact ⟨k, by omega, b, c⟩
          · exact ⟨j, by omega, by omega, rfl⟩
        · rintro ⟨k, a, b, c⟩
          by_cases hkj : k = j
          · right; rw [← c, hkj]
          · exact .inl ⟨k, by omega, b, c⟩
    | false =>
      rw [ddTo_no hn]
      refine ⟨h1, fun x => ?_⟩
      rw [h2, take_mem, take_mem]
      have hj0 : j ≠ 0 := by
        rintro rfl
        unfold newB at hn
        rw [decide_eq_true rfl] at hn
        cases hn
      have he : l.getD (j - 1) 0 = l.getD j 0 := by
        unfold newB at hn
        rw [decide_eq_false hj0, Bool.false_or] at hn
        have := of_decide_eq_false hn
        exact Decidable.of_not_not this
      constructor
      · rintro ⟨k, a, b, c⟩
        exact ⟨k, by omega, b, c⟩
      · rintro ⟨k, a, b, c⟩
        by_cases hkj : k = j
        · exact ⟨j - 1, by omega, by omega, by rw [he, ← hkj]; exact c⟩
        · exact ⟨k, by omega, b, c⟩

end Go.Proofs.YtfkclcoipadhmaaDoor
