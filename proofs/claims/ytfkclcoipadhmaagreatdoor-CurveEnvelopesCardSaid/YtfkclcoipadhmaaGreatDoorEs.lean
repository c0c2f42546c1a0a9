/- Plainly: numbers put one after another are the grid. -/
import Derived.Test.YtfkclcoipadhmaaGreatDoorEr
namespace Go.Proofs.YtfkclcoipadhmaaGreatDoor
open Go.RowKit

theorem put_find (x : Rat) : ∀ l : List Rat, ∃ k, k ≤ l.length ∧ (∀ j, j < k → l.getD j 0 < x) ∧ (k < l.length → ¬ l.getD k 0 < x)
  | [] => ⟨0, Nat.le_refl _, fun j hj => by omega, fun h => by cases h⟩
  | a :: l => by
    by_cases ha : a < x
    · obtain ⟨k, h1, h2, h3⟩ := put_find x l
      refine ⟨k + 1, by simpa using h1, fun j hj => ?_, fun h => ?_⟩
      · cases j with
        | zero => exact ha
        | succ j => exact h2 j (by omega)
      · exact h3 (by simpa using h)
    · exact ⟨0, Nat.zero_le _, fun j hj => by omega, fun _ => ha⟩
theorem get_mem {l : List Rat} {y : Rat} (h : y ∈ l) : ∃ j, j < l.length ∧ l.getD j 0 = y := by
  obtain ⟨j, hj, rfl⟩ := List.mem_iff_getElem.1 h
  exact ⟨j, hj, by rw [List.getD_eq_getElem?_getD, List.getElem?_eq_getElem hj]; rfl⟩
theorem rising_get {l : List Rat} (h : Rising l) {i j : Nat} (hij : i < j) (hj : j < l.length) : l.getD i 0 < l.getD j 0 := by
  have := List.pairwise_iff_getElem.1 h i j (by omega) hj hij
  rw [List.getD_eq_getElem?_getD, List.getD_eq_getElem?_getD, List.getElem?_eq_getElem hj, List.getElem?_eq_getElem (by omega)]
  exact this
theorem put_grid {l : List Rat} (h : Rising l) (x : Rat) : Rising (putL l x) ∧ ∀ y, y ∈ putL l x ↔ y ∈ l ∨ y = x := by
  obtain ⟨k, h1, h2, h3⟩ := put_find x l
  have hk := put_at h1 h2 h3
  unfold putL
  rw [hk]
  by_cases he : k < l.length ∧ l.getD k 0 = x
  · rw [if_pos he]
    refine ⟨h, fun y => ⟨.inl, fun hy => ?_⟩⟩
    rcases hy with hy | rfl
    · exact hy
    · rw [← he.2]
      exact getD_memQ he.1
  · rw [if_neg he]
    have hgt : ∀ y ∈ l.drop k, x < y := by
      intro y hy
      obtain ⟨j, hj, rfl⟩ := get_mem hy
      rw [List.length_drop] at hj
      have e : (l.drop k).getD j 0 = l.getD (k + j) 0 := by rw [List.getD_eq_getElem?_getD, List.getElem?_drop, List.getD_eq_getElem?_getD]
      rw [e]
      have hkl : k < l.length := by omega
      have h4 := h3 hkl
      have h5 : l.getD k 0 ≠ x := fun hh => he ⟨hkl, hh⟩
      have h6 : x < l.getD k 0 := by grind
      by_cases hj0 : j = 0
      · rw [hj0]; exact h6
      · have := rising_get h (show k < k + j by omega) (by omega)
        grind
    have hlt : ∀ y ∈ l.take k, y < x := by
      intro y hy
      obtain ⟨j, h5, -, rfl⟩ := take_mem.1 hy
      exact h2 j h5
    constructor
    · refine List.pairwise_append.2 ⟨List.Pairwise.sublist (List.take_sublist k l) h, List.pairwise_cons.2 ⟨hgt, List.Pairwise.sublist (List.drop_sublist k l) h⟩, fun a ha b hb => ?_⟩
      have ha' := hlt a ha
      rcases List.mem_cons.1 hb with rfl | hb
      · exact ha'
      · have := hgt b hb
        grind
    · intro y
      have hs : l = l.take k ++ l.drop k := (List.take_append_drop k l).symm
      constructor
      · intro hy
        rcases List.mem_append.1 hy with hy | hy
        · left; rw [hs]; exact List.mem_append_left _ hy
        · rcases List.mem_cons.1 hy with rfl | hy
          · exact .inr rfl
          · left; rw [hs]; exact List.mem_append_right _ hy
      · rintro (hy | rfl)
        · rw [hs] at hy
          rcases List.mem_append.1 hy with hy | hy
          · exact List.mem_append_left _ hy
          · exact List.mem_append_right _ (List.mem_cons_of_mem _ hy)
        · exact List.mem_append_right _ (List.mem_cons_self ..)
theorem put_len (l : List Rat) (x : Rat) : (putL l x).length ≤ l.length + 1 := by
  unfold putL
  by_cases he : putK l x < l.length ∧ l.getD (putK l x) 0 = x
  · rw [if_pos he]; omega
  · rw [if_neg he, List.length_append, List.length_append, List.length_take, List.length_drop]
    simp
    omega
/-- The numbers that are at most m, put one after another. -/
def grT (S : List Rat) (m : Rat) : Nat → List Rat
  | 0 => []
  | k + 1 => if S.getD k 0 ≤ m then putL (grT S m k) (S.getD k 0) else grT S m k
theorem grT_grid (S : List Rat) (m : Rat) : ∀ k, k ≤ S.length → Rising (grT S m k) ∧ ∀ y, y ∈ grT S m k ↔ y ∈ S.take k ∧ y ≤ m
  | 0, _ => ⟨List.Pairwise.nil, fun y => by simp [grT]⟩
  | k + 1, hk => by
    obtain ⟨h1, h2⟩ := grT_grid S m k (by omega)
    have hm : ∀ y, y ∈ S.take (k + 1) ↔ y ∈ S.take k ∨ y = S.getD k 0 := by
      intro y
      rw [take_mem, take_mem]
      constructor
      · rintro ⟨j, a, b, rfl⟩
        by_cases hj : j = k
        · right; rw [hj]
        · exact .inl ⟨j, by omega, b, rfl⟩
      · rintro (⟨j, a, b, rfl⟩ | rfl)
        · exact ⟨j, by omega, b, rfl⟩
        · exact ⟨k, by omega, by omega, rfl⟩
    unfold grT
    by_cases hx : S.getD k 0 ≤ m
    · rw [if_pos hx]
      obtain ⟨h3, h4⟩ := put_grid h1 (S.getD k 0)
      refine ⟨h3, fun y => ?_⟩
      rw [h4, h2, hm]
      constructor
      · rintro (⟨a, b⟩ | rfl)
        · exact ⟨.inl a, b⟩
        · exact ⟨.inr rfl, hx⟩
      · rintro ⟨a | rfl, b⟩
        · exact .inl ⟨a, b⟩
        · exact .inr rfl
    · rw [if_neg hx]
      refine ⟨h1, fun y => ?_⟩
      rw [h2, hm]
      constructor
      · rintro ⟨a, b⟩; exact ⟨.inl a, b⟩
      · rintro ⟨a | rfl, b⟩
        · exact ⟨a, b⟩
        · exact absurd b hx
theorem grT_all (S : List Rat) (m : Rat) : grT S m S.length = gridQ S m := by
  obtain ⟨h1, h2⟩ := grT_grid S m S.length (Nat.le_refl _)
  refine gridQ_of ⟨h1, fun y => ?_⟩
  rw [h2, List.take_of_length_le (Nat.le_refl _)]
theorem grT_len (S : List Rat) (m : Rat) : ∀ k, (grT S m k).length ≤ k
  | 0 => Nat.le_refl _
  | k + 1 => by
    unfold grT
    by_cases hx : S.getD k 0 ≤ m
    · rw [if_pos hx]
      have := put_len (grT S m k) (S.getD k 0)
      have := grT_len S m k
      omega
    · rw [if_neg hx]
      have := grT_len S m k
      omega
theorem grT_fits {S : List Rat} {m : Rat} (hS : ∀ y ∈ S, fits y) {k : Nat} (hk : k ≤ S.length) {i : Nat} (hi : i < (grT S m k).length) : fits ((grT S m k).getD i 0) := by
  have h := ((grT_grid S m k hk).2 _).1 (getD_memQ hi)
  exact hS _ (List.mem_of_mem_take h.1)
theorem put_ne (l : List Rat) (x : Rat) : putL l x ≠ [] := by
  unfold putL
  by_cases he : putK l x < l.length ∧ l.getD (putK l x) 0 = x
  · rw [if_pos he]
    intro h0
    rw [h0] at he
    exact absurd he.1 (by simp)
  · rw [if_neg he]
    simp

end Go.Proofs.YtfkclcoipadhmaaGreatDoor
