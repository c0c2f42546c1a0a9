/- Plainly: the part of a curve up to x, and the area under a curve; the cut curve has the same area. -/
import Derived.Test.YtfkclcoipadhmaaGreatDoorFo
namespace Go.Proofs.YtfkclcoipadhmaaGreatDoor
open Go.RowKit

/-- The points ahead of x. -/
def aheadL (C : List Pt) (x : Rat) : List Pt := C.filter fun p => decide (p.1 < x)
/-- What Cut hands back. -/
def cutL (C : List Pt) (x y : Rat) : List Pt := aheadL C x ++ [(x, y)]
theorem filter_take {C : List Pt} {x : Rat} {m : Nat} (hm : m ≤ C.length) (h1 : ∀ i, i < m → (C.getD i (0, 0)).1 < x) (h2 : ∀ i, m ≤ i → i < C.length → x ≤ (C.getD i (0, 0)).1) : aheadL C x = C.take m := by
  unfold aheadL
  have hs : C = C.take m ++ C.drop m := (List.take_append_drop m C).symm
  have e1 : (C.take m).filter (fun p => decide (p.1 < x)) = C.take m := by
    rw [List.filter_eq_self]
    intro p hp
    obtain ⟨i, hi, rfl⟩ := List.mem_iff_getElem.1 hp
    rw [List.length_take] at hi
    have := h1 i (by omega)
    rw [List.getD_eq_getElem?_getD, List.getElem?_eq_getElem (by omega)] at this
    rw [List.getElem_take]
    exact decide_eq_true this
  have e2 : (C.drop m).filter (fun p => decide (p.1 < x)) = [] := by
    rw [List.filter_eq_nil_iff]
    intro p hp
    obtain ⟨i, hi, rfl⟩ := List.mem_iff_getElem.1 hp
    rw [List.length_drop] at hi
    have := h2 (m + i) (by omega) (by omega)
    rw [List.getD_eq_getElem?_getD, List.getElem?_eq_getElem (by omega)] at this
    rw [List.getElem_drop]
    simp only [decide_eq_true_eq]
    exact Rat.not_lt.2 this
  conv => lhs; rw [hs]
  rw [List.filter_append, e1, e2, List.append_nil]
/-- How many points lie ahead of x. -/
theorem ahead_m {C : List Pt} (hc : CV C) {x : Rat} (hd : InDom C x) (hx : 0 < x) : ∃ m, 1 ≤ m ∧ m < C.length ∧ (∀ i, i < m → (C.getD i (0, 0)).1 < x) ∧ (∀ i, m ≤ i → i < C.length → x ≤ (C.getD i (0, 0)).1) ∧
    ((C.getD m (0, 0)).1 = x ∧ atO C x = some (C.getD m (0, 0)).2 ∨ x < (C.getD m (0, 0)).1 ∧ atO C x = segO (C.getD (m - 1) (0, 0)) (C.getD m (0, 0)) x) := by
  have h2 := hc.two
  rcases place hc hd with ⟨i, hi, he⟩ | ⟨i, hi, hl, hr⟩
  · have hi0 : i ≠ 0 := by
      rintro rfl
      rw [hc.first] at he
      have : (0 : Rat) = x := he
      grind
    refine ⟨i, by omega, hi, fun j hj => by rw [← he]; exact (hc.lt hj hi).1, fun j h1 h2 => ?_, .inl ⟨he, at_same hc hi he⟩⟩
    by_cases hji : j = i
    · rw [hji, he]; exact Rat.le_refl
    · have := (hc.lt (show i < j by omega) h2).1
      grind
  · refine ⟨i + 1, by omega, hi, fun j hj => ?_, fun j h1 h2 => ?_, .inr ⟨hr, at_between hc hi hl hr⟩⟩
    · by_cases hji : j = i
      · rw [hji]; exact hl
      · have := (hc.lt (show j < i by omega) (by omega)).1
        grind
    · by_cases hji : j = i + 1
      · rw [hji]; exact Rat.le_of_lt hr
      · have := (hc.lt (show i + 1 < j by omega) h2).1
        grind
/-- The area of a strip, added to w. -/
def stripO (w : Rat) (p q : Pt) : Option Rat := (fitO (p.2 + q.2)).bind fun h => (fitO (h / 2)).bind fun m => (fitO (q.1 - p.1)).bind fun d => (fitO (m * d)).bind fun a => fitO (w + a)
/-- The area of the first k segments up to x. -/
def workO (C : List Pt) (x : Rat) : Nat → Option Rat
  | 0 => some 0
  | k + 1 => (workO C x k).bind fun w => if (C.getD (k + 1) (0, 0)).1 ≤ x then stripO w (C.getD k (0, 0)) (C.getD (k + 1) (0, 0)) else if (C.getD k (0, 0)).1 < x then (atO C x).bind fun y => stripO w (C.getD k (0, 0)) (x, y) else some w
theorem work_step (C : List Pt) (x : Rat) (k : Nat) : workO C x (k + 1) = (workO C x k).bind fun w => if (C.getD (k + 1) (0, 0)).1 ≤ x then stripO w (C.getD k (0, 0)) (C.getD (k + 1) (0, 0)) else if (C.getD k (0, 0)).1 < x then (atO C x).bind fun y => stripO w (C.getD k (0, 0)) (x, y) else some w := rfl
theorem work_past {C : List Pt} {x : Rat} {m : Nat} (h : ∀ i, m ≤ i → i < C.length → x ≤ (C.getD i (0, 0)).1) (h1 : ∀ i, m < i → i < C.length → x < (C.getD i (0, 0)).1) : ∀ n, m + n < C.length → workO C x (m + n) = workO C x m
  | 0, _ => rfl
  | n + 1, hn => by
    rw [show m + (n + 1) = m + n + 1 from rfl, work_step, work_past h h1 n (by omega)]
    have a1 := h (m + n) (by omega) (by omega)
    have a2 := h1 (m + n + 1) (by omega) (by omega)
    have c1 : ¬ (C.getD (m + n + 1) (0, 0)).1 ≤ x := by grind
    have c2 : ¬ (C.getD (m + n) (0, 0)).1 < x := by grind
    simp only [if_neg c1, if_neg c2]
    cases workO C x m <;> rfl
theorem cut_get {C : List Pt} {m : Nat} (hm : m < C.length) (x y : Rat) {i : Nat} (hi : i < m) : (C.take m ++ [(x, y)]).getD i (0, 0) = C.getD i (0, 0) := by
  rw [List.getD_eq_getElem?_getD, List.getElem?_append_left (by rw [List.length_take]; omega), List.getElem?_take, if_pos hi, List.getD_eq_getElem?_getD]
theorem cut_last {C : List Pt} {m : Nat} (hm : m < C.length) (x y : Rat) : (C.take m ++ [(x, y)]).getD m (0, 0) = (x, y) := by
  have : (C.take m).length = m := by rw [List.length_take]; omega
  rw [List.getD_eq_getElem?_getD, List.getElem?_append_right (by omega), this, Nat.sub_self]
  rfl
theorem cut_len {C : List Pt} {m : Nat} (hm : m < C.length) (x y : Rat) : (C.take m ++ [(x, y)]).length = m + 1 := by
  rw [List.length_append, List.length_take, List.length_singleton]; omega
/-- The cut curve is a curve, x is in its domain, and its area up to x is the same. -/
theorem cut_good {C : List Pt} (hc : CV C) {x y : Rat} (hd : InDom C x) (hx : 0 < x) (hfx : fits x) (hfy : fits y) (hy : atO C x = some y) :
    CV (cutL C x y) ∧ InDom (cutL C x y) x ∧ workO (cutL C x y) x ((cutL C x y).length - 1) = workO C x (C.length - 1) := by
  obtain ⟨m, h1, hm, hlo, hhi, hat⟩ := ahead_m hc hd hx
  unfold cutL
  rw [filter_take (by omega) hlo hhi]
  have hlen := cut_len hm x y
  have hg := fun i (hi : i < m) => cut_get hm x y hi
  have hl := cut_last hm x y
  have hrise : (C.getD (m - 1) (0, 0)).2 < y := by
    rcases hat with ⟨he, ha⟩ | ⟨he, ha⟩
    · rw [hy] at ha
      rw [Option.some.inj ha]
      exact (hc.lt (show m - 1 < m by omega) hm).2
    · rw [hy] at ha
      have hr2 := hc.lt (show m - 1 < m by omega) hm
      have hmid := seg_mid hr2.1 hr2.2 (hlo (m - 1) (by omega)) he
      rw [segO_val ha.symm]
      exact hmid.1
  refine ⟨⟨by omega, by rw [hlen]; have := hc.most; omega, by rw [hg 0 (by omega)]; exact hc.first, fun i hi => ?_, fun i hi => ?_⟩, ⟨hd.1, by rw [hlen, Nat.add_sub_cancel, hl]; exact Rat.le_refl⟩, ?_⟩
  · by_cases him : i < m
    · rw [hg i him]; exact hc.fit i (by omega)
    · obtain rfl : i = m := by omega
      rw [hl]; exact ⟨hfx, hfy⟩
  · by_cases him : i + 1 < m
    · rw [hg i (by omega), hg (i + 1) him]; exact hc.rise i (by omega)
    · obtain rfl : m = i + 1 := by omega
      rw [hg i (by omega), hl]
      exact ⟨hlo i (by omega), hrise⟩
  · rw [hlen, Nat.add_sub_cancel]
    have hsame : ∀ k, k < m → workO (C.take m ++ [(x, y)]) x k = workO C x k := by
      intro k
      induction k with
      | zero => intro _; rfl
      | succ k ih =>
        intro hk
        rw [work_step, work_step, ih (by omega), hg k (by omega), hg (k + 1) hk]
        simp only [if_pos (Rat.le_of_lt (hlo (k + 1) hk))]
    have hat1 : workO C x (C.length - 1) = workO C x m := by
      have hp := work_past (C := C) (x := x) (m := m) hhi (fun i h1 h2 => by have := (hc.lt h1 h2).1; have := hhi m (Nat.le_refl _) hm; grind) (C.length - 1 - m) (by omega)
      rw [← hp]
      congr 1
      omega
    rw [hat1]
    obtain ⟨k, rfl⟩ : ∃ k, m = k + 1 := ⟨m - 1, by omega⟩
    rw [work_step, work_step, hsame k (by omega), hg k (by omega), hl]
    simp only [if_pos (show x ≤ x from Rat.le_refl)]
    rcases hat with ⟨he, ha⟩ | ⟨he, ha⟩
    · have c1 : (C.getD (k + 1) (0, 0)).1 ≤ x := by rw [he]; exact Rat.le_refl
      simp only [if_pos c1]
      have e : C.getD (k + 1) (0, 0) = (x, y) := by
        rw [hy] at ha
        rw [Option.some.inj ha, ← he]
      rw [e]
    · have c1 : ¬ (C.getD (k + 1) (0, 0)).1 ≤ x := by grind
      simp only [if_neg c1, if_pos (hlo k (by omega)), hy, Option.bind_some]

end Go.Proofs.YtfkclcoipadhmaaGreatDoor
