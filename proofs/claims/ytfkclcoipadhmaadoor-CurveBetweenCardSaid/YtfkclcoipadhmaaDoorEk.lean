/- Plainly: the normal form of a curve is a curve, so is the sum; the sum does not depend on the order. -/
import Derived.Test.YtfkclcoipadhmaaDoorCz
namespace Go.Proofs.YtfkclcoipadhmaaDoor
open Go.RowKit

def lt2 (p q : Pt) : Prop := p.1 < q.1 ∧ p.2 < q.2
theorem cv_pair {c : List Pt} (h : CV c) : c.Pairwise lt2 := by
  rw [List.pairwise_iff_getElem]
  intro i j hi hj hij
  have := h.lt hij hj
  rw [List.getD_eq_getElem?_getD, List.getD_eq_getElem?_getD, List.getElem?_eq_getElem hi, List.getElem?_eq_getElem hj] at this
  exact this
theorem cv_mem {c : List Pt} (h : CV c) {p : Pt} (hp : p ∈ c) : fits p.1 ∧ fits p.2 := by
  obtain ⟨i, hi, rfl⟩ := List.mem_iff_getElem.1 hp
  have := h.fit i hi
  rwa [List.getD_eq_getElem?_getD, List.getElem?_eq_getElem hi] at this
theorem cv_of {c : List Pt} (h1 : 2 ≤ c.length) (h2 : c.length ≤ 48) (h3 : c.getD 0 (0, 0) = (0, 0)) (h4 : ∀ p ∈ c, fits p.1 ∧ fits p.2) (h5 : c.Pairwise lt2) : CV c where
  two := h1
  most := h2
  first := h3
  fit := fun i hi => by
    rw [List.getD_eq_getElem?_getD, List.getElem?_eq_getElem hi]
    exact h4 _ (List.getElem_mem hi)
  rise := fun i hi => by
    have := List.pairwise_iff_getElem.1 h5 i (i + 1) (by omega) hi (by omega)
    rw [List.getD_eq_getElem?_getD, List.getD_eq_getElem?_getD, List.getElem?_eq_getElem hi, List.getElem?_eq_getElem (by omega)]
    exact this
theorem map_range_self (c : List Pt) : (List.range c.length).map (fun j => c.getD j (0, 0)) = c := by
  refine List.ext_getElem (by simp) (fun i h1 h2 => ?_)
  rw [List.getElem_map, List.getElem_range, List.getD_eq_getElem?_getD, List.getElem?_eq_getElem h2]
  rfl
theorem norm_sub (c : List Pt) (s : List Rat) : (normTo c s c.length).Sublist c := by
  have h := (List.filter_sublist (p := keepB c s) (l := List.range c.length)).map (fun j => c.getD j (0, 0))
  rw [map_range_self] at h
  exact h
theorem norm_first (c : List Pt) (s : List Rat) (k : Nat) : ∃ r, normTo c s (k + 1) = c.getD 0 (0, 0) :: r := by
  unfold normTo
  rw [List.range_succ_eq_map, List.filter_cons_of_pos (by rfl), List.map_cons]
  exact ⟨_, rfl⟩
theorem norm_last {c : List Pt} (s : List Rat) {k : Nat} (hk : k + 1 = c.length) : normTo c s c.length = normTo c s k ++ [c.getD k (0, 0)] := by
  rw [← hk]
  exact normTo_yes (by unfold keepB; rw [decide_eq_true hk]; simp)
theorem cv_norm {c : List Pt} (h : CV c) (s : List Rat) : CV (normTo c s c.length) := by
  have h2 := h.two
  obtain ⟨m, hm⟩ : ∃ m, c.length = m + 1 + 1 := ⟨c.length - 2, by omega⟩
  have hl := norm_last s hm.symm
  obtain ⟨r, hr⟩ := norm_first c s m
  refine cv_of ?_ (Nat.le_trans (norm_sub c s).length_le h.most) ?_ (fun p hp => cv_mem h ((norm_sub c s).subset hp)) ((cv_pair h).sublist (norm_sub c s))
  · rw [hl, hr]
    simp
  · rw [hl, hr]
    show c.getD 0 (0, 0) = _
    exact h.first
/-- The normal form ends where the curve ends. -/
theorem norm_end {c : List Pt} (h : CV c) (s : List Rat) : endQ (normTo c s c.length) = endQ c := by
  have h2 := h.two
  obtain ⟨m, hm⟩ : ∃ m, c.length = m + 1 := ⟨c.length - 1, by omega⟩
  have hl := norm_last s hm.symm
  unfold endQ
  rw [hl, List.length_append, List.getD_eq_getElem?_getD]
  simp
  rw [hm]
  rfl
theorem slp_norm {c : List P4} (h : slpE c = 0) : CV (nrmL c) := by
  obtain ⟨hr, -⟩ := slp_zero h
  unfold nrmL
  rw [if_pos h, ← toQ_len c]
  exact cv_norm (rv_cv hr) _
theorem made_cv {f : Rat → Option Pt} {l : List Rat} (h : madE f l = 0) : CV (madL f l) := by
  unfold madE at h
  unfold madL
  cases hp : ptsO f l l.length with
  | none => rw [hp] at h; cases h
  | some o => rw [hp] at h; exact slp_norm h
theorem sum_cv {c d : List P4} (h : sumE c d = 0) : CV (sumL c d) := by
  unfold sumE at h
  unfold sumL
  by_cases h0 : comE c d = 0
  · rw [if_pos h0] at h ⊢
    exact made_cv h
  · rw [if_neg h0] at h
    exact absurd h h0

theorem lesQ_comm (a b : Rat) : lesQ a b = lesQ b a := by
  unfold lesQ
  by_cases h1 : b < a
  · rw [if_pos h1, if_neg (by grind)]
  · rw [if_neg h1]
    by_cases h2 : a < b
    · rw [if_pos h2]
    · rw [if_neg h2]; grind
theorem comG_comm (A C : List Pt) : comG A C = comG C A := by
  unfold comG
  rw [lesQ_comm]
  exact grid_unique (gridQ_grid _ _) (gridQ_grid _ _) (fun x => by rw [List.mem_append, List.mem_append]; exact Or.comm)
theorem sumO_comm (A C : List Pt) : sumO A C = sumO C A := by
  funext x
  unfold sumO
  cases atO A x with
  | none => cases atO C x <;> rfl
  | some y =>
    cases atO C x with
    | none => rfl
    | some z =>
      simp only [Option.bind_some]
      rw [Rat.add_comm]
theorem comE_comm (c d : List P4) : comE c d = comE d c := by
  unfold comE
  rw [comG_comm]
  by_cases h : RV c ∧ RV d
  · rw [if_pos h, if_pos h.symm]
  · rw [if_neg h, if_neg (fun hh => h hh.symm)]
theorem sum_comm (c d : List P4) : sumE c d = sumE d c ∧ sumL c d = sumL d c := by
  unfold sumE sumL
  rw [comE_comm, comG_comm, sumO_comm]
  exact ⟨rfl, rfl⟩

end Go.Proofs.YtfkclcoipadhmaaDoor
