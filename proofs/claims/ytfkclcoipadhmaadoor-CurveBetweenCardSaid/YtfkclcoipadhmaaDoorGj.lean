/- Plainly: the area under the sum of two curves, and its values. -/
import Derived.Test.YtfkclcoipadhmaaDoorFq
import Derived.Test.YtfkclcoipadhmaaDoorFu
import Derived.Test.YtfkclcoipadhmaaDoorEk
namespace Go.Proofs.YtfkclcoipadhmaaDoor
open Go.RowKit

theorem toQ_ofQ3 (C : List Pt) : toQ (ofQ C) = C := by
  unfold toQ ofQ
  rw [List.map_map]
  refine (List.map_congr_left (fun p _ => ?_)).trans (List.map_id C)
  show (vq (p.1.num, (p.1.den : Int)), vq (p.2.num, (p.2.den : Int))) = p
  rw [vq_self, vq_self]
theorem slO_val {p q : Pt} {s : Rat} (h : slO p q = some s) : s = (q.2 - p.2) / (q.1 - p.1) := by
  unfold slO at h
  cases h1 : fitO (q.2 - p.2) with
  | none => rw [h1] at h; cases h
  | some dy =>
    cases h2 : fitO (q.1 - p.1) with
    | none => rw [h1, h2] at h; cases h
    | some dx =>
      rw [h1, h2] at h
      simp only [Option.bind_some] at h
      rw [(fitO_fits h).2, (fitO_fits h2).2, (fitO_fits h1).2]
theorem getD_left {α : Type} {d : α} {l : List α} {a : α} {j : Nat} (h : j < l.length) : (l ++ [a]).getD j d = l.getD j d := by
  rw [List.getD_eq_getElem?_getD, List.getElem?_append_left h, List.getD_eq_getElem?_getD]
theorem getD_end {α : Type} {d : α} {l : List α} {a : α} {k : Nat} (h : l.length = k) : (l ++ [a]).getD k d = a := by
  rw [List.getD_eq_getElem?_getD, List.getElem?_append_right (by omega), h, Nat.sub_self]
  rfl
theorem slsO_nth {c : List Pt} : ∀ {k : Nat} {l : List Rat}, slsO c k = some l → ∀ j, j < k → slO (c.getD j (0, 0)) (c.getD (j + 1) (0, 0)) = some (l.getD j 0)
  | 0, _, _, j, hj => by omega
  | k + 1, l, h, j, hj => by
    unfold slsO at h
    cases h1 : slsO c k with
    | none => rw [h1] at h; cases h
    | some l' =>
      rw [h1] at h
      simp only [Option.bind_some] at h
      cases h2 : slO (c.getD k (0, 0)) (c.getD (k + 1) (0, 0)) with
      | none => rw [h2] at h; cases h
      | some s =>
        rw [h2] at h
        have e : l = l' ++ [s] := (Option.some.inj h).symm
        have hl := slsO_len h1
        rw [e]
        by_cases hjk : j = k
        · rw [hjk, getD_end hl, h2]
        · rw [getD_left (by omega)]
          exact slsO_nth h1 j (by omega)
theorem ptsO_nth {f : Rat → Option Pt} {l : List Rat} : ∀ {k : Nat} {o : List Pt}, ptsO f l k = some o → ∀ j, j < k → f (l.getD j 0) = some (o.getD j (0, 0))
  | 0, _, _, j, hj => by omega
  | k + 1, o, h, j, hj => by
    unfold ptsO at h
    cases h1 : ptsO f l k with
    | none => rw [h1] at h; cases h
    | some l' =>
      rw [h1] at h
      simp only [Option.bind_some] at h
      cases h2 : f (l.getD k 0) with
      | none => rw [h2] at h; cases h
      | some s =>
        rw [h2] at h
        have e : o = l' ++ [s] := (Option.some.inj h).symm
        have hl := ptsO_len h1
        rw [e]
        by_cases hjk : j = k
        · rw [hjk, getD_end hl, h2]
        · rw [getD_left (by omega)]
          exact ptsO_nth h1 j (by omega)
theorem rising_get {l : List Rat} (h : Rising l) {i j : Nat} (hij : i < j) (hj : j < l.length) : l.getD i 0 < l.getD j 0 := by
  have := List.pairwise_iff_getElem.1 h i j (by omega) hj hij
  rw [List.getD_eq_getElem?_getD, List.getD_eq_getElem?_getD, List.getElem?_eq_getElem (by omega), List.getElem?_eq_getElem hj]
  exact this
theorem getD_mem {l : List Rat} {i : Nat} (hi : i < l.length) : l.getD i 0 ∈ l := by
  rw [List.getD_eq_getElem?_getD, List.getElem?_eq_getElem hi]
  exact List.getElem_mem _
theorem mem_getD {l : List Rat} {x : Rat} (h : x ∈ l) : ∃ i, i < l.length ∧ l.getD i 0 = x := by
  obtain ⟨i, hi, e⟩ := List.mem_iff_getElem.1 h
  exact ⟨i, hi, by rw [List.getD_eq_getElem?_getD, List.getElem?_eq_getElem hi]; exact e⟩
/-- A curve lies over the common grid. -/
theorem over_grid {A : List Pt} (hA : CV A) {M S : List Rat} {m : Rat} (hG : GridOf M S m) (hS : ∀ p ∈ A, p.1 ∈ S) (hm : m ≤ (A.getD (A.length - 1) (0, 0)).1) (h0 : M.getD 0 0 = 0) : OnGrid M A := by
  have h2 := hA.two
  refine ⟨hA.rix, by omega, by rw [hA.first, h0], fun k hk => ?_, fun k hk i hi => ?_⟩
  · have := ((hG.2 _).1 (getD_mem hk)).2
    grind
  · by_cases hle : (A.getD i (0, 0)).1 ≤ m
    · have hmem : (A.getD i (0, 0)).1 ∈ M := (hG.2 _).2 ⟨hS _ (by rw [List.getD_eq_getElem?_getD, List.getElem?_eq_getElem hi]; exact List.getElem_mem _), hle⟩
      obtain ⟨j, hj, e⟩ := mem_getD hmem
      by_cases hjk : j ≤ k
      · left
        by_cases he : j = k
        · rw [← e, he]; exact Rat.le_refl
        · have := rising_get hG.1 (show j < k by omega) (by omega)
          grind
      · right
        by_cases he : j = k + 1
        · rw [← e, he]; exact Rat.le_refl
        · have := rising_get hG.1 (show k + 1 < j by omega) hj
          grind
    · right
      have := ((hG.2 _).1 (getD_mem hk)).2
      grind
theorem lesQ_left (a b : Rat) : lesQ a b ≤ a := by
  unfold lesQ
  split
  · grind
  · exact Rat.le_refl
theorem lesQ_right (a b : Rat) : lesQ a b ≤ b := by
  unfold lesQ
  split
  · exact Rat.le_refl
  · grind
/-- The sum of two curves, plainly. -/
theorem sum_adds {c d : List P4} (h : sumE c d = 0) : RV c ∧ RV d ∧ ∀ x, InDom (sumL c d) x → valQ (sumL c d) x = valQ (toQ c) x + valQ (toQ d) x ∧
    areaQ (sumL c d) x ((sumL c d).length - 1) = areaQ (toQ c) x ((toQ c).length - 1) + areaQ (toQ d) x ((toQ d).length - 1) := by
  have hcom : comE c d = 0 := by
    apply Decidable.byContradiction
    intro hne
    unfold sumE at h
    rw [if_neg hne] at h
    exact hne h
  have hrr : RV c ∧ RV d := by
    apply Decidable.byContradiction
    intro hne
    unfold comE at hcom
    rw [if_neg hne] at hcom
    cases hcom
  refine ⟨hrr.1, hrr.2, ?_⟩
  have hA := rv_cv hrr.1
  have hB := rv_cv hrr.2
  unfold sumE at h
  rw [if_pos hcom] at h
  have hL : sumL c d = madL (sumO (toQ c) (toQ d)) (comG (toQ c) (toQ d)) := if_pos hcom
  rw [hL]
  generalize toQ c = A at *
  generalize toQ d = B at *
  have hG : GridOf (comG A B) (A.map (·.1) ++ B.map (·.1)) (lesQ (endQ A).1 (endQ B).1) := gridQ_grid _ _
  generalize comG A B = M at *
  unfold madE at h
  unfold madL
  cases hp : ptsO (sumO A B) M M.length with
  | none => rw [hp] at h; cases h
  | some o =>
    rw [hp] at h
    obtain ⟨hro, hsl⟩ := slp_zero h
    rw [toQ_ofQ3, ofQ_len] at hsl
    have ho := rv_ofQ.1 hro
    have hn : nrmL (ofQ o) = normTo o (slpL (ofQ o)) o.length := by
      unfold nrmL
      rw [if_pos h, toQ_ofQ3, ofQ_len]
    show ∀ x, InDom (nrmL (ofQ o)) x → valQ (nrmL (ofQ o)) x = valQ A x + valQ B x ∧ areaQ (nrmL (ofQ o)) x ((nrmL (ofQ o)).length - 1) = areaQ A x (A.length - 1) + areaQ B x (B.length - 1)
    rw [hn]
    generalize slpL (ofQ o) = s at *
    have hlen := ptsO_len hp
    have hpt := ptsO_nth hp
    have hsum : ∀ j, j < M.length → (o.getD j (0, 0)).1 = M.getD j 0 ∧ (o.getD j (0, 0)).2 = valQ A (M.getD j 0) + valQ B (M.getD j 0) := by
      intro j hj
      have h1 := hpt j hj
      unfold sumO at h1
      cases ha : atO A (M.getD j 0) with
      | none => rw [ha] at h1; cases h1
      | some a =>
        cases hb : atO B (M.getD j 0) with
        | none => rw [ha, hb] at h1; cases h1
        | some b =>
          rw [ha, hb] at h1
          simp only [Option.bind_some] at h1
          cases hf : fitO (a + b) with
          | none => rw [hf] at h1; cases h1
          | some y =>
            rw [hf] at h1
            have h2 := (Option.some.inj h1).symm
            rw [h2, ← val_at ha, ← val_at hb]
            exact ⟨rfl, (fitO_fits hf).2⟩
    have hMo : o.map (·.1) = M := by
      refine List.ext_getElem (by rw [List.length_map, hlen]) (fun i h1 h2 => ?_)
      have h3 := (hsum i h2).1
      rw [List.getD_eq_getElem?_getD, List.getD_eq_getElem?_getD, List.getElem?_eq_getElem h2, List.getElem?_eq_getElem (by omega)] at h3
      rw [List.getElem_map]
      exact h3
    have h2o := ho.two
    have hM0 : M.getD 0 0 = 0 := by
      rw [← (hsum 0 (by omega)).1, ho.first]
    have hrise : ∀ k, k + 1 < M.length → M.getD k 0 < M.getD (k + 1) 0 := fun k hk => rising_get hG.1 (by omega) hk
    have hs : ∀ k, k + 1 < o.length → s.getD k 0 = ((o.getD (k + 1) (0, 0)).2 - (o.getD k (0, 0)).2) / ((o.getD (k + 1) (0, 0)).1 - (o.getD k (0, 0)).1) := fun k hk => slO_val (slsO_nth hsl k (by omega))
    obtain ⟨gC, vC⟩ := norm_grid ho.rix (by omega) hs
    rw [hMo] at gC
    have gA := over_grid hA hG (fun p hp => List.mem_append.2 (.inl (List.mem_map.2 ⟨p, hp, rfl⟩))) (lesQ_left _ _) hM0
    have gB := over_grid hB hG (fun p hp => List.mem_append.2 (.inr (List.mem_map.2 ⟨p, hp, rfl⟩))) (lesQ_right _ _) hM0
    have hv : ∀ k, k < M.length → valQ (normTo o s o.length) (M.getD k 0) = valQ A (M.getD k 0) + valQ B (M.getD k 0) := fun k hk => by
      have h1 := vC k (by omega)
      rw [(hsum k hk).1, (hsum k hk).2] at h1
      exact h1
    intro x hx
    refine add_grid hrise gA gB gC hv (M.length - 1) (by omega) x (by rw [hM0]; exact hx.1) ?_
    have he := norm_end ho s
    unfold endQ at he
    have h3 := hx.2
    rw [he] at h3
    have h4 := (hsum (M.length - 1) (by omega)).1
    rw [← h4, ← hlen]
    exact h3
/-- The areas and the values that the calls hand back. -/
theorem adds {c d : List P4} (h : sumE c d = 0) {n e : Int} :
    (∀ v w s, wrkV c n e = some v → wrkV d n e = some w → wrkV (ofQ (sumL c d)) n e = some s → v + w = s) ∧
    (∀ y z t, atV c n e = some y → atV d n e = some z → atV (ofQ (sumL c d)) n e = some t → y + z = t ∧ fits t) := by
  obtain ⟨hc, hd, hx⟩ := sum_adds h
  have hcv := sum_cv h
  constructor
  · intro v w s h1 h2 h3
    unfold wrkV at h1 h2 h3
    rw [toQ_ofQ3] at h3
    by_cases k1 : RV c ∧ FV n e ∧ InDom (toQ c) (vq (n, e))
    case neg => rw [if_neg k1] at h1; cases h1
    by_cases k2 : RV d ∧ FV n e ∧ InDom (toQ d) (vq (n, e))
    case neg => rw [if_neg k2] at h2; cases h2
    by_cases k3 : RV (ofQ (sumL c d)) ∧ FV n e ∧ InDom (sumL c d) (vq (n, e))
    case neg => rw [if_neg k3] at h3; cases h3
    rw [if_pos k1] at h1
    rw [if_pos k2] at h2
    rw [if_pos k3] at h3
    rw [work_val h1, work_val h2, work_val h3]
    exact (hx _ k3.2.2).2.symm
  · intro y z t h1 h2 h3
    unfold atV at h1 h2 h3
    rw [toQ_ofQ3] at h3
    by_cases k1 : RV c ∧ FV n e ∧ InDom (toQ c) (vq (n, e))
    case neg => rw [if_neg k1] at h1; cases h1
    by_cases k2 : RV d ∧ FV n e ∧ InDom (toQ d) (vq (n, e))
    case neg => rw [if_neg k2] at h2; cases h2
    by_cases k3 : RV (ofQ (sumL c d)) ∧ FV n e ∧ InDom (sumL c d) (vq (n, e))
    case neg => rw [if_neg k3] at h3; cases h3
    rw [if_pos k1] at h1
    rw [if_pos k2] at h2
    rw [if_pos k3] at h3
    refine ⟨?_, ?_⟩
    · rw [val_at h1, val_at h2, val_at h3]
      exact (hx _ k3.2.2).1.symm
    · rcases place hcv k3.2.2 with ⟨i, hi, he⟩ | ⟨i, hi, hl, hr⟩
      · rw [at_same hcv hi he] at h3
        rw [← Option.some.inj h3]
        exact (hcv.fit i hi).2
      · rw [at_between hcv hi hl hr] at h3
        exact segO_fits h3

end Go.Proofs.YtfkclcoipadhmaaDoor
