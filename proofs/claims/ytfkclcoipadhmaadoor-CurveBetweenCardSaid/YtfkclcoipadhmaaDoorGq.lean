/- Plainly: envelopes do not depend on the order of two curves, and lie on the right side of both. -/
import Derived.Test.YtfkclcoipadhmaaDoorGp
import Derived.Test.YtfkclcoipadhmaaDoorGj
import Derived.Test.YtfkclcoipadhmaaDoorEy
namespace Go.Proofs.YtfkclcoipadhmaaDoor
open Go.RowKit

theorem fitO_neg (q : Rat) : fitO (-q) = (fitO q).map fun x => -x := by
  unfold fitO
  have e : fits (-q) ↔ fits q := by
    unfold fits
    rw [Rat.neg_num, Rat.neg_den, Int.natAbs_neg]
  by_cases h : fits q
  · rw [if_pos h, if_pos (e.2 h)]; rfl
  · rw [if_neg h, if_neg (fun hh => h (e.1 hh))]; rfl
theorem dff_neg (A C : List Pt) (x : Rat) : dffO C A x = (dffO A C x).map fun q => -q := by
  unfold dffO
  cases atO A x with
  | none => cases atO C x <;> rfl
  | some y =>
    cases atO C x with
    | none => rfl
    | some z =>
      simp only [Option.bind_some]
      rw [← fitO_neg]
      congr 1
      grind
theorem vals_neg (A C : List Pt) (l : List Rat) : ∀ k, valsO (dffO C A) l k = (valsO (dffO A C) l k).map (List.map fun q => -q)
  | 0 => rfl
  | k + 1 => by
    show (valsO (dffO C A) l k).bind _ = ((valsO (dffO A C) l k).bind _).map _
    rw [vals_neg A C l k, dff_neg]
    cases valsO (dffO A C) l k with
    | none => rfl
    | some o =>
      cases dffO A C (l.getD k 0) with
      | none => rfl
      | some p => simp
theorem neg_get (d : List Rat) (k : Nat) : (d.map fun q => -q).getD k 0 = -(d.getD k 0) := by
  rw [List.getD_eq_getElem?_getD, List.getElem?_map, List.getD_eq_getElem?_getD]
  cases d[k]? with
  | none => show (0 : Rat) = -0; grind
  | some x => rfl
theorem chg_neg (d f : Rat) : chgB (-d) (-f) = chgB d f := by
  unfold chgB
  rw [decide_eq_decide]
  constructor
  · rintro (⟨h1, h2⟩ | ⟨h1, h2⟩)
    · exact .inr ⟨by grind, by grind⟩
    · exact .inl ⟨by grind, by grind⟩
  · rintro (⟨h1, h2⟩ | ⟨h1, h2⟩)
    · exact .inr ⟨by grind, by grind⟩
    · exact .inl ⟨by grind, by grind⟩
theorem crs_neg (x z d f : Rat) : crsO x z (-d) (-f) = crsO x z d f := by
  unfold crsO
  have e : -d - -f = -(d - f) := by grind
  rw [e, fitO_neg]
  cases fitO (d - f) with
  | none => rfl
  | some p =>
    have e2 : -d / -p = d / p := by
      by_cases h0 : p = 0
      · subst h0
        have : -(0 : Rat) = 0 := by grind
        rw [this, Rat.div_def, Rat.div_def, Rat.inv_zero]
        grind
      · have h1 : d / p * p = d := Rat.div_mul_cancel h0
        have h2 : -d / -p * -p = -d := Rat.div_mul_cancel (by grind)
        have h3 : (-d / -p - d / p) * p = 0 := by grind
        rcases Rat.mul_eq_zero.1 h3 with h3 | h3
        · grind
        · exact absurd h3 h0
    show (fitO (-d / -p)).bind _ = _
    rw [e2]
    rfl
theorem grd_neg (l d : List Rat) : ∀ k, grdO l (d.map fun q => -q) k = grdO l d k
  | 0 => rfl
  | k + 1 => by
    unfold grdO
    rw [grd_neg l d k, neg_get, neg_get, chg_neg, crs_neg]
theorem zer_neg (l d : List Rat) (i : Nat) : zerB l (d.map fun q => -q) i = zerB l d i := by
  unfold zerB
  rw [neg_get, neg_get, neg_get, chg_neg]
  congr 1
  rw [decide_eq_decide]
  constructor
  · rintro ⟨h1, h2, h3⟩; exact ⟨h1, h2, by grind⟩
  · rintro ⟨h1, h2, h3⟩; exact ⟨h1, h2, by grind⟩
theorem is_neg (l d : List Rat) (u : Rat) : ∀ k, isTo l (d.map fun q => -q) u k = isTo l d u k
  | 0 => rfl
  | k + 1 => by
    unfold isTo
    rw [zer_neg, is_neg l d u k]
theorem crsL_neg (l d a : List Rat) : crsL l (d.map fun q => -q) a = crsL l d a := by
  unfold crsL
  congr 1
  funext u
  exact is_neg l d u l.length
theorem env_comm (up : Bool) (A C : List Pt) : envO up A C = envO up C A := by
  funext x
  unfold envO
  cases atO A x with
  | none => cases atO C x <;> rfl
  | some y =>
    cases atO C x with
    | none => rfl
    | some z =>
      simp only [Option.bind_some]
      have : pickQ up y z = pickQ up z y := by
        unfold pickQ
        cases up with
        | true =>
          simp only [if_true]
          by_cases h1 : z ≤ y
          · rw [if_pos h1]
            by_cases h2 : y ≤ z
            · rw [if_pos h2]; grind
            · rw [if_neg h2]
          · rw [if_neg h1, if_pos (by grind)]
        | false =>
          simp only [if_false, Bool.false_eq_true]
          by_cases h1 : y ≤ z
          · rw [if_pos h1]
            by_cases h2 : z ≤ y
            · rw [if_pos h2]; grind
            · rw [if_neg h2]
          · rw [if_neg h1, if_pos (by grind)]
      rw [this]
theorem cmpD_comm (c d : List P4) : cmpD d c = (cmpD c d).map (List.map fun q => -q) := by
  unfold cmpD
  rw [comG_comm (toQ d) (toQ c)]
  exact vals_neg _ _ _ _
theorem cmpG_comm (c d : List P4) : cmpG d c = cmpG c d := by
  unfold cmpG
  rw [cmpD_comm c d, comG_comm (toQ d) (toQ c)]
  cases cmpD c d with
  | none => rfl
  | some l => exact grd_neg _ l _
theorem cmp_comm (c d : List P4) : cmpE d c = cmpE c d ∧ cmpA d c = cmpA c d := by
  unfold cmpE cmpA
  rw [cmpG_comm, comE_comm d c]
  exact ⟨rfl, rfl⟩
theorem envs_comm (up : Bool) (c d : List P4) : envE up d c = envE up c d ∧ envL up d c = envL up c d := by
  unfold envE envL
  rw [(cmp_comm c d).1, (cmp_comm c d).2, env_comm up (toQ d) (toQ c)]
  exact ⟨rfl, rfl⟩
theorem cros_comm (c d : List P4) : croL d c = croL c d := by
  unfold croL
  rw [(cmp_comm c d).1, (cmp_comm c d).2, comG_comm (toQ d) (toQ c)]
  have e : cmpV d c = (cmpV c d).map fun q => -q := by
    unfold cmpV
    rw [cmpD_comm c d]
    cases cmpD c d <;> rfl
  rw [e, crsL_neg]
theorem env_cv {up : Bool} {c d : List P4} (h : envE up c d = 0) : CV (envL up c d) := by
  unfold envE at h
  unfold envL
  by_cases h0 : cmpE c d = 0
  · rw [if_pos h0] at h ⊢
    exact made_cv h
  · rw [if_neg h0] at h
    exact absurd h h0

theorem interp_le {u v x a b a' b' : Rat} (huv : u < v) (h1 : u ≤ x) (h2 : x ≤ v) (ha : a ≤ b) (hb : a' ≤ b') : a + (x - u) * ((a' - a) / (v - u)) ≤ b + (x - u) * ((b' - b) / (v - u)) := by
  have e1 : (a' - a) / (v - u) * (v - u) = a' - a := Rat.div_mul_cancel (by grind)
  have e2 : (b' - b) / (v - u) * (v - u) = b' - b := Rat.div_mul_cancel (by grind)
  generalize (a' - a) / (v - u) = s at *
  generalize (b' - b) / (v - u) = t at *
  apply Decidable.byContradiction
  intro hc
  have k1 := Rat.mul_pos (show 0 < a + (x - u) * s - (b + (x - u) * t) by grind) (show 0 < v - u by grind)
  have k2 := Rat.mul_nonneg (show 0 ≤ b - a by grind) (show 0 ≤ v - x by grind)
  have k3 := Rat.mul_nonneg (show 0 ≤ b' - a' by grind) (show 0 ≤ x - u by grind)
  have e3 : (a + (x - u) * s - (b + (x - u) * t)) * (v - u) = (a - b) * (v - u) + (x - u) * ((a' - a) - (b' - b)) := by
    rw [← e1, ← e2]; grind
  grind
/-- What is at most another curve on a grid, is so between. -/
theorem le_grid {M : List Rat} {A B : List Pt} (hM : ∀ k, k + 1 < M.length → M.getD k 0 < M.getD (k + 1) 0) (hA : OnGrid M A) (hB : OnGrid M B) (hv : ∀ k, k < M.length → valQ A (M.getD k 0) ≤ valQ B (M.getD k 0)) :
    ∀ k, k < M.length → ∀ x, M.getD 0 0 ≤ x → x ≤ M.getD k 0 → valQ A x ≤ valQ B x
  | 0, hk, x, h1, h2 => by
    have e : x = M.getD 0 0 := by grind
    rw [e]
    exact hv 0 hk
  | k + 1, hk, x, h1, h2 => by
    by_cases hx : x ≤ M.getD k 0
    · exact le_grid hM hA hB hv k (by omega) x h1 hx
    · have hux : M.getD k 0 ≤ x := by grind
      have huv := hM k hk
      obtain ⟨i, a1, a2, a3⟩ := hA.seg hM hk
      obtain ⟨j, b1, b2, b3⟩ := hB.seg hM hk
      rw [val_interp hA.rix a1 a2 huv a3 hux h2, val_interp hB.rix b1 b2 huv b3 hux h2]
      exact interp_le huv hux h2 (hv k (by omega)) (hv (k + 1) hk)
/-- One curve is on the right side of another. -/
def sideP (up : Bool) (y z : Rat) : Prop := if up then z ≤ y else y ≤ z
theorem pick_side (up : Bool) (y z : Rat) : sideP up (pickQ up y z) y ∧ sideP up (pickQ up y z) z := by
  unfold sideP pickQ
  cases up with
  | true =>
    simp only [if_true]
    by_cases h : z ≤ y
    · rw [if_pos h]; exact ⟨Rat.le_refl, h⟩
    · rw [if_neg h]; exact ⟨by grind, Rat.le_refl⟩
  | false =>
    simp only [if_false, Bool.false_eq_true]
    by_cases h : y ≤ z
    · rw [if_pos h]; exact ⟨Rat.le_refl, h⟩
    · rw [if_neg h]; exact ⟨by grind, Rat.le_refl⟩
theorem side_grid {up : Bool} {M : List Rat} {A B : List Pt} (hM : ∀ k, k + 1 < M.length → M.getD k 0 < M.getD (k + 1) 0) (hA : OnGrid M A) (hB : OnGrid M B) (hv : ∀ k, k < M.length → sideP up (valQ A (M.getD k 0)) (valQ B (M.getD k 0))) :
    ∀ k, k < M.length → ∀ x, M.getD 0 0 ≤ x → x ≤ M.getD k 0 → sideP up (valQ A x) (valQ B x) := by
  cases up with
  | true => exact le_grid hM hB hA hv
  | false => exact le_grid hM hA hB hv
/-- An envelope of two curves, plainly. -/
theorem env_side {up : Bool} {c d : List P4} (h : envE up c d = 0) : ∀ x, InDom (envL up c d) x → sideP up (valQ (envL up c d) x) (valQ (toQ c) x) ∧ sideP up (valQ (envL up c d) x) (valQ (toQ d) x) := by
  have hcmp : cmpE c d = 0 := by
    apply Decidable.byContradiction
    intro hne
    unfold envE at h
    rw [if_neg hne] at h
    exact hne h
  obtain ⟨hcom, hrc, hrd, -, hg, -⟩ := cmp_zero hcmp
  have hA := rv_cv hrc
  have hB := rv_cv hrd
  unfold envE at h
  rw [if_pos hcmp] at h
  have hL : envL up c d = madL (envO up (toQ c) (toQ d)) (cmpA c d).1 := if_pos hcmp
  rw [hL]
  have hG0 : GridOf (comG (toQ c) (toQ d)) ((toQ c).map (·.1) ++ (toQ d).map (·.1)) (lesQ (endQ (toQ c)).1 (endQ (toQ d)).1) := gridQ_grid _ _
  have hi := grd_inv hG0.1 (Nat.le_refl _) hg
  generalize toQ c = A at *
  generalize toQ d = B at *
  have hG : GridOf (cmpA c d).1 ((A.map (·.1) ++ B.map (·.1)) ++ (cmpA c d).2) (lesQ (endQ A).1 (endQ B).1) := by
    refine ⟨hi.rise, fun x => ?_⟩
    rw [List.mem_append, hi.mem]
    constructor
    · rintro (⟨i, hil, rfl⟩ | hx)
      · have := (hG0.2 _).1 (getD_mem hil)
        exact ⟨.inl this.1, this.2⟩
      · refine ⟨.inr hx, ?_⟩
        obtain ⟨i, h1, h2, h3, h4, -⟩ := hi.only x hx
        have := ((hG0.2 _).1 (getD_mem h2)).2
        change x < (comG A B).getD (i + 1) 0 at h4
        change (comG A B).getD (i + 1) 0 ≤ _ at this
        grind
    · rintro ⟨hx | hx, hle⟩
      · obtain ⟨i, hil, e⟩ := mem_getD ((hG0.2 x).2 ⟨hx, hle⟩)
        exact .inl ⟨i, hil, e⟩
      · exact .inr hx
  generalize (cmpA c d).1 = M at *
  generalize (cmpA c d).2 = Z at *
  unfold madE at h
  unfold madL
  cases hp : ptsO (envO up A B) M M.length with
  | none => rw [hp] at h; cases h
  | some o =>
    rw [hp] at h
    obtain ⟨hro, hsl⟩ := slp_zero h
    rw [toQ_ofQ3, ofQ_len] at hsl
    have ho := rv_ofQ.1 hro
    have hn : nrmL (ofQ o) = normTo o (slpL (ofQ o)) o.length := by
      unfold nrmL
      rw [if_pos h, toQ_ofQ3, ofQ_len]
    show ∀ x, InDom (nrmL (ofQ o)) x → sideP up (valQ (nrmL (ofQ o)) x) (valQ A x) ∧ sideP up (valQ (nrmL (ofQ o)) x) (valQ B x)
    rw [hn]
    generalize slpL (ofQ o) = s at *
    have hlen := ptsO_len hp
    have hpt := ptsO_nth hp
    have hsum : ∀ j, j < M.length → (o.getD j (0, 0)).1 = M.getD j 0 ∧ (o.getD j (0, 0)).2 = pickQ up (valQ A (M.getD j 0)) (valQ B (M.getD j 0)) := by
      intro j hj
      have h1 := hpt j hj
      unfold envO at h1
      cases ha : atO A (M.getD j 0) with
      | none => rw [ha] at h1; cases h1
      | some a =>
        cases hb : atO B (M.getD j 0) with
        | none => rw [ha, hb] at h1; cases h1
        | some b =>
          rw [ha, hb] at h1
          simp only [Option.bind_some] at h1
          have h2 := (Option.some.inj h1).symm
          rw [h2, ← val_at ha, ← val_at hb]
          exact ⟨rfl, rfl⟩
    have hMo : o.map (·.1) = M := by
      refine List.ext_getElem (by rw [List.length_map, hlen]) (fun i h1 h2 => ?_)
      have h3 := (hsum i h2).1
      rw [List.getD_eq_getElem?_getD, List.getD_eq_getElem?_getD, List.getElem?_eq_getElem h2, List.getElem?_eq_getElem (by omega)] at h3
      rw [List.getElem_map]
      exact h3
    have h2o := ho.two
    have hM0 : M.getD 0 0 = 0 := by
      rw [← (hsum 0 (by omega)).1, ho.first]
    have hrise : ∀ k, k + 1 < M.length → M.getD k 0 < M.getD (k + 1) 0 := fun k hk => rising_get hG.1 (by omega) hk
    have hs : ∀ k, k + 1 < o.length → s.getD k 0 = ((o.getD (k + 1) (0, 0)).2 - (o.getD k (0, 0)).2) / ((o.getD (k + 1) (0, 0)).1 - (o.getD k (0, 0)).1) := fun k hk => slO_val (slsO_nth hsl k (by omega))
    obtain ⟨gC, vC⟩ := norm_grid ho.rix (by omega) hs
    rw [hMo] at gC
    have gA := over_grid hA hG (fun p hp => List.mem_append.2 (.inl (List.mem_append.2 (.inl (List.mem_map.2 ⟨p, hp, rfl⟩))))) (lesQ_left _ _) hM0
    have gB := over_grid hB hG (fun p hp => List.mem_append.2 (.inl (List.mem_append.2 (.inr (List.mem_map.2 ⟨p, hp, rfl⟩))))) (lesQ_right _ _) hM0
    have hv : ∀ k, k < M.length → valQ (normTo o s o.length) (M.getD k 0) = pickQ up (valQ A (M.getD k 0)) (valQ B (M.getD k 0)) := fun k hk => by
      have h1 := vC k (by omega)
      rw [(hsum k hk).1, (hsum k hk).2] at h1
      exact h1
    intro x hx
    have hxM : x ≤ M.getD (M.length - 1) 0 := by
      have he := norm_end ho s
      unfold endQ at he
      have h3 := hx.2
      rw [he] at h3
      have h4 := (hsum (M.length - 1) (by omega)).1
      rw [← h4, ← hlen]
      exact h3
    exact ⟨side_grid hrise gC gA (fun k hk => by rw [hv k hk]; exact (pick_side up _ _).1) (M.length - 1) (by omega) x (by rw [hM0]; exact hx.1) hxM,
      side_grid hrise gC gB (fun k hk => by rw [hv k hk]; exact (pick_side up _ _).2) (M.length - 1) (by omega) x (by rw [hM0]; exact hx.1) hxM⟩
/-- Under answers yes where one curve is at most the other. -/
theorem und_true {c d : List P4} (h : undE c d = 0) (hle : ∀ x, InDom (toQ c) x → InDom (toQ d) x → valQ (toQ c) x ≤ valQ (toQ d) x) : undB c d = true := by
  have hcom : comE c d = 0 := by
    apply Decidable.byContradiction
    intro hne
    unfold undE at h
    rw [if_neg hne] at h
    exact hne h
  obtain ⟨hrc, hrd, -, -⟩ := comE_zero hcom
  have hA := rv_cv hrc
  have hB := rv_cv hrd
  unfold undE at h
  unfold undB
  rw [if_pos hcom] at h ⊢
  have key : ∀ k, k ≤ (comG (toQ c) (toQ d)).length → ∀ u, undO (toQ c) (toQ d) (comG (toQ c) (toQ d)) k = some u → u = true := by
    intro k
    induction k with
    | zero => intro _ u hu; exact (Option.some.inj hu).symm
    | succ k ih =>
      intro hk u hu
      change (undO (toQ c) (toQ d) (comG (toQ c) (toQ d)) k).bind _ = _ at hu
      cases h0 : undO (toQ c) (toQ d) (comG (toQ c) (toQ d)) k with
      | none => rw [h0] at hu; cases hu
      | some u0 =>
        obtain rfl := ih (by omega) u0 h0
        rw [h0] at hu
        obtain ⟨m1, m2, -⟩ := comG_mem hA hB (getD_memQ (show k < (comG (toQ c) (toQ d)).length by omega))
        cases ha : atO (toQ c) ((comG (toQ c) (toQ d)).getD k 0) with
        | none => rw [ha] at hu; cases hu
        | some y =>
          cases hb : atO (toQ d) ((comG (toQ c) (toQ d)).getD k 0) with
          | none => rw [ha, hb] at hu; cases hu
          | some z =>
            rw [ha, hb] at hu
            have hyz : y ≤ z := by rw [val_at ha, val_at hb]; exact hle _ m1 m2
            have h9 : (decide (y ≤ z) && true) = u := Option.some.inj hu
            rw [← h9, decide_eq_true hyz]
            rfl
  cases hu : undO (toQ c) (toQ d) (comG (toQ c) (toQ d)) (comG (toQ c) (toQ d)).length with
  | none => rw [hu] at h; cases h
  | some u => exact key _ (Nat.le_refl _) u hu
/-- The lower envelope is under both curves; both are under the upper one. -/
theorem low_under {c d : List P4} (h : envE false c d = 0) : (undE (ofQ (envL false c d)) c = 0 → undB (ofQ (envL false c d)) c = true) ∧ (undE (ofQ (envL false c d)) d = 0 → undB (ofQ (envL false c d)) d = true) := by
  have hs := env_side h
  constructor
  · intro hu
    refine und_true hu (fun x h1 _ => ?_)
    rw [toQ_ofQ3] at h1 ⊢
    exact (hs x h1).1
  · intro hu
    refine und_true hu (fun x h1 _ => ?_)
    rw [toQ_ofQ3] at h1 ⊢
    exact (hs x h1).2
theorem up_under {c d : List P4} (h : envE true c d = 0) : (undE c (ofQ (envL true c d)) = 0 → undB c (ofQ (envL true c d)) = true) ∧ (undE d (ofQ (envL true c d)) = 0 → undB d (ofQ (envL true c d)) = true) := by
  have hs := env_side h
  constructor
  · intro hu
    refine und_true hu (fun x _ h1 => ?_)
    rw [toQ_ofQ3] at h1 ⊢
    exact (hs x h1).1
  · intro hu
    refine und_true hu (fun x _ h1 => ?_)
    rw [toQ_ofQ3] at h1 ⊢
    exact (hs x h1).2

end Go.Proofs.YtfkclcoipadhmaaDoor
