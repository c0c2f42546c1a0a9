/- The second loop of compared plainly; the sign in full. -/
import Derived.Test.YtfkclcoipadhmaaGreatDoorGp
import Derived.Test.YtfkclcoipadhmaaGreatDoorFj
namespace Go.Proofs.YtfkclcoipadhmaaGreatDoor
open Go.RowKit
attribute [local irreducible] seqS seqST walkV walkJ

/-- The sign of a number. -/
def sgnI (x : Rat) : Int := if x < 0 then -1 else if 0 < x then 1 else 0
theorem sgnI_mul (d f : Rat) : 0 ≤ sgnI d * sgnI f ↔ chgB d f = false := by
  unfold sgnI chgB
  rw [decide_eq_false_iff_not]
  by_cases h1 : d < 0
  · rw [if_pos h1]
    by_cases h2 : f < 0
    · rw [if_pos h2]
      exact ⟨fun _ h => by rcases h with ⟨_, h⟩ | ⟨h, _⟩ <;> grind, fun _ => by decide⟩
    · rw [if_neg h2]
      by_cases h3 : 0 < f
      · rw [if_pos h3]
        exact ⟨fun h => absurd h (by decide), fun h => absurd (.inl ⟨h1, h3⟩) h⟩
      · rw [if_neg h3]
        exact ⟨fun _ h => by rcases h with ⟨_, h⟩ | ⟨h, _⟩ <;> grind, fun _ => by decide⟩
  · rw [if_neg h1]
    by_cases h2 : 0 < d
    · rw [if_pos h2]
      by_cases h3 : f < 0
      · rw [if_pos h3]
        exact ⟨fun h => absurd h (by decide), fun h => absurd (.inr ⟨h2, h3⟩) h⟩
      · rw [if_neg h3]
        refine ⟨fun _ h => by rcases h with ⟨h, _⟩ | ⟨_, h⟩ <;> grind, fun _ => ?_⟩
        by_cases h4 : 0 < f
        · rw [if_pos h4]; decide
        · rw [if_neg h4]; decide
    · rw [if_neg h2]
      exact ⟨fun _ h => by rcases h with ⟨h, _⟩ | ⟨h, _⟩ <;> grind, fun _ => by rw [Int.zero_mul]; exact Int.le_refl 0⟩
theorem chg_ne {d f : Rat} (h : chgB d f = true) : d - f ≠ 0 := by
  have h0 := of_decide_eq_true h
  rcases h0 with h0 | h0 <;> grind
theorem crs_cal (ok : Bool) (x z d f : Rat) (k1 k2 k3 k4 : Bool) (v1 v2 v3 v4 : Rat) (h1 : k1 = calK ok (fitO (d - f))) (e1 : v1 = calV ok (fitO (d - f))) (h2 : k2 = calK k1 (fitO (d / v1))) (e2 : v2 = calV k1 (fitO (d / v1)))
    (h3 : k3 = calK k2 (fitO (z - x))) (e3 : v3 = calV k2 (fitO (z - x))) (h4 : k4 = calK k3 (fitO (v2 * v3))) (e4 : v4 = calV k3 (fitO (v2 * v3))) :
    calK k4 (fitO (x + v4)) = calK ok (crsO x z d f) ∧ calV k4 (fitO (x + v4)) = calV ok (crsO x z d f) := by
  have a4 := cal_bind k3 (fitO (v2 * v3)) (fun a => fitO (x + a))
  rw [← h4, ← e4] at a4
  have a3 := cal_bind k2 (fitO (z - x)) (fun s => (fitO (v2 * s)).bind fun a => fitO (x + a))
  rw [← h3, ← e3] at a3
  have a2 := cal_bind k1 (fitO (d / v1)) (fun t => (fitO (z - x)).bind fun s => (fitO (t * s)).bind fun a => fitO (x + a))
  rw [← h2, ← e2] at a2
  have a1 := cal_bind ok (fitO (d - f)) (fun p => (fitO (d / p)).bind fun t => (fitO (z - x)).bind fun s => (fitO (t * s)).bind fun a => fitO (x + a))
  rw [← h1, ← e1] at a1
  exact ⟨a4.1.trans (a3.1.trans (a2.1.trans a1.1)), a4.2.trans (a3.2.trans (a2.2.trans a1.2))⟩
/-- The grid's state at step j, the differences being what they may. -/
def grS (D : Option (List Rat)) (G : List Rat) (j : Nat) : Option (List Rat × List Rat) := D.bind fun l => grdO G l j
/-- What the second loop keeps. -/
structure GrdJ (D : Option (List Rat)) (G : List Rat) (o : List Rat) (j : Nat) (ok : Bool) (al on : List Rat) : Prop where
  k : ok = (grS D G j).isSome
  v : ok = true → D = some o ∧ grS D G j = some (al, on)
  lal : al.length ≤ 2 * j
  lon : on.length ≤ j
  fa : ∀ y ∈ al, fits y
  fo : ∀ y ∈ on, fits y
theorem GrdJ.zero {D : Option (List Rat)} {G o : List Rat} {ok : Bool} (h : ok = D.isSome) (h1 : ok = true → D = some o) : GrdJ D G o 0 ok [] [] := by
  refine ⟨?_, fun hk => ?_, Nat.le_refl _, Nat.le_refl _, fun y hy => (by cases hy), fun y hy => (by cases hy)⟩
  · rw [h]; unfold grS; cases D with
    | none => rfl
    | some l => rfl
  · rw [h1 hk]; exact ⟨rfl, rfl⟩
theorem grS_stay {D : Option (List Rat)} {G : List Rat} {j : Nat} (h : grS D G j = none) : grS D G (j + 1) = none := by
  unfold grS at *
  cases D with
  | none => rfl
  | some l => exact grdO_stay h (Nat.le_succ j)
theorem allf_snoc {l : List Rat} {x : Rat} (h : ∀ y ∈ l, fits y) (hx : fits x) : ∀ y ∈ l ++ [x], fits y := by
  intro y hy
  rcases List.mem_append.1 hy with hy | hy
  · exact h y hy
  · rw [List.mem_singleton.1 hy]; exact hx
/-- A step without a crossing. -/
theorem GrdJ.no {D : Option (List Rat)} {G o : List Rat} {j : Nat} {ok : Bool} {al on : List Rat} (h : GrdJ D G o j ok al on) (hx : fits (G.getD j 0)) (h1 : ¬ (j + 1 < G.length ∧ chgB (o.getD j 0) (o.getD (j + 1) 0) = true)) : GrdJ D G o (j + 1) ok (al ++ [G.getD j 0]) on := by
  have hal := h.lal
  have hon := h.lon
  refine ⟨?_, fun hk => ?_, by rw [List.length_append, List.length_singleton]; omega, by omega, allf_snoc h.fa hx, h.fo⟩
  · cases hk : ok with
    | false =>
      have := h.k
      rw [hk] at this
      have hn : grS D G j = none := by
        cases hs : grS D G j with
        | none => rfl
        | some y => rw [hs] at this; cases this
      rw [grS_stay hn]; rfl
    | true =>
      obtain ⟨e1, e2⟩ := h.v hk
      unfold grS at *
      rw [e1] at e2 ⊢
      have e3 : grdO G o j = some (al, on) := e2
      show true = (grdO G o (j + 1)).isSome
      rw [grdO_no e3 h1]; rfl
  · obtain ⟨e1, e2⟩ := h.v hk
    refine ⟨e1, ?_⟩
    unfold grS at *
    rw [e1] at e2 ⊢
    exact grdO_no (g := (al, on)) e2 h1
/-- A step with a crossing. -/
theorem GrdJ.yes {D : Option (List Rat)} {G o : List Rat} {j : Nat} {ok : Bool} {al on : List Rat} {u : Rat} (h : GrdJ D G o j ok al on) (hx : fits (G.getD j 0)) (hu : fits u) (h1 : j + 1 < G.length) (h2 : chgB (o.getD j 0) (o.getD (j + 1) 0) = true)
    (h3 : calK ok (crsO (G.getD j 0) (G.getD (j + 1) 0) (o.getD j 0) (o.getD (j + 1) 0)) = true → crsO (G.getD j 0) (G.getD (j + 1) 0) (o.getD j 0) (o.getD (j + 1) 0) = some u) :
    GrdJ D G o (j + 1) (calK ok (crsO (G.getD j 0) (G.getD (j + 1) 0) (o.getD j 0) (o.getD (j + 1) 0))) (al ++ [G.getD j 0] ++ [u]) (on ++ [u]) := by
  have hal := h.lal
  have hon := h.lon
  refine ⟨?_, fun hk => ?_, by simp only [List.length_append, List.length_singleton]; omega, by rw [List.length_append, List.length_singleton]; omega, allf_snoc (allf_snoc h.fa hx) hu, allf_snoc h.fo hu⟩
  · cases hk : ok with
    | false =>
      have := h.k
      rw [hk] at this
      have hn : grS D G j = none := by
        cases hs : grS D G j with
        | none => rfl
        | some y => rw [hs] at this; cases this
      rw [grS_stay hn]; rfl
    | true =>
      obtain ⟨e1, e2⟩ := h.v hk
      rw [hk] at h3
      unfold grS at *
      rw [e1] at e2 ⊢
      have e3 : grdO G o j = some (al, on) := e2
      show calK true _ = (grdO G o (j + 1)).isSome
      cases hc : crsO (G.getD j 0) (G.getD (j + 1) 0) (o.getD j 0) (o.getD (j + 1) 0) with
      | none => rw [grdO_bad h1 h2 hc]; rfl
      | some y => rw [grdO_yes e3 h1 h2 hc]; rfl
  · have hok : ok = true := by
      cases ok with
      | true => rfl
      | false => cases hk
    obtain ⟨e1, e2⟩ := h.v hok
    have e4 := h3 hk
    refine ⟨e1, ?_⟩
    unfold grS at *
    rw [e1] at e2 ⊢
    exact grdO_yes (g := (al, on)) e2 h1 h2 e4

set_option maxHeartbeats 4000000 in
set_option maxRecDepth 100000 in
theorem signI_any (x : Rat) (w : World) :
    Calls Tryz.prog 76 #[frQ x] w fun r w' => r = .returned (.int .i64 (sgnI x)) ∧ Below w.heap.size w w' := by
  obtain ⟨n, hn⟩ : ∃ n, x.num = n := ⟨_, rfl⟩
  have hx : sgnI x = if n < 0 then -1 else if 0 < n then 1 else 0 := by
    have a1 : x < 0 ↔ n < 0 := by rw [← hn]; have := Rat.num_nonneg (q := x); grind
    have a2 : 0 < x ↔ 0 < n := by
      rw [← hn]
      have h := Rat.num_nonneg (q := -x)
      rw [Rat.neg_num] at h
      constructor <;> intro h1 <;> grind
    unfold sgnI
    by_cases h1 : x < 0
    · rw [if_pos h1, if_pos (a1.1 h1)]
    · rw [if_neg h1, if_neg (fun h => h1 (a1.2 h))]
      by_cases h2 : 0 < x
      · rw [if_pos h2, if_pos (a2.1 h2)]
      · rw [if_neg h2, if_neg (fun h => h2 (a2.2 h))]
  unfold frQ
  rw [hn, hx]
  generalize (x.den : Int) = d
  clear hn hx
  have b0 := (Below.refl w.heap.size w).alloc (Nat.le_refl _) (.cells #[.int .i64 n, .int .i64 d] 31)
  have C1 := hid (fun w => cmpInt_any n 0 w)
  obtain ⟨s, hs⟩ : ∃ s : Int, (if n < 0 then -1 else if 0 < n then 1 else 0) = s := ⟨_, rfl⟩
  rw [hs] at C1 ⊢
  clear hs
  go_enter Tryz.func76, Tryz.ntmps76
  go_wp2_with fail
  refine (C1.out _).mono ?_
  rintro r w1 ⟨rfl, hb1⟩
  replace hb1 := b0.trans (hb1.mono b0.size)
  clear C1 b0
  go_wp2
  go_ret
  exact ⟨rfl, hb1⟩

end Go.Proofs.YtfkclcoipadhmaaGreatDoor
