/- The classes of the vertices without some, plainly. -/
import Derived.Test.YtcpefolhohakmaaM5
namespace Go.Proofs.Ytcpefolhohakmaa

/-- The classes that stand, and who was seen. -/
structure OdI (n : Nat) (adj : Nat → Nat → Prop) (A : Nat → Prop) (cs : List (List Nat)) (s : Nat → Bool) (i : Nat) : Prop where
  nd : ∀ c ∈ cs, c.Nodup
  dj : cs.Pairwise fun a b => ∀ x ∈ a, x ∉ b
  ok : ∀ c ∈ cs, ∀ x ∈ c, x < n ∧ ¬ A x
  con : ∀ c ∈ cs, ∃ i ∈ c, ∀ x, x ∈ c ↔ Con adj (fun y => ¬ A y) i x
  sn : ∀ x, s x = true ↔ A x ∨ ∃ c ∈ cs, x ∈ c
  lo : ∀ x, x < i → s x = true
/-- A class that grows. -/
structure OcI (n : Nat) (adj : Nat → Nat → Prop) (A : Nat → Prop) (cs : List (List Nat)) (s0 : Nat → Bool) (i : Nat) (s : Nat → Bool) (c : List Nat) : Prop where
  nd : c.Nodup
  hi : i ∈ c
  con : ∀ x ∈ c, Con adj (fun y => ¬ A y) i x
  ok : ∀ x ∈ c, x < n ∧ ¬ A x ∧ ∀ c' ∈ cs, x ∉ c'
  sn : ∀ x, s x = true ↔ s0 x = true ∨ x ∈ c

theorem setB_iff (s : Nat → Bool) (k x : Nat) : setB s k x = true ↔ s x = true ∨ x = k := by
  unfold setB
  by_cases h : x = k <;> simp [h]

section
variable {n : Nat} {adj : Nat → Nat → Prop} {A : Nat → Prop} {cs : List (List Nat)} {s0 s : Nat → Bool} {i : Nat} {c : List Nat}

theorem OdI.new (h : OdI n adj A cs s i) {x : Nat} (hx : s x = false) : ¬ A x ∧ ∀ c' ∈ cs, x ∉ c' := by
  have h1 : ¬ (A x ∨ ∃ c ∈ cs, x ∈ c) := fun k => by
    have := (h.sn x).2 k
    rw [hx] at this
    cases this
  exact ⟨fun k => h1 (.inl k), fun c' hc hxc => h1 (.inr ⟨c', hc, hxc⟩)⟩
theorem OcI.start (h : OdI n adj A cs s i) (hi : i < n) (hs : s i = false) : OcI n adj A cs s i (setB s i) [i] where
  nd := by simp
  hi := by simp
  con x hx := by
    rw [List.mem_singleton.1 hx]; exact .refl
  ok x hx := by
    rw [List.mem_singleton.1 hx]
    exact ⟨hi, (h.new hs).1, (h.new hs).2⟩
  sn x := by rw [setB_iff]; simp
theorem OcI.add (hO : OdI n adj A cs s0 i) (h : OcI n adj A cs s0 i s c) {x y : Nat} (hx : x ∈ c) (hxy : adj x y) (hy : y < n) (hs : s y = false) : OcI n adj A cs s0 i (setB s y) (c ++ [y]) := by
  have h0 : s0 y = false := by
    cases e : s0 y with
    | false => rfl
    | true =>
      have := (h.sn y).2 (.inl e)
      rw [hs] at this
      cases this
  have hyc : y ∉ c := fun k => by
    have := (h.sn y).2 (.inr k)
    rw [hs] at this
    cases this
  have hn := hO.new h0
  refine ⟨?_, by simp [h.hi], fun z hz => ?_, fun z hz => ?_, fun z => ?_⟩
  · rw [List.nodup_append]
    exact ⟨h.nd, by simp, fun a ha b hb => by rw [List.mem_singleton.1 hb]; exact fun e => hyc (e ▸ ha)⟩
  · rcases List.mem_append.1 hz with hz | hz
    · exact h.con z hz
    · rw [List.mem_singleton.1 hz]
      exact .step x y (h.con x hx) hxy hn.1
  · rcases List.mem_append.1 hz with hz | hz
    · exact h.ok z hz
    · rw [List.mem_singleton.1 hz]
      exact ⟨hy, hn.1, hn.2⟩
  · rw [setB_iff, h.sn, List.mem_append, List.mem_singleton, or_assoc]
theorem OcI.close (hO : OdI n adj A cs s0 i) (hsym : ∀ a b, adj a b → adj b a) (h : OcI n adj A cs s0 i s c) (hc : ∀ x ∈ c, ∀ y, adj x y → s y = true) : OdI n adj A (cs ++ [c]) s (i + 1) where
  nd c' hc' := by
    rcases List.mem_append.1 hc' with k | k
    · exact hO.nd c' k
    · rw [List.mem_singleton.1 k]; exact h.nd
  dj := by
    rw [List.pairwise_append]
    refine ⟨hO.dj, by simp, fun a ha b hb x hx => ?_⟩
    rw [List.mem_singleton.1 hb]
    exact fun k => (h.ok x k).2.2 a ha hx
  ok c' hc' x hx := by
    rcases List.mem_append.1 hc' with k | k
    · exact hO.ok c' k x hx
    · rw [List.mem_singleton.1 k] at hx
      exact ⟨(h.ok x hx).1, (h.ok x hx).2.1⟩
  con c' hc' := by
    rcases List.mem_append.1 hc' with k | k
    · exact hO.con c' k
    · rw [List.mem_singleton.1 k]
      refine ⟨i, h.hi, fun x => ⟨h.con x, fun hx => ?_⟩⟩
      induction hx with
      | refl => exact h.hi
      | step a b _ hab hb ih =>
        rcases (h.sn b).1 (hc a ih b hab) with k | k
        · rcases (hO.sn b).1 k with k | ⟨d, hd, hbd⟩
          · exact absurd k hb
          · exfalso
            obtain ⟨r, _, hr2⟩ := hO.con d hd
            have := (hr2 a).2 (.step b a ((hr2 b).1 hbd) (hsym _ _ hab) (h.ok a ih).2.1)
            exact (h.ok a ih).2.2 d hd this
        · exact k
  sn x := by
    rw [h.sn, hO.sn]
    constructor
    · rintro ((k | ⟨d, hd, k⟩) | k)
      · exact .inl k
      · exact .inr ⟨d, by simp [hd], k⟩
      · exact .inr ⟨c, by simp, k⟩
    · rintro (k | ⟨d, hd, k⟩)
      · exact .inl (.inl k)
      · rcases List.mem_append.1 hd with e | e
        · exact .inl (.inr ⟨d, e, k⟩)
        · rw [List.mem_singleton.1 e] at k; exact .inr k
  lo x hx := by
    rw [h.sn]
    by_cases e : x = i
    · rw [e]; exact .inr h.hi
    · exact .inl (hO.lo x (by omega))
theorem OdI.skip (h : OdI n adj A cs s i) (hs : s i = true) : OdI n adj A cs s (i + 1) :=
  ⟨h.nd, h.dj, h.ok, h.con, h.sn, fun x hx => by
    by_cases e : x = i
    · rw [e]; exact hs
    · exact h.lo x (by omega)⟩
theorem OdI.cls (h : OdI n adj A cs s n) : Cls n adj A cs :=
  ⟨h.nd, h.dj, fun x => ⟨fun ⟨c, hc, hx⟩ => h.ok c hc x hx, fun ⟨hx, hA⟩ => ((h.sn x).1 (h.lo x hx)).resolve_left hA⟩, h.con⟩
theorem OdI.start (hs : ∀ x, s x = true ↔ A x) : OdI n adj A [] s 0 :=
  ⟨fun _ h => (by cases h), .nil, fun _ h => (by cases h), fun _ h => (by cases h), fun x => (by rw [hs]; simp), fun _ h => absurd h (Nat.not_lt_zero _)⟩
theorem OcI.len (h : OcI n adj A cs s0 i s c) : c.length ≤ n := by
  have := nodup_len c (List.range n) h.nd (fun x hx => List.mem_range.2 (h.ok x hx).1)
  rwa [List.length_range] at this
end
theorem odds_snoc (cs : List (List Nat)) (c : List Nat) : odds (cs ++ [c]) = odds cs + c.length % 2 := by
  unfold odds
  rw [List.filter_append, List.length_append]
  by_cases h : c.length % 2 = 1
  · simp [h]
  · have : c.length % 2 = 0 := by omega
    simp [this]
end Go.Proofs.Ytcpefolhohakmaa
