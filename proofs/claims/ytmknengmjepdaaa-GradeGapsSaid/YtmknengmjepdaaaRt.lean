/- Regions that draw their order: a plan that forks where two movers can come up. -/
import Derived.Test.YtmknengmjepdaaaRx
namespace Go.Proofs.Ytmknengmjepdaaa
open Go.RowKit

/-- The order of the walk; two: either may come first. -/
inductive PlK where
  | nil
  | rd (k : Nat) (r : PlK)
  | mv (k : Nat) (r : PlK)
  | two (k1 : Nat) (r1 : PlK) (k2 : Nat) (r2 : PlK)

def planT (md : Region.Mode) (ops : Array Oper) : PlK → Array Bool → Bool
  | .nil, L => (Region.ready md ops L).isEmpty
  | .rd k r, L => (Region.ready md ops L).contains k && Region.free md ops L k && planT md ops r (L.setIfInBounds k true)
  | .mv k r, L => Region.ready md ops L == [k] && planT md ops r (L.setIfInBounds k true)
  | .two k1 r1 k2 r2, L => Region.ready md ops L == [k1, k2] && planT md ops r1 (L.setIfInBounds k1 true) && planT md ops r2 (L.setIfInBounds k2 true)
/-- The number of operations. -/
def PlK.len : PlK → Nat
  | .nil => 0
  | .rd _ r => r.len + 1
  | .mv _ r => r.len + 1
  | .two _ r1 _ _ => r1.len + 1
def PlK.even : PlK → Bool
  | .nil => true
  | .rd _ r => r.even
  | .mv _ r => r.even
  | .two _ r1 _ r2 => r1.even && r2.even && r1.len == r2.len

section
variable {T : World → World → Prop} {P : Program} {lst : List Oper} {Q : Act → World → Prop}

/-- A mover's turn. -/
def moveT (T : World → World → Prop) (P : Program) (lst : List Oper) (o : Oper) (a : Act) (w : World) (R : Act → World → Prop) : Prop :=
  (Region.wanted o (yielded lst.toArray a.tmps) = true ∧ gives P o a w fun v w' => T w w' ∧ R (a.put o.dst v) w') ∨ (Region.wanted o (yielded lst.toArray a.tmps) = false ∧ R (a.put o.dst undef) w)
def walkT (T : World → World → Prop) (P : Program) (lst : List Oper) (Q : Act → World → Prop) : PlK → Act → World → Prop
  | .nil, a, w => Q a w
  | .rd k r, a, w => ∃ o, opAt lst k = some o ∧ if Region.wanted o (yielded lst.toArray a.tmps) then readsT T P o a w (fun a' => walkT T P lst Q r a' w) else walkT T P lst Q r (a.put o.dst undef) w
  | .mv k r, a, w => ∃ o, opAt lst k = some o ∧ moveT T P lst o a w (walkT T P lst Q r)
  | .two k1 r1 k2 r2, a, w => (∃ o, opAt lst k1 = some o ∧ moveT T P lst o a w (walkT T P lst Q r1)) ∧ (∃ o, opAt lst k2 = some o ∧ moveT T P lst o a w (walkT T P lst Q r2))

theorem moveT_any {md : Region.Mode} {o : Oper} {k fuel : Nat} {L : Array Bool} {a : Act} {w : World} {R : Act → World → Prop} (h : moveT T P lst o a w R) (hR : ∀ a' w', R a' w' → anyST T P md lst.toArray Q fuel (L.setIfInBounds k true) a' w') :
    (∃ v, YRT T P lst.toArray o v a w ∧ anyST T P md lst.toArray Q fuel (L.setIfInBounds k true) (a.put o.dst v) w) ∨
    (Region.wanted o (yielded lst.toArray a.tmps) = true ∧ gives P o a w fun v w' => T w w' ∧ anyST T P md lst.toArray Q fuel (L.setIfInBounds k true) (a.put o.dst v) w') := by
  rcases h with ⟨h1, h2⟩ | ⟨h1, h2⟩
  · exact .inr ⟨h1, gives_mono (fun v w' hh => ⟨hh.1, hR _ _ hh.2⟩) h2⟩
  · exact .inl ⟨undef, .inr ⟨h1, rfl⟩, hR _ _ h2⟩

theorem anyS_walk (hT : Pre T) {md : Region.Mode} (hs : Region.noSelect lst.toArray = true) : ∀ (p : PlK) (L : Array Bool) (a : Act) (w : World), p.even = true → planT md lst.toArray p L = true → walkT T P lst Q p a w → anyST T P md lst.toArray Q p.len L a w
  | .nil, _, _, _, _, hB, h => ⟨by simpa [planT] using hB, h⟩
  | .rd k r, L, a, w, he, hB, h => by
    simp only [planT, Bool.and_eq_true] at hB
    obtain ⟨⟨hr, hf⟩, hB'⟩ := hB
    obtain ⟨o, ho, h⟩ := h
    rw [opAt_eq] at ho
    by_cases hw : Region.wanted o (yielded lst.toArray a.tmps) = true
    · rw [if_pos hw] at h
      obtain ⟨v, hv, hn⟩ := h
      exact anyS_readT hT ho (Region.noSelect_spec hs) r.len L a w (Region.free_spec ho hf) (by simpa using hr) (.inl ⟨hw, hv⟩) (anyS_walk hT hs r _ _ _ he hB' hn)
    · rw [if_neg hw] at h
      exact anyS_readT hT ho (Region.noSelect_spec hs) r.len L a w (Region.free_spec ho hf) (by simpa using hr) (.inr ⟨by simpa using hw, rfl⟩) (anyS_walk hT hs r _ _ _ he hB' h)
  | .mv k r, L, a, w, he, hB, h => by
    simp only [planT, Bool.and_eq_true, beq_iff_eq] at hB
    obtain ⟨hr, hB'⟩ := hB
    obtain ⟨o, ho, h⟩ := h
    rw [opAt_eq] at ho
    refine ⟨fun hx => (by rw [hx] at hr; cases hr), fun j hj => ?_⟩
    rw [hr] at hj
    obtain rfl : j = k := by simpa using hj
    exact ⟨o, ho, moveT_any h (fun a' w' hh => anyS_walk hT hs r _ _ _ he hB' hh)⟩
  | .two k1 r1 k2 r2, L, a, w, he, hB, h => by
    simp only [planT, Bool.and_eq_true, beq_iff_eq] at hB
    obtain ⟨⟨hr, hB1⟩, hB2⟩ := hB
    simp only [PlK.even, Bool.and_eq_true, beq_iff_eq] at he
    obtain ⟨⟨he1, he2⟩, hl⟩ := he
    obtain ⟨⟨o1, ho1, h1⟩, ⟨o2, ho2, h2⟩⟩ := h
    rw [opAt_eq] at ho1 ho2
    refine ⟨fun hx => (by rw [hx] at hr; cases hr), fun j hj => ?_⟩
    rw [hr] at hj
    simp only [List.mem_cons, List.not_mem_nil, or_false] at hj
    rcases hj with rfl | rfl
    · exact ⟨o1, ho1, moveT_any h1 (fun a' w' hh => anyS_walk hT hs r1 _ _ _ he1 hB1 hh)⟩
    · refine ⟨o2, ho2, moveT_any h2 (fun a' w' hh => ?_)⟩
      have := anyS_walk hT hs r2 _ _ _ he2 hB2 hh
      rw [← hl] at this
      exact this

theorem walkT_nil {a : Act} {w : World} (h : Q a w) : walkT T P lst Q .nil a w := h
theorem walkT_rd {k : Nat} {r : PlK} {o : Oper} {a : Act} {w : World} (ho : opAt lst k = some o)
    (h : ∀ K : Act → Prop, (∀ a', walkT T P lst Q r a' w → K a') → if Region.wanted o (yielded lst.toArray a.tmps) then readsT T P o a w K else K (a.put o.dst undef)) : walkT T P lst Q (.rd k r) a w := ⟨o, ho, h _ (fun _ h => h)⟩
theorem walkT_mv {k : Nat} {r : PlK} {o : Oper} {a : Act} {w : World} (ho : opAt lst k = some o)
    (h : ∀ K : Value → World → Prop, (∀ v w', T w w' → walkT T P lst Q r (a.put o.dst v) w' → K v w') → Region.wanted o (yielded lst.toArray a.tmps) = true ∧ gives P o a w K) : walkT T P lst Q (.mv k r) a w :=
  ⟨o, ho, .inl (h _ (fun _ _ h1 h2 => ⟨h1, h2⟩))⟩
theorem walkT_two {k1 k2 : Nat} {r1 r2 : PlK} {o1 o2 : Oper} {a : Act} {w : World} (ho1 : opAt lst k1 = some o1) (ho2 : opAt lst k2 = some o2)
    (h1 : ∀ K : Value → World → Prop, (∀ v w', T w w' → walkT T P lst Q r1 (a.put o1.dst v) w' → K v w') → Region.wanted o1 (yielded lst.toArray a.tmps) = true ∧ gives P o1 a w K)
    (h2 : ∀ K : Value → World → Prop, (∀ v w', T w w' → walkT T P lst Q r2 (a.put o2.dst v) w' → K v w') → Region.wanted o2 (yielded lst.toArray a.tmps) = true ∧ gives P o2 a w K) : walkT T P lst Q (.two k1 r1 k2 r2) a w :=
  ⟨⟨o1, ho1, .inl (h1 _ (fun _ _ h1 h2 => ⟨h1, h2⟩))⟩, ⟨o2, ho2, .inl (h2 _ (fun _ _ h1 h2 => ⟨h1, h2⟩))⟩⟩
end

/-- The region. -/
theorem wp_walk {T : World → World → Prop} {P : Program} (hT : Pre T) {Q : Exit → Act → World → Prop} {id : Nat} {a : Act} {w : World} {lst : List Oper} (p : PlK) (hm : P.follows .mixedOrders = true) (hn : p.len = lst.length) (he : p.even = true) (hs : Region.noSelect lst.toArray = true)
    (hB : planT .any lst.toArray p (Array.replicate lst.length false) = true) (h : walkT T P lst (fun a' w' => Q .normal a' w') p a w.drew) : (Code.region id lst.toArray true).wp P Q a w := by
  refine wp_region_any hm ?_
  have hsz : lst.toArray.size = p.len := by rw [hn]; simp
  rw [hsz]
  refine wpAny_of_anyST hT (Q := fun a' w' => Q .normal a' w') (fun _ _ h => h) _ _ _ _ ?_
  rw [← hn] at hB
  exact anyS_walk hT hs p _ _ _ he hB h
theorem below_pre (B : Nat) : Pre (Below B) := ⟨fun w => Below.refl B w, fun h k => h.trans k⟩
instance instBelow (B : Nat) (W : World) : Nonempty (SubT (Below B) W) := ⟨⟨W, Below.refl B W⟩⟩

end Go.Proofs.Ytmknengmjepdaaa
