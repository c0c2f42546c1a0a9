/- A region that draws its order and whose stores may come up among its reads: a class of worlds that depends on what has come up. -/
import Derived.Test.YtmknengmjepdaaaRr
namespace Go.Proofs.Ytmknengmjepdaaa
open Go.RowKit

section
variable {P : Program} {ops : Array Oper} {md : Region.Mode} {C : Array Bool → World → Prop}

/-- Operation i reads alone, or stores: in every world of the class it yields v, and the class goes on. -/
def YL (P : Program) (ops : Array Oper) (C : Array Bool → World → Prop) (i : Nat) (o : Oper) (v : Value) (a : Act) : Prop :=
  Region.wanted o (yielded ops a.tmps) = true ∧ ∀ L w, C L w → ∃ w', ((execOp a.eval o).run P w = .ok (.value v) w' ∨ (v = undef ∧ (execOp a.eval o).run P w = .ok .skip w')) ∧ C (L.setIfInBounds i true) w'

def anyL (P : Program) (md : Region.Mode) (ops : Array Oper) (C : Array Bool → World → Prop) (Q : Act → Prop) : Nat → Array Bool → Act → Prop
  | 0, L, a => Region.ready md ops L = [] ∧ Q a
  | fuel + 1, L, a => (Region.ready md ops L = [] → Q a) ∧ ∀ i ∈ Region.ready md ops L, ∃ o v, ops[i]? = some o ∧ YL P ops C i o v a ∧ anyL P md ops C Q fuel (L.setIfInBounds i true) (a.put o.dst v)

theorem wpAny_of_anyL {Q : Act → Prop} {Q' : Exit → Act → World → Prop} (hQ : ∀ L a w, Region.ready md ops L = [] → C L w → Q a → Q' .normal a w) :
    ∀ (fuel : Nat) (L : Array Bool) (a : Act) (w : World), C L w → anyL P md ops C Q fuel L a → wpAny P md ops Q' fuel L a w
  | 0, _, _, _, hC, h => ⟨h.1, hQ _ _ _ h.1 hC h.2⟩
  | fuel + 1, L, a, w, hC, h => by
    refine ⟨fun he => hQ _ _ _ he hC (h.1 he), fun i hi => ?_⟩
    obtain ⟨o, v, ho, ⟨hw, hy⟩, hn⟩ := h.2 i hi
    obtain ⟨w', hr, hC'⟩ := hy L w hC
    unfold wpOp
    rw [ho]
    dsimp only
    rw [if_pos hw]
    left
    unfold Oper.wp
    rcases hr with hr | ⟨rfl, hr⟩
    · rw [hr]; exact wpAny_of_anyL hQ fuel _ _ _ hC' hn
    · rw [hr]; exact wpAny_of_anyL hQ fuel _ _ _ hC' hn

theorem YL.same {i : Nat} {o : Oper} {v : Value} {a a' : Act} (hy : YL P ops C i o v a) (he : execOp a'.eval o = execOp a.eval o) (hw : Region.wanted o (yielded ops a'.tmps) = Region.wanted o (yielded ops a.tmps)) : YL P ops C i o v a' := by
  unfold YL at *
  rw [he, hw]
  exact hy

theorem anyL_first {Q : Act → Prop} {i : Nat} {oi : Oper} {v : Value} (hi : ops[i]? = some oi) (hsel : ∀ (j : Nat) (o : Oper) cs b, ops[j]? = some o → o.op ≠ .select cs b) : ∀ (fuel : Nat) (L : Array Bool) (a : Act),
    (∀ j oj, ops[j]? = some oj → j ≠ i → L.getD j true = false → (∀ e ∈ oj.after, Region.binds md e = true → e.on ≠ i) → oi.apart ops oj = true) →
    i ∈ Region.ready md ops L → YL P ops C i oi v a → anyL P md ops C Q fuel (L.setIfInBounds i true) (a.put oi.dst v) → anyL P md ops C Q (fuel + 1) L a := by
  intro fuel
  induction fuel with
  | zero =>
    intro L a _ hr hy H
    refine ⟨fun he => (by rw [he] at hr; cases hr), fun j hj => ?_⟩
    by_cases hji : j = i
    · subst hji; exact ⟨oi, v, hi, hy, H⟩
    · have := ready_mono hj hji
      rw [H.1] at this
      cases this
  | succ fuel ih =>
    intro L a hfree hr hy H
    refine ⟨fun he => (by rw [he] at hr; cases hr), fun j hj => ?_⟩
    by_cases hji : j = i
    · subst hji; exact ⟨oi, v, hi, hy, H⟩
    · obtain ⟨oj, u, hoj, hyj, hn⟩ := H.2 j (ready_mono hj hji)
      obtain ⟨hjun, oj', hoj', hall⟩ := mem_ready.1 hj
      have hio := (mem_ready.1 hr).1
      have hwait : ∀ e ∈ oj.after, Region.binds md e = true → e.on ≠ i := fun e he hb heq => by
        rw [hoj] at hoj'
        cases hoj'
        have h1 := hall e he hb
        rw [heq] at h1
        rw [Array.getD_eq_getD_getElem?] at h1 hio
        cases hx : L[i]? with
        | none => rw [hx] at h1; cases h1
        | some z => rw [hx] at h1 hio; simp at h1 hio; rw [h1] at hio; cases hio
      obtain ⟨a1, a2, a3⟩ := Oper.apart_spec (hfree j oj hoj hji hjun hwait)
      have hyj' : YL P ops C j oj u a := hyj.same (execOp_put oj (fun cs b => hsel j oj cs b hoj) a oi.dst v a1).symm (wanted_put oj a oi.dst v a1).symm
      have hyi' : YL P ops C i oi v (a.put oj.dst u) := hy.same (execOp_put oi (fun cs b => hsel i oi cs b hi) a oj.dst u a3) (wanted_put oi a oj.dst u a3)
      refine ⟨oj, u, hoj, hyj', ih _ _ (fun k ok hk hki hun hno => ?_) (ready_mono hr (Ne.symm hji)) hyi' ?_⟩
      · refine hfree k ok hk hki ?_ hno
        by_cases hjk : j = k
        · subst hjk; exact hjun
        · rw [Go.getD_set_ne true hjk] at hun; exact hun
      · rw [Array.setIfInBounds_comm _ _ hji, ← Act.put_comm a v u a2]
        exact hn

/-- The walk in the order of the text. -/
def lexL (P : Program) (ops : Array Oper) (C : Array Bool → World → Prop) (Q : Act → Prop) : List Oper → Nat → Act → Prop
  | [], _, a => Q a
  | o :: rest, k, a => ∃ v, YL P ops C k o v a ∧ lexL P ops C Q rest (k + 1) (a.put o.dst v)

theorem anyL_lex {Q : Act → Prop} (hs : Region.noSelect ops = true) : ∀ (l : List Oper) (k : Nat) (L : Array Bool) (a : Act), (∀ j, l[j]? = ops[k + j]?) → Region.lexFrom md ops l.length k L = true → lexL P ops C Q l k a → anyL P md ops C Q l.length L a
  | [], _, _, _, _, hB, h => ⟨by simpa [Region.lexFrom] using hB, h⟩
  | o :: l, k, L, a, hl, hB, h => by
    have h0 : ops[k]? = some o := by simpa using (hl 0).symm
    simp only [List.length_cons, Region.lexFrom, Bool.and_eq_true] at hB
    obtain ⟨⟨hr, hf⟩, hB'⟩ := hB
    obtain ⟨v, hy, hK⟩ := h
    exact anyL_first h0 (Region.noSelect_spec hs) l.length L a (Region.free_spec h0 hf) (by simpa using hr) hy
      (anyL_lex hs l (k + 1) _ _ (fun j => by have := hl (j + 1); simpa [Nat.add_assoc, Nat.add_comm 1 j] using this) hB' hK)

/-- A world of the class. -/
structure SubL (C : Array Bool → World → Prop) where
  L : Array Bool
  w : World
  h : C L w

theorem lexL_read {Q : Act → Prop} {o : Oper} {rest : List Oper} {k : Nat} {a : Act} (hm : ∀ L w, C L w → C (L.setIfInBounds k true) w)
    (h : ∀ K : Act → Prop, (∀ a, lexL P ops C Q rest (k + 1) a → K a) → Region.wanted o (yielded ops a.tmps) = true ∧ ∃ v, (∀ x : SubL C, (execOp a.eval o).run P x.w = .ok (.value v) x.w) ∧ K (a.put o.dst v)) : lexL P ops C Q (o :: rest) k a := by
  obtain ⟨hw, v, h1, h2⟩ := h _ (fun _ h => h)
  exact ⟨v, ⟨hw, fun L w hC => ⟨w, .inl (h1 ⟨L, w, hC⟩), hm L w hC⟩⟩, h2⟩
theorem lexL_store {Q : Act → Prop} {o : Oper} {rest : List Oper} {k : Nat} {a : Act} (p : Addr) (u : Value) (hm : ∀ L w, C L w → C (L.setIfInBounds k true) (w.setCell p u))
    (h : ∀ K : Act → Prop, (∀ a, lexL P ops C Q rest (k + 1) a → K a) → Region.wanted o (yielded ops a.tmps) = true ∧ (∀ x : SubL C, (execOp a.eval o).run P x.w = .ok .skip (x.w.setCell p u)) ∧ K (a.put o.dst undef)) : lexL P ops C Q (o :: rest) k a := by
  obtain ⟨hw, h1, h2⟩ := h _ (fun _ h => h)
  exact ⟨undef, ⟨hw, fun L w hC => ⟨_, .inr ⟨rfl, h1 ⟨L, w, hC⟩⟩, hm L w hC⟩⟩, h2⟩

/-- Edges that bind point back. -/
def backB (md : Region.Mode) (ops : Array Oper) : Bool := (List.range ops.size).all fun j => match ops[j]? with
  | some oj => oj.after.all (fun e => !Region.binds md e || decide (e.on < j))
  | none => true
theorem back_all {L : Array Bool} (hsz : L.size = ops.size) (hb : backB md ops = true) (hr : Region.ready md ops L = []) : ∀ j, j < ops.size → L.getD j false = true := by
  intro j
  induction j using Nat.strongRecOn with
  | _ j ih =>
    intro hj
    have hoj : ops[j]? = some ops[j] := by simp [hj]
    cases hd : L.getD j false with
    | true => rfl
    | false =>
      exfalso
      have hno : j ∉ Region.ready md ops L := by rw [hr]; simp
      apply hno
      rw [mem_ready]
      refine ⟨?_, ops[j], hoj, fun e he hbd => ?_⟩
      · rw [Array.getD_eq_getD_getElem?] at hd ⊢
        have hx : L[j]? = some (L[j]'(by omega)) := by simp [show j < L.size by omega]
        rw [hx] at hd ⊢
        simpa using hd
      · have h1 := List.all_eq_true.1 hb j (List.mem_range.2 hj)
        rw [hoj] at h1
        have h2 := Array.all_eq_true_iff_forall_mem.1 h1 e he
        rw [hbd] at h2
        have hlt : e.on < j := by simpa using h2
        exact ih _ hlt (by omega)

/-- The region within a round; the class tells the size of what is listed. -/
theorem wpIn_region_lex {Q : Exit → Act → World → Prop} {id l n : Nat} {a : Act} {w : World} {lst : List Oper} (hm : P.follows .mixedOrders = true) (hd : noDefer lst.toArray = true) (hQ : ¬ LetsOut Q) (hB : Region.lexB .any lst.toArray = true) (hb : backB .any lst.toArray = true)
    (hsz : ∀ L w, C L w → L.size = lst.length) (hC : C (Array.replicate lst.length false) w.drew)
    (h : lexL P lst.toArray C (fun a' => ∀ L w', (∀ j, j < lst.length → L.getD j false = true) → C L w' → Q .normal a' w') lst 0 a) : (Code.region id lst.toArray true).wpIn (Fence.wide.inRound l) n P Q a w := by
  refine wpIn_region_any hm (wpAny_round hd hQ _ _ _ _ ?_)
  simp only [Region.lexB, Bool.and_eq_true] at hB
  refine wpAny_of_anyL (C := C) (Q := fun a' => ∀ L w', (∀ j, j < lst.length → L.getD j false = true) → C L w' → Q .normal a' w') (fun L a' w' he hC' h => h L w' (fun j hj => back_all (by simpa using hsz L w' hC') hb he j (by simpa using hj)) hC') _ _ _ _ (by simpa using hC) ?_
  have := anyL_lex (C := C) (md := .any) hB.1 lst 0 (Array.replicate lst.length false) a (by simp) (by simpa using hB.2) h
  simpa using this
end

end Go.Proofs.Ytmknengmjepdaaa
