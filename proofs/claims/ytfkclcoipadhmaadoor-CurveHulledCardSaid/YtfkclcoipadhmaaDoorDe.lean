/- Curves: chains of calc's operations; right curves as points of rationals; walk of calc.slope. -/
import Derived.Test.YtfkclcoipadhmaaDoorDb
import Derived.Test.YtfkclcoipadhmaaDoorDd
namespace Go.Proofs.YtfkclcoipadhmaaDoor
open Go.RowKit
attribute [local irreducible] seqS seqST walkV walkJ

/-- calc's state and answer behind a step that gives o. -/
def calK (ok : Bool) (o : Option Rat) : Bool := ok && o.isSome
def calV (ok : Bool) (o : Option Rat) : Rat := if ok then o.getD 0 else 0
theorem cop_cal (ok : Bool) (q : Rat) : copK ok q = calK ok (fitO q) ∧ copV ok q = calV ok (fitO q) := by
  unfold copV copK calK calV fitO
  cases ok with
  | false => exact ⟨rfl, rfl⟩
  | true =>
    by_cases h : fits q
    · rw [if_pos h, decide_eq_true h]; exact ⟨rfl, rfl⟩
    · rw [if_neg h, decide_eq_false h]; exact ⟨rfl, rfl⟩
theorem cal_bind (ok : Bool) (o : Option Rat) (f : Rat → Option Rat) : calK (calK ok o) (f (calV ok o)) = calK ok (o.bind f) ∧ calV (calK ok o) (f (calV ok o)) = calV ok (o.bind f) := by
  cases ok with
  | false => exact ⟨rfl, rfl⟩
  | true =>
    cases o with
    | none => exact ⟨rfl, rfl⟩
    | some q => exact ⟨rfl, rfl⟩
theorem calV_of {ok : Bool} {o : Option Rat} (h : calK ok o = true) : ok = true ∧ ∃ q, o = some q ∧ calV ok o = q := by
  cases ok with
  | false => cases h
  | true =>
    cases o with
    | none => cases h
    | some q => exact ⟨rfl, q, rfl, rfl⟩
theorem calV_fits {ok : Bool} {o : Option Rat} (h : ∀ q, o = some q → fits q) : fits (calV ok o) := by
  cases ok with
  | false => exact fits_nought
  | true =>
    cases o with
    | none => exact fits_nought
    | some q => exact h q rfl
theorem fitO_fits {q r : Rat} (h : fitO q = some r) : fits r ∧ r = q := by
  unfold fitO at h
  by_cases hf : fits q
  · rw [if_pos hf] at h; cases h; exact ⟨hf, rfl⟩
  · rw [if_neg hf] at h; cases h
theorem slO_fits {p q : Pt} {s : Rat} (h : slO p q = some s) : fits s := by
  unfold slO at h
  cases h1 : fitO (q.2 - p.2) with
  | none => rw [h1] at h; cases h
  | some a =>
    cases h2 : fitO (q.1 - p.1) with
    | none => rw [h1, h2] at h; cases h
    | some b =>
      rw [h1, h2] at h
      exact (fitO_fits h).1

/-- A right curve of whole numbers, as points of rationals; and back. -/
def toQ (c : List P4) : List Pt := c.map fun p => (vq p.1, vq p.2)
def ofQ (c : List Pt) : List P4 := c.map fun p => ((p.1.num, (p.1.den : Int)), (p.2.num, (p.2.den : Int)))
theorem toQ_len (c : List P4) : (toQ c).length = c.length := by unfold toQ; rw [List.length_map]
theorem ofQ_len (c : List Pt) : (ofQ c).length = c.length := by unfold ofQ; rw [List.length_map]
theorem toQ_get {c : List P4} {i : Nat} (hi : i < c.length) : (toQ c).getD i (0, 0) = (vq (c.getD i z4).1, vq (c.getD i z4).2) := by
  unfold toQ
  rw [List.getD_eq_getElem?_getD, List.getD_eq_getElem?_getD, List.getElem?_map, List.getElem?_eq_getElem hi]
  rfl
theorem ofQ_get {c : List Pt} {i : Nat} (hi : i < c.length) : (ofQ c).getD i z4 = (((c.getD i (0, 0)).1.num, ((c.getD i (0, 0)).1.den : Int)), ((c.getD i (0, 0)).2.num, ((c.getD i (0, 0)).2.den : Int))) := by
  unfold ofQ
  rw [List.getD_eq_getElem?_getD, List.getD_eq_getElem?_getD, List.getElem?_map, List.getElem?_eq_getElem hi]
  rfl
theorem ofQ_cells (c : List Pt) : p4sC (ofQ c) = ptsC c := by
  unfold p4sC ofQ ptsC
  rw [List.flatMap_map]
  rfl
theorem toQ_cells : ∀ {c : List P4}, (∀ p ∈ c, FV p.1.1 p.1.2 ∧ FV p.2.1 p.2.2) → ptsC (toQ c) = p4sC c
  | [], _ => rfl
  | p :: c, h => by
    have hp := h p (List.mem_cons_self ..)
    have ih := toQ_cells (c := c) (fun q hq => h q (List.mem_cons_of_mem _ hq))
    show ptC (vq p.1, vq p.2) ++ ptsC (toQ c) = p4C p ++ p4sC c
    rw [ih]
    congr 1
    unfold ptC p4C vq
    rw [hp.1.num, hp.1.den, hp.2.num, hp.2.den]
theorem rv_all {c : List P4} (h : RV c) : ∀ p ∈ c, FV p.1.1 p.1.2 ∧ FV p.2.1 p.2.2 := by
  intro p hp
  obtain ⟨i, hi, he⟩ := List.mem_iff_getElem.1 hp
  have := h.2.2.2 i hi
  unfold OKp at this
  rw [List.getD_eq_getElem?_getD, List.getElem?_eq_getElem hi] at this
  rw [← he]
  exact ⟨this.1, this.2.1⟩
theorem rv_cv {c : List P4} (h : RV c) : CV (toQ c) where
  two := by rw [toQ_len]; exact h.1
  most := by rw [toQ_len]; exact h.2.1
  first := by
    rw [toQ_get (by have := h.1; omega), h.2.2.1]
    decide +kernel
  fit := by
    intro i hi
    rw [toQ_len] at hi
    rw [toQ_get hi]
    have := h.2.2.2 i hi
    exact ⟨vq_fits this.1, vq_fits this.2.1⟩
  rise := by
    intro i hi
    rw [toQ_len] at hi
    rw [toQ_get hi, toQ_get (show i < c.length by omega)]
    exact (h.2.2.2 (i + 1) hi).2.2 (by omega)
theorem vq_self (q : Rat) : vq (q.num, (q.den : Int)) = q := q_parts q
theorem rv_ofQ {c : List Pt} : RV (ofQ c) ↔ CV c := by
  have back : toQ (ofQ c) = c := by
    unfold toQ ofQ
    rw [List.map_map]
    have : ∀ p ∈ c, ((fun p : P4 => (vq p.1, vq p.2)) ∘ fun p : Pt => ((p.1.num, (p.1.den : Int)), (p.2.num, (p.2.den : Int)))) p = p := fun p _ => by
      show (vq (p.1.num, (p.1.den : Int)), vq (p.2.num, (p.2.den : Int))) = p
      rw [vq_self, vq_self]
    rw [List.map_congr_left this, List.map_id']
  constructor
  · intro h
    have := rv_cv h
    rwa [back] at this
  · intro h
    have h0 := h.first
    refine ⟨by rw [ofQ_len]; exact h.two, by rw [ofQ_len]; exact h.most, ?_, fun i hi => ?_⟩
    · rw [ofQ_get (by have := h.two; omega), h0]; rfl
    · rw [ofQ_len] at hi
      have hf := h.fit i hi
      unfold OKp
      rw [ofQ_get hi]
      refine ⟨fits_FV hf.1, fits_FV hf.2, fun h1 => ?_⟩
      rw [ofQ_get (show i - 1 < c.length by omega)]
      have := h.rise (i - 1) (by omega)
      rw [show i - 1 + 1 = i by omega] at this
      show vq (_, _) < vq (_, _) ∧ vq (_, _) < vq (_, _)
      rw [vq_self, vq_self, vq_self, vq_self]
      exact this
noncomputable instance (c : List Pt) : Decidable (CV c) := decidable_of_iff _ rv_ofQ
theorem P4R.toQ {lo : Nat} {w : World} {v : Value} {c : List P4} (h : P4R lo w v c) (hr : RV c) : PsR lo w v (toQ c) := by
  unfold PsR
  rw [toQ_len, toQ_cells (rv_all hr)]
  exact h
theorem PsR.ofQ {lo : Nat} {w : World} {v : Value} {c : List Pt} (h : PsR lo w v c) : P4R lo w v (ofQ c) := by
  unfold P4R
  rw [ofQ_len, ofQ_cells]
  exact h
theorem cValid_q (c : List Pt) (v : Value) (w : World) (h : PsR 0 w v c) (hz : Z0 w) :
    Calls Tryd.prog 20 #[v] w fun r w' => r = .returned (.bool (decide (CV c))) ∧ Below w.heap.size w w' := by
  have := cValid_any (ofQ c) v w h.ofQ hz
  rw [decide_eq_decide.2 rv_ofQ] at this
  exact this

end Go.Proofs.YtfkclcoipadhmaaDoor
