/- Several of my texts in one: Rs, Rr, Rl, Rk, Rm. -/
import Derived.Test.YtcpefolhohakmaaBs
import Derived.Deep.QuietTactic
import Derived.Deep.Cut
import Derived.RangeFuncNested
import Derived.RangeFuncCalls
import Derived.RangeFuncLeaves
import Derived.OrdersIn
import Derived.TacticsIn
/- A region that draws its order, whose last operation waits for all others: the others are walked as a region of their own, then the last one. -/
namespace Go.Proofs.Ytcpefolhohakmaa
open Go.RowKit

/-- Edges of the head point back; the last one's edges name all of the head, and nothing else; guards point into the head. -/
def snocB (md : Region.Mode) (l : List Oper) (o : Oper) : Bool :=
  (List.range l.length).all (fun j => match l[j]? with
    | some oj => oj.after.all (fun e => !Region.binds md e || decide (e.on < j)) && (match oj.guard with | some (g, _) => decide (g < l.length) | none => true)
    | none => true) &&
  o.after.all (fun e => !Region.binds md e || decide (e.on < l.length)) &&
  (List.range l.length).all (fun j => o.after.any fun e => Region.binds md e && e.on == j)

theorem snocB_spec {md : Region.Mode} {l : List Oper} {o : Oper} (h : snocB md l o = true) :
    (∀ j oj, l[j]? = some oj → (∀ e ∈ oj.after, Region.binds md e = true → e.on < j) ∧ ∀ g b, oj.guard = some (g, b) → g < l.length) ∧
    (∀ e ∈ o.after, Region.binds md e = true → e.on < l.length) ∧ ∀ j, j < l.length → ∃ e ∈ o.after, Region.binds md e = true ∧ e.on = j := by
  unfold snocB at h
  simp only [Bool.and_eq_true] at h
  obtain ⟨⟨h1, h2⟩, h3⟩ := h
  refine ⟨fun j oj hj => ?_, fun e he hb => ?_, fun j hj => ?_⟩
  · have hlt : j < l.length := (List.getElem?_eq_some_iff.1 hj).1
    have := List.all_eq_true.1 h1 j (List.mem_range.2 hlt)
    rw [hj] at this
    simp only [Bool.and_eq_true] at this
    refine ⟨fun e he hb => ?_, fun g b hg => ?_⟩
    · have := Array.all_eq_true_iff_forall_mem.1 this.1 e he
      rw [hb] at this
      simpa using this
    · have := this.2
      rw [hg] at this
      simpa using this
  · have := Array.all_eq_true_iff_forall_mem.1 h2 e he
    rw [hb] at this
    simpa using this
  · have := List.all_eq_true.1 h3 j (List.mem_range.2 hj)
    obtain ⟨e, he, hh⟩ := Array.any_eq_true'.1 this
    simp only [Bool.and_eq_true, beq_iff_eq] at hh
    exact ⟨e, he, hh.1, hh.2⟩

section
variable {P : Program} {md : Region.Mode} {l : List Oper} {o : Oper} {Q : Exit → Act → World → Prop}

/-- How the two lists of what is done agree. -/
structure Agree (l : List Oper) (big small : Array Bool) : Prop where
  szs : small.size = l.length
  szb : big.size = l.length + 1
  lst : big.getD l.length true = false
  eq : ∀ j, j < l.length → big[j]? = small[j]?

theorem Agree.getD {big small : Array Bool} (h : Agree l big small) {j : Nat} (hj : j < l.length) (d : Bool) : big.getD j d = small.getD j d := by
  have := h.eq j hj
  rw [Array.getD_eq_getD_getElem?, Array.getD_eq_getD_getElem?, this]

theorem Agree.set {big small : Array Bool} (h : Agree l big small) {j : Nat} (hj : j < l.length) : Agree l (big.setIfInBounds j true) (small.setIfInBounds j true) := by
  refine ⟨by simp [h.szs], by simp [h.szb], ?_, fun i hi => ?_⟩
  · rw [Go.getD_set_ne true (by omega)]; exact h.lst
  · have := h.eq i hi
    rw [Array.getElem?_setIfInBounds, Array.getElem?_setIfInBounds, h.szs, h.szb, this]
    by_cases hji : j = i
    · rw [if_pos hji, if_pos hji, if_pos (by omega), if_pos (by omega)]
    · rw [if_neg hji, if_neg hji]

theorem snoc_get {j : Nat} (hj : j < l.length) : (l ++ [o]).toArray[j]? = l.toArray[j]? := by
  simp [List.getElem?_append_left hj]
theorem snoc_last : (l ++ [o]).toArray[l.length]? = some o := by simp

theorem Agree.ready {big small : Array Bool} (h : Agree l big small) (hs : snocB md l o = true) {j : Nat} (hj : j < l.length) :
    j ∈ Region.ready md (l ++ [o]).toArray big ↔ j ∈ Region.ready md l.toArray small := by
  obtain ⟨h1, -, -⟩ := snocB_spec hs
  rw [mem_ready, mem_ready, snoc_get hj, h.getD hj]
  constructor
  · rintro ⟨a, oj, hoj, hall⟩
    refine ⟨a, oj, hoj, fun e he hb => ?_⟩
    have hlt := (h1 j oj (by simpa using hoj)).1 e he hb
    rw [← h.getD (by omega)]
    exact hall e he hb
  · rintro ⟨a, oj, hoj, hall⟩
    refine ⟨a, oj, hoj, fun e he hb => ?_⟩
    have hlt := (h1 j oj (by simpa using hoj)).1 e he hb
    rw [h.getD (by omega)]
    exact hall e he hb

theorem all_listed {small : Array Bool} (hsz : small.size = l.length) (hs : snocB md l o = true) (hr : Region.ready md l.toArray small = []) : ∀ j, j < l.length → small.getD j false = true := by
  obtain ⟨h1, -, -⟩ := snocB_spec hs
  intro j
  induction j using Nat.strongRecOn with
  | _ j ih =>
    intro hj
    have hno : j ∉ Region.ready md l.toArray small := by rw [hr]; simp
    rw [mem_ready] at hno
    have hoj : l.toArray[j]? = some (l[j]) := by simp [hj]
    cases hd : small.getD j false with
    | true => rfl
    | false =>
      exfalso
      apply hno
      refine ⟨?_, l[j], hoj, fun e he hb => ?_⟩
      · rw [Array.getD_eq_getD_getElem?] at hd ⊢
        have : ∃ x, small[j]? = some x := ⟨small[j]'(by omega), by simp [show j < small.size by omega]⟩
        obtain ⟨x, hx⟩ := this
        rw [hx] at hd ⊢
        simpa using hd
      · have hlt := (h1 j (l[j]) (by simp [hj])).1 e he hb
        exact ih _ hlt (by omega)

theorem Agree.last {big small : Array Bool} (h : Agree l big small) (hs : snocB md l o = true) :
    l.length ∈ Region.ready md (l ++ [o]).toArray big ↔ Region.ready md l.toArray small = [] := by
  obtain ⟨h1, h2, h3⟩ := snocB_spec hs
  constructor
  · intro hin
    rw [mem_ready, snoc_last] at hin
    obtain ⟨-, o', ho', hall⟩ := hin
    obtain rfl := Option.some.inj ho'
    refine List.eq_nil_iff_forall_not_mem.2 fun j hj => ?_
    have hj' := mem_ready.1 hj
    obtain ⟨hun, oj, hoj, -⟩ := hj'
    have hlt : j < l.length := by simpa using (Array.getElem?_eq_some_iff.1 hoj).1
    obtain ⟨e, he, hb, hon⟩ := h3 j hlt
    have := hall e he hb
    rw [hon, h.getD hlt] at this
    rw [Array.getD_eq_getD_getElem?] at hun this
    have hx : ∃ x, small[j]? = some x := ⟨small[j]'(by have := h.szs; omega), by simp [show j < small.size by have := h.szs; omega]⟩
    obtain ⟨x, hx⟩ := hx
    rw [hx] at hun this
    simp at hun this
    rw [hun] at this
    cases this
  · intro hr
    have hal := all_listed h.szs hs hr
    rw [mem_ready, snoc_last]
    refine ⟨h.lst, o, rfl, fun e he hb => ?_⟩
    have hlt := h2 e he hb
    rw [h.getD hlt]
    exact hal _ hlt

theorem snoc_wanted {oj : Oper} (hg : ∀ g b, oj.guard = some (g, b) → g < l.length) (t : Array Value) : Region.wanted oj (yielded (l ++ [o]).toArray t) = Region.wanted oj (yielded l.toArray t) := by
  unfold Region.wanted
  cases hh : oj.guard with
  | none => rfl
  | some gb =>
    obtain ⟨g, b⟩ := gb
    have hlt := hg g b hh
    have : yielded (l ++ [o]).toArray t g = yielded l.toArray t g := by
      unfold yielded
      rw [snoc_get hlt]
    simp only [this]

/-- What is asked behind the head: the last one, then Q. -/
def LastQ (P : Program) (l : List Oper) (o : Oper) (Q : Exit → Act → World → Prop) : Exit → Act → World → Prop
  | .normal, a, w => wpList P (l ++ [o]).toArray Q [o] a w
  | e, a, w => Q e a w

theorem letsOut_last (h : LetsOut (LastQ P l o Q)) : LetsOut Q := by
  obtain ⟨a, w, h⟩ := h
  exact ⟨a, w, h⟩

theorem Oper.wp_last {oj : Oper} {a : Act} {w : World} {K K' : Act → World → Prop} (hk : ∀ a w, K a w → K' a w) (h : oj.wp P a w K (LastQ P l o Q)) : oj.wp P a w K' Q := by
  unfold Oper.wp at *
  generalize (execOp a.eval oj).run P w = r at *
  cases r with
  | ok n w' =>
    cases n <;> simp only [Oper.upon] at h ⊢ <;>
      first
        | exact hk _ _ h
        | exact Calls.mono h (fun e w'' he => by cases e <;> first | exact hk _ _ he | exact he | exact letsOut_last he)
        | exact Rows.mono h (fun _ _ he => hk _ _ he)
  | halt x w' => cases x <;> simp only [Oper.upon] at h ⊢ <;> exact h

theorem wpOp_last {i : Nat} (hi : i < l.length) (hs : snocB md l o = true) {K K' : Act → World → Prop} {a : Act} {w : World} (hk : ∀ a w, K a w → K' a w)
    (h : wpOp P l.toArray (LastQ P l o Q) i K a w) : wpOp P (l ++ [o]).toArray Q i K' a w := by
  obtain ⟨h1, -, -⟩ := snocB_spec hs
  unfold wpOp at *
  rw [snoc_get hi]
  have hoj : l.toArray[i]? = some (l[i]) := by simp [hi]
  rw [hoj] at h ⊢
  dsimp only at h ⊢
  rw [snoc_wanted (h1 i l[i] (by simp [hi])).2]
  split
  · rename_i hw
    rw [if_pos hw] at h
    exact h.imp (Oper.wp_last hk) (fun h => ⟨h.1, letsOut_last h.2⟩)
  · rename_i hw
    rw [if_neg hw] at h
    exact hk _ _ h

theorem wpOp_of_last {K : Act → World → Prop} {a : Act} {w : World} (hk : ∀ a w, Q .normal a w → K a w) (h : wpList P (l ++ [o]).toArray Q [o] a w) : wpOp P (l ++ [o]).toArray Q l.length K a w := by
  unfold wpOp
  rw [snoc_last]
  dsimp only
  unfold wpList at h
  split
  · rename_i hw
    rw [if_pos hw] at h
    exact h.imp (fun h => Oper.wp_mono (fun a w hh => hk _ _ hh) h) id
  · rename_i hw
    rw [if_neg hw] at h
    exact hk _ _ h

theorem wpAny_snoc (hs : snocB md l o = true) : ∀ (fuel : Nat) (big small : Array Bool) (a : Act) (w : World), Agree l big small →
    wpAny P md l.toArray (LastQ P l o Q) fuel small a w → wpAny P md (l ++ [o]).toArray Q (fuel + 1) big a w
  | fuel, big, small, a, w, hag, h => by
    have hne : Region.ready md (l ++ [o]).toArray big ≠ [] := by
      intro he
      by_cases hr : Region.ready md l.toArray small = []
      · have := (hag.last hs).2 hr
        rw [he] at this
        cases this
      · obtain ⟨j, hj⟩ := List.exists_mem_of_ne_nil _ hr
        have hlt : j < l.length := by
          obtain ⟨-, oj, hoj, -⟩ := mem_ready.1 hj
          simpa using (Array.getElem?_eq_some_iff.1 hoj).1
        have := (hag.ready hs hlt).2 hj
        rw [he] at this
        cases this
    refine ⟨fun he => absurd he hne, fun i hi => ?_⟩
    have hil : i ≤ l.length := by
      obtain ⟨-, oj, hoj, -⟩ := mem_ready.1 hi
      have := (Array.getElem?_eq_some_iff.1 hoj).1
      simp at this
      omega
    rcases Nat.lt_or_ge i l.length with hlt | hge
    · have hin := (hag.ready hs hlt).1 hi
      match fuel, h with
      | 0, h => rw [h.1] at hin; cases hin
      | fuel + 1, h => exact wpOp_last hlt hs (fun a' w' hk => wpAny_snoc hs fuel _ _ a' w' (hag.set hlt) hk) (h.2 i hin)
    · obtain rfl : i = l.length := by omega
      have hr := (hag.last hs).1 hi
      have hQ : LastQ P l o Q .normal a w := by
        match fuel, h with
        | 0, h => exact h.2
        | fuel + 1, h => exact h.1 hr
      refine wpOp_of_last (fun a' w' hq => ?_) hQ
      have hnil : Region.ready md (l ++ [o]).toArray (big.setIfInBounds l.length true) = [] := by
        refine List.eq_nil_iff_forall_not_mem.2 fun j hj => ?_
        obtain ⟨hun, oj, hoj, -⟩ := mem_ready.1 hj
        have hjl : j < l.length + 1 := by
          have := (Array.getElem?_eq_some_iff.1 hoj).1
          simpa using this
        by_cases hjn : j = l.length
        · subst hjn
          rw [Array.getD_eq_getD_getElem?, Array.getElem?_setIfInBounds_self_of_lt (by rw [hag.szb]; omega)] at hun
          cases hun
        · rw [Go.getD_set_ne true (Ne.symm hjn)] at hun
          have h5 := all_listed hag.szs hs hr j (by omega)
          rw [hag.getD (by omega)] at hun
          rw [Array.getD_eq_getD_getElem?] at hun h5
          have hx : ∃ x, small[j]? = some x := ⟨small[j]'(by have := hag.szs; omega), by simp [show j < small.size by have := hag.szs; omega]⟩
          obtain ⟨x, hx⟩ := hx
          rw [hx] at hun h5
          simp at hun h5
          rw [hun] at h5
          cases h5
      cases fuel with
      | zero => exact ⟨hnil, hq⟩
      | succ fuel => exact ⟨fun _ => hq, fun i hi => by rw [hnil] at hi; cases hi⟩

/-- The walk: the head in the order of the text, every operation quiet in the class C; then the last. -/
theorem wp_region_snoc {C : World → Prop} {id : Nat} {a : Act} {w : World} (hm : P.follows .mixedOrders = true) (hs : snocB .any l o = true) (hB : Region.lexB .any l.toArray = true) (hC : C w.drew)
    (h : wpQuiet P l.toArray C (fun a' => ∀ w', C w' → wpList P (l ++ [o]).toArray Q [o] a' w') l a) : (Code.region id (l ++ [o]).toArray true).wp P Q a w := by
  refine wp_region_any hm ?_
  have hsz : (l ++ [o]).toArray.size = l.length + 1 := by simp
  rw [hsz]
  refine wpAny_snoc hs l.length _ (Array.replicate l.length false) a _ ⟨by simp, by simp, by simp, fun j hj => by simp [hj, Nat.lt_succ_of_lt hj]⟩ ?_
  simp only [Region.lexB, Bool.and_eq_true] at hB
  refine wpAny_of_quiet (C := C) (Q := fun a' => ∀ w', C w' → wpList P (l ++ [o]).toArray Q [o] a' w') (fun _ w' hw' h => h w' hw') _ _ _ _ hC ?_
  have := wpAnyQ_lex (C := C) (md := .any) hB.1 l 0 (Array.replicate l.length false) a (by simp) (by simpa using hB.2) h
  simpa using this

/-- The same, the list being given whole. -/
theorem wp_region_snoc' {C : World → Prop} {id : Nat} {a : Act} {w : World} {ops l : List Oper} {o : Oper} (ho : ops = l ++ [o]) (hm : P.follows .mixedOrders = true) (hs : snocB .any l o = true) (hB : Region.lexB .any l.toArray = true) (hC : C w.drew)
    (h : wpQuiet P l.toArray C (fun a' => ∀ w', C w' → wpList P ops.toArray Q [o] a' w') l a) : (Code.region id ops.toArray true).wp P Q a w := by
  subst ho
  exact wp_region_snoc hm hs hB hC h
end

/-- The worlds in which nothing that there was has changed. -/
structure Sub (W : World) where
  w : World
  b : Below W.heap.size W w
theorem Sub.first (W : World) : ∃ x : Sub W, W.drew = x.w := ⟨⟨W.drew, Below.drew (Below.refl _ W)⟩, rfl⟩
instance instSub (W : World) : Nonempty (Sub W) := ⟨⟨W, Below.refl _ W⟩⟩

theorem sub_call {P : Program} {f : FuncId} {args : Array Value} {W : World} {x : Sub W} {v : Value}
    (h : Calls P f args x.w fun e w' => e = .returned v ∧ Below x.w.heap.size x.w w') : Calls P f args x.w fun e w'' => e = .returned v ∧ ∃ y : Sub W, w'' = y.w :=
  h.mono fun _ w' ⟨he, hb⟩ => ⟨he, ⟨⟨w', x.b.trans (hb.mono x.b.size)⟩, rfl⟩⟩

end Go.Proofs.Ytcpefolhohakmaa

/- Regions within a round of a range over a function: the walk of the plain region serves. -/
namespace Go.Proofs.Ytcpefolhohakmaa
open Go.RowKit

def noDefer (ops : Array Oper) : Bool := ops.all fun o => match o.op with | .defer _ => false | _ => true
theorem noDefer_spec {ops : Array Oper} (h : noDefer ops = true) {i : Nat} {o : Oper} (ho : ops[i]? = some o) : ∀ c, o.op ≠ .defer c := by
  intro c hc
  have := Array.all_eq_true_iff_forall_mem.1 h o (Array.mem_of_getElem? ho)
  simp [hc] at this

section
variable {P : Program} {ops : Array Oper} {md : Region.Mode} {Q : Exit → Act → World → Prop} {l n : Nat}

theorem oper_round {o : Oper} {a : Act} {w : World} {K K' : Act → World → Prop} (hd : ∀ c, o.op ≠ .defer c) (hk : ∀ a w, K a w → K' a w) (h : o.wp P a w K Q) : o.wpIn (Fence.wide.inRound l) n P a w K' Q := by
  refine ⟨fun _ _ => trivial, ?_⟩
  rw [show (Fence.wide.inRound l).round = some l from rfl, Oper.semAt_some l _ o hd]
  unfold Oper.wp at h
  generalize (execOp a.eval o).run P w = r at *
  cases r with
  | ok nx w' =>
    cases nx <;> simp only [Oper.upon] at h <;> simp only [Oper.uponIn]
    case value => exact hk _ _ h
    case skip => exact hk _ _ h
    case defer => exact hk _ _ h
    case enter f args =>
      refine ⟨fun hh => (by cases hh), CallsIn.inRound l (callsIn_wide.2 (h.mono fun e w'' he => ?_))⟩
      cases e <;> first | exact hk _ _ he | exact he
    case row =>
      refine ⟨fun hh => (by cases hh), fun c cs _ => ?_⟩
      obtain ⟨v, w2, h1, h2⟩ := h c cs
      exact ⟨v, w2, hk _ _ h1, stepsIn_wide.2 h2⟩
    all_goals exact h.elim
  | halt x w' => cases x <;> simp only [Oper.upon] at h <;> simp only [Oper.uponIn] <;> exact h

theorem wpOp_round {i : Nat} {a : Act} {w : World} {K K' : Act → World → Prop} (hd : noDefer ops = true) (hQ : ¬ LetsOut Q) (hk : ∀ a w, K a w → K' a w) (h : wpOp P ops Q i K a w) : wpOpIn (Fence.wide.inRound l) n P ops Q i K' a w := by
  unfold wpOp at h
  unfold wpOpIn
  split
  · rename_i ho; simp only [ho] at h; exact hk _ _ h
  · rename_i o ho
    simp only [ho] at h
    split
    · rename_i hw
      rw [if_pos hw] at h
      rcases h with h | h
      · exact oper_round (noDefer_spec hd ho) hk h
      · exact absurd h.2 hQ
    · rename_i hw
      rw [if_neg hw] at h
      exact ⟨fun _ _ => trivial, hk _ _ h⟩

theorem wpAny_round (hd : noDefer ops = true) (hQ : ¬ LetsOut Q) : ∀ (fuel : Nat) (listed : Array Bool) (a : Act) (w : World), wpAny P md ops Q fuel listed a w → wpAnyIn (Fence.wide.inRound l) n P md ops Q fuel listed a w
  | 0, _, _, _, h => h
  | fuel + 1, _, _, _, h => ⟨h.1, fun i hi => wpOp_round hd hQ (fun a' w' hk => wpAny_round hd hQ fuel _ a' w' hk) (h.2 i hi)⟩

/-- All of the region quiet in the class. -/
theorem wpIn_region_round {C : World → Prop} {id : Nat} {a : Act} {w : World} {lst : List Oper} (hm : P.follows .mixedOrders = true) (hd : noDefer lst.toArray = true) (hQ : ¬ LetsOut Q) (hB : Region.lexB .any lst.toArray = true) (hC : C w.drew)
    (h : wpQuiet P lst.toArray C (fun a' => ∀ w', C w' → Q .normal a' w') lst a) : (Code.region id lst.toArray true).wpIn (Fence.wide.inRound l) n P Q a w := by
  refine wpIn_region_any hm (wpAny_round hd hQ _ _ _ _ ?_)
  simp only [Region.lexB, Bool.and_eq_true] at hB
  refine wpAny_of_quiet (C := C) (Q := fun a' => ∀ w', C w' → Q .normal a' w') (fun _ w' hw' h => h w' hw') _ _ _ _ hC ?_
  have := wpAnyQ_lex (C := C) (md := .any) hB.1 lst 0 (Array.replicate lst.length false) a (by simp) (by simpa using hB.2) h
  simpa using this

theorem letsOut_lastQ {k : List Oper} {o : Oper} (h : ¬ LetsOut Q) : ¬ LetsOut (LastQ P k o Q) := fun hh => h (letsOut_last hh)

theorem agree_start (k : List Oper) : Agree k (Array.replicate (k.length + 1) false) (Array.replicate k.length false) :=
  ⟨by simp, by simp, by simp, fun j hj => by simp [hj, Nat.lt_succ_of_lt hj]⟩

/-- One more operation of the tail. -/
theorem wpAny_snoc' {k : List Oper} {o : Oper} {a : Act} {w : World} {N : Nat} (hN : N = k.length + 1) (hs : snocB md k o = true) (h : wpAny P md k.toArray (LastQ P k o Q) k.length (Array.replicate k.length false) a w) :
    wpAny P md (k ++ [o]).toArray Q N (Array.replicate N false) a w := by
  subst hN
  exact wpAny_snoc hs k.length _ _ a w (agree_start k) h

/-- The head of a region, quiet in the class. -/
theorem wpAny_head {C : World → Prop} {a : Act} {w : World} {k : List Oper} (hB : Region.lexB .any k.toArray = true) (hC : C w) (h : wpQuiet P k.toArray C (fun a' => ∀ w', C w' → Q .normal a' w') k a) :
    wpAny P .any k.toArray Q k.length (Array.replicate k.length false) a w := by
  simp only [Region.lexB, Bool.and_eq_true] at hB
  refine wpAny_of_quiet (C := C) (Q := fun a' => ∀ w', C w' → Q .normal a' w') (fun _ w' hw' h => h w' hw') _ _ _ _ hC ?_
  have := wpAnyQ_lex (C := C) (md := .any) hB.1 k 0 (Array.replicate k.length false) a (by simp) (by simpa using hB.2) h
  simpa using this

/-- A head and a tail of five operations that come up in the order of the text. -/
theorem wpIn_region_tail5 {C : World → Prop} {id : Nat} {a : Act} {w : World} {k : List Oper} {o1 o2 o3 o4 o5 : Oper} (hm : P.follows .mixedOrders = true) (hd : noDefer (k ++ [o1] ++ [o2] ++ [o3] ++ [o4] ++ [o5]).toArray = true) (hQ : ¬ LetsOut Q)
    (h1 : snocB .any k o1 = true) (h2 : snocB .any (k ++ [o1]) o2 = true) (h3 : snocB .any (k ++ [o1] ++ [o2]) o3 = true) (h4 : snocB .any (k ++ [o1] ++ [o2] ++ [o3]) o4 = true) (h5 : snocB .any (k ++ [o1] ++ [o2] ++ [o3] ++ [o4]) o5 = true)
    (hB : Region.lexB .any k.toArray = true) (hC : C w.drew)
    (h : wpQuiet P k.toArray C (fun a' => ∀ w', C w' → wpList P (k ++ [o1]).toArray (LastQ P (k ++ [o1]) o2 (LastQ P (k ++ [o1] ++ [o2]) o3 (LastQ P (k ++ [o1] ++ [o2] ++ [o3]) o4 (LastQ P (k ++ [o1] ++ [o2] ++ [o3] ++ [o4]) o5 Q)))) [o1] a' w') k a) :
    (Code.region id (k ++ [o1] ++ [o2] ++ [o3] ++ [o4] ++ [o5]).toArray true).wpIn (Fence.wide.inRound l) n P Q a w := by
  refine wpIn_region_any hm (wpAny_round hd hQ _ _ _ _ ?_)
  refine wpAny_snoc' (by simp) h5 ?_
  refine wpAny_snoc' (by simp) h4 ?_
  refine wpAny_snoc' (by simp) h3 ?_
  refine wpAny_snoc' (by simp) h2 ?_
  refine wpAny_snoc' (by simp) h1 ?_
  exact wpAny_head hB hC h
theorem lastQ_normal {k : List Oper} {o : Oper} {a : Act} {w : World} : LastQ P k o Q .normal a w = wpList P (k ++ [o]).toArray Q [o] a w := rfl
theorem wpIn_region_tail5' {C : World → Prop} {id : Nat} {a : Act} {w : World} {ops k : List Oper} {o1 o2 o3 o4 o5 : Oper} (ho : ops = k ++ [o1] ++ [o2] ++ [o3] ++ [o4] ++ [o5]) (hm : P.follows .mixedOrders = true) (hd : noDefer ops.toArray = true) (hQ : ¬ LetsOut Q)
    (h1 : snocB .any k o1 = true) (h2 : snocB .any (k ++ [o1]) o2 = true) (h3 : snocB .any (k ++ [o1] ++ [o2]) o3 = true) (h4 : snocB .any (k ++ [o1] ++ [o2] ++ [o3]) o4 = true) (h5 : snocB .any (k ++ [o1] ++ [o2] ++ [o3] ++ [o4]) o5 = true)
    (hB : Region.lexB .any k.toArray = true) (hC : C w.drew)
    (h : wpQuiet P k.toArray C (fun a' => ∀ w', C w' → wpList P (k ++ [o1]).toArray (LastQ P (k ++ [o1]) o2 (LastQ P (k ++ [o1] ++ [o2]) o3 (LastQ P (k ++ [o1] ++ [o2] ++ [o3]) o4 (LastQ P (k ++ [o1] ++ [o2] ++ [o3] ++ [o4]) o5 Q)))) [o1] a' w') k a) :
    (Code.region id ops.toArray true).wpIn (Fence.wide.inRound l) n P Q a w := by
  subst ho
  exact wpIn_region_tail5 hm hd hQ h1 h2 h3 h4 h5 hB hC h
end

end Go.Proofs.Ytcpefolhohakmaa

/- A region that draws its order and whose stores may come up among its reads: a class of worlds that depends on what has come up. -/
namespace Go.Proofs.Ytcpefolhohakmaa
open Go.RowKit

section
variable {P : Program} {ops : Array Oper} {md : Region.Mode} {C : Array Bool → World → Prop}

/-- Operation i reads alone, or stores: in every world of the class it yields v, and the class goes on. -/
def YL (P : Program) (ops : Array Oper) (C : Array Bool → World → Prop) (i : Nat) (o : Oper) (v : Value) (a : Act) : Prop :=
  Region.wanted o (yielded ops a.tmps) = true ∧ ∀ L w, C L w → ∃ w', ((execOp a.eval o).run P w = .ok (.value v) w' ∨ (v = undef ∧ (execOp a.eval o).run P w = .ok .skip w')) ∧ C (L.setIfInBounds i true) w'

def anyL (P : Program) (md : Region.Mode) (ops : Array Oper) (C : Array Bool → World → Prop) (Q : Act → Prop) : Nat → Array Bool → Act → Prop
  | 0, L, a => Region.ready md ops L = [] ∧ Q a
  | fuel + 1, L, a => (Region.ready md ops L = [] → Q a) ∧ ∀ i ∈ Region.ready md ops L, ∃ o v, ops[i]? = some o ∧ YL P ops C i o v a ∧ anyL P md ops C Q fuel (L.setIfInBounds i true) (a.put o.dst v)

theorem wpAny_of_anyL {Q : Act → Prop} {Q' : Exit → Act → World → Prop} (hQ : ∀ L a w, Region.ready md ops L = [] → C L w → Q a → Q' .normal a w) :
    ∀ (fuel : Nat) (L : Array Bool) (a : Act) (w : World), C L w → anyL P md ops C Q fuel L a → wpAny P md ops Q' fuel L a w
  | 0, _, _, _, hC, h => ⟨h.1, hQ _ _ _ h.1 hC h.2⟩
  | fuel + 1, L, a, w, hC, h => by
    refine ⟨fun he => hQ _ _ _ he hC (h.1 he), fun i hi => ?_⟩
    obtain ⟨o, v, ho, ⟨hw, hy⟩, hn⟩ := h.2 i hi
    obtain ⟨w', hr, hC'⟩ := hy L w hC
    unfold wpOp
    rw [ho]
    dsimp only
    rw [if_pos hw]
    left
    unfold Oper.wp
    rcases hr with hr | ⟨rfl, hr⟩
    · rw [hr]; exact wpAny_of_anyL hQ fuel _ _ _ hC' hn
    · rw [hr]; exact wpAny_of_anyL hQ fuel _ _ _ hC' hn

theorem YL.same {i : Nat} {o : Oper} {v : Value} {a a' : Act} (hy : YL P ops C i o v a) (he : execOp a'.eval o = execOp a.eval o) (hw : Region.wanted o (yielded ops a'.tmps) = Region.wanted o (yielded ops a.tmps)) : YL P ops C i o v a' := by
  unfold YL at *
  rw [he, hw]
  exact hy

theorem anyL_first {Q : Act → Prop} {i : Nat} {oi : Oper} {v : Value} (hi : ops[i]? = some oi) (hsel : ∀ (j : Nat) (o : Oper) cs b, ops[j]? = some o → o.op ≠ .select cs b) : ∀ (fuel : Nat) (L : Array Bool) (a : Act),
    (∀ j oj, ops[j]? = some oj → j ≠ i → L.getD j true = false → (∀ e ∈ oj.after, Region.binds md e = true → e.on ≠ i) → oi.apart ops oj = true) →
    i ∈ Region.ready md ops L → YL P ops C i oi v a → anyL P md ops C Q fuel (L.setIfInBounds i true) (a.put oi.dst v) → anyL P md ops C Q (fuel + 1) L a := by
  intro fuel
  induction fuel with
  | zero =>
    intro L a _ hr hy H
    refine ⟨fun he => (by rw [he] at hr; cases hr), fun j hj => ?_⟩
    by_cases hji : j = i
    · subst hji; exact ⟨oi, v, hi, hy, H⟩
    · have := ready_mono hj hji
      rw [H.1] at this
      cases this
  | succ fuel ih =>
    intro L a hfree hr hy H
    refine ⟨fun he => (by rw [he] at hr; cases hr), fun j hj => ?_⟩
    by_cases hji : j = i
    · subst hji; exact ⟨oi, v, hi, hy, H⟩
    · obtain ⟨oj, u, hoj, hyj, hn⟩ := H.2 j (ready_mono hj hji)
      obtain ⟨hjun, oj', hoj', hall⟩ := mem_ready.1 hj
      have hio := (mem_ready.1 hr).1
      have hwait : ∀ e ∈ oj.after, Region.binds md e = true → e.on ≠ i := fun e he hb heq => by
        rw [hoj] at hoj'
        cases hoj'
        have h1 := hall e he hb
        rw [heq] at h1
        rw [Array.getD_eq_getD_getElem?] at h1 hio
        cases hx : L[i]? with
        | none => rw [hx] at h1; cases h1
        | some z => rw [hx] at h1 hio; simp at h1 hio; rw [h1] at hio; cases hio
      obtain ⟨a1, a2, a3⟩ := Oper.apart_spec (hfree j oj hoj hji hjun hwait)
      have hyj' : YL P ops C j oj u a := hyj.same (execOp_put oj (fun cs b => hsel j oj cs b hoj) a oi.dst v a1).symm (wanted_put oj a oi.dst v a1).symm
      have hyi' : YL P ops C i oi v (a.put oj.dst u) := hy.same (execOp_put oi (fun cs b => hsel i oi cs b hi) a oj.dst u a3) (wanted_put oi a oj.dst u a3)
      refine ⟨oj, u, hoj, hyj', ih _ _ (fun k ok hk hki hun hno => ?_) (ready_mono hr (Ne.symm hji)) hyi' ?_⟩
      · refine hfree k ok hk hki ?_ hno
        by_cases hjk : j = k
        · subst hjk; exact hjun
        · rw [Go.getD_set_ne true hjk] at hun; exact hun
      · rw [Array.setIfInBounds_comm _ _ hji, ← Act.put_comm a v u a2]
        exact hn

/-- The walk in the order of the text. -/
def lexL (P : Program) (ops : Array Oper) (C : Array Bool → World → Prop) (Q : Act → Prop) : List Oper → Nat → Act → Prop
  | [], _, a => Q a
  | o :: rest, k, a => ∃ v, YL P ops C k o v a ∧ lexL P ops C Q rest (k + 1) (a.put o.dst v)

theorem anyL_lex {Q : Act → Prop} (hs : Region.noSelect ops = true) : ∀ (l : List Oper) (k : Nat) (L : Array Bool) (a : Act), (∀ j, l[j]? = ops[k + j]?) → Region.lexFrom md ops l.length k L = true → lexL P ops C Q l k a → anyL P md ops C Q l.length L a
  | [], _, _, _, _, hB, h => ⟨by simpa [Region.lexFrom] using hB, h⟩
  | o :: l, k, L, a, hl, hB, h => by
    have h0 : ops[k]? = some o := by simpa using (hl 0).symm
    simp only [List.length_cons, Region.lexFrom, Bool.and_eq_true] at hB
    obtain ⟨⟨hr, hf⟩, hB'⟩ := hB
    obtain ⟨v, hy, hK⟩ := h
    exact anyL_first h0 (Region.noSelect_spec hs) l.length L a (Region.free_spec h0 hf) (by simpa using hr) hy
      (anyL_lex hs l (k + 1) _ _ (fun j => by have := hl (j + 1); simpa [Nat.add_assoc, Nat.add_comm 1 j] using this) hB' hK)

/-- A world of the class. -/
structure SubL (C : Array Bool → World → Prop) where
  L : Array Bool
  w : World
  h : C L w

theorem lexL_read {Q : Act → Prop} {o : Oper} {rest : List Oper} {k : Nat} {a : Act} (hm : ∀ L w, C L w → C (L.setIfInBounds k true) w)
    (h : ∀ K : Act → Prop, (∀ a, lexL P ops C Q rest (k + 1) a → K a) → Region.wanted o (yielded ops a.tmps) = true ∧ ∃ v, (∀ x : SubL C, (execOp a.eval o).run P x.w = .ok (.value v) x.w) ∧ K (a.put o.dst v)) : lexL P ops C Q (o :: rest) k a := by
  obtain ⟨hw, v, h1, h2⟩ := h _ (fun _ h => h)
  exact ⟨v, ⟨hw, fun L w hC => ⟨w, .inl (h1 ⟨L, w, hC⟩), hm L w hC⟩⟩, h2⟩
theorem lexL_store {Q : Act → Prop} {o : Oper} {rest : List Oper} {k : Nat} {a : Act} (p : Addr) (u : Value) (hm : ∀ L w, C L w → C (L.setIfInBounds k true) (w.setCell p u))
    (h : ∀ K : Act → Prop, (∀ a, lexL P ops C Q rest (k + 1) a → K a) → Region.wanted o (yielded ops a.tmps) = true ∧ (∀ x : SubL C, (execOp a.eval o).run P x.w = .ok .skip (x.w.setCell p u)) ∧ K (a.put o.dst undef)) : lexL P ops C Q (o :: rest) k a := by
  obtain ⟨hw, h1, h2⟩ := h _ (fun _ h => h)
  exact ⟨undef, ⟨hw, fun L w hC => ⟨_, .inr ⟨rfl, h1 ⟨L, w, hC⟩⟩, hm L w hC⟩⟩, h2⟩

/-- Edges that bind point back. -/
def backB (md : Region.Mode) (ops : Array Oper) : Bool := (List.range ops.size).all fun j => match ops[j]? with
  | some oj => oj.after.all (fun e => !Region.binds md e || decide (e.on < j))
  | none => true
theorem back_all {L : Array Bool} (hsz : L.size = ops.size) (hb : backB md ops = true) (hr : Region.ready md ops L = []) : ∀ j, j < ops.size → L.getD j false = true := by
  intro j
  induction j using Nat.strongRecOn with
  | _ j ih =>
    intro hj
    have hoj : ops[j]? = some ops[j] := by simp [hj]
    cases hd : L.getD j false with
    | true => rfl
    | false =>
      exfalso
      have hno : j ∉ Region.ready md ops L := by rw [hr]; simp
      apply hno
      rw [mem_ready]
      refine ⟨?_, ops[j], hoj, fun e he hbd => ?_⟩
      · rw [Array.getD_eq_getD_getElem?] at hd ⊢
        have hx : L[j]? = some (L[j]'(by omega)) := by simp [show j < L.size by omega]
        rw [hx] at hd ⊢
        simpa using hd
      · have h1 := List.all_eq_true.1 hb j (List.mem_range.2 hj)
        rw [hoj] at h1
        have h2 := Array.all_eq_true_iff_forall_mem.1 h1 e he
        rw [hbd] at h2
        have hlt : e.on < j := by simpa using h2
        exact ih _ hlt (by omega)

/-- The region within a round; the class tells the size of what is listed. -/
theorem wpIn_region_lex {Q : Exit → Act → World → Prop} {id l n : Nat} {a : Act} {w : World} {lst : List Oper} (hm : P.follows .mixedOrders = true) (hd : noDefer lst.toArray = true) (hQ : ¬ LetsOut Q) (hB : Region.lexB .any lst.toArray = true) (hb : backB .any lst.toArray = true)
    (hsz : ∀ L w, C L w → L.size = lst.length) (hC : C (Array.replicate lst.length false) w.drew)
    (h : lexL P lst.toArray C (fun a' => ∀ L w', (∀ j, j < lst.length → L.getD j false = true) → C L w' → Q .normal a' w') lst 0 a) : (Code.region id lst.toArray true).wpIn (Fence.wide.inRound l) n P Q a w := by
  refine wpIn_region_any hm (wpAny_round hd hQ _ _ _ _ ?_)
  simp only [Region.lexB, Bool.and_eq_true] at hB
  refine wpAny_of_anyL (C := C) (Q := fun a' => ∀ L w', (∀ j, j < lst.length → L.getD j false = true) → C L w' → Q .normal a' w') (fun L a' w' he hC' h => h L w' (fun j hj => back_all (by simpa using hsz L w' hC') hb he j (by simpa using hj)) hC') _ _ _ _ (by simpa using hC) ?_
  have := anyL_lex (C := C) (md := .any) hB.1 lst 0 (Array.replicate lst.length false) a (by simp) (by simpa using hB.2) h
  simpa using this
end

end Go.Proofs.Ytcpefolhohakmaa

/- A region that draws its order, some of whose operations move the world (calls, above all): reads are taken as early as they may come, a mover where nothing else can come up. -/
namespace Go.Proofs.Ytcpefolhohakmaa
open Go.RowKit

/-- An operation, carried out, hands back v and leaves w' with R v w'. -/
def givesUpon (P : Program) (R : Value → World → Prop) : Result Next → Prop
  | .ok (.value u) w' => R u w'
  | .ok .skip w' => R undef w'
  | .ok (.enter f args) w' => Calls P f args w' (fun e w'' => ∃ v, e = .returned v ∧ R v w'')
  | _ => False
def gives (P : Program) (o : Oper) (a : Act) (w : World) (R : Value → World → Prop) : Prop := givesUpon P R ((execOp a.eval o).run P w)
theorem gives_mono {P : Program} {o : Oper} {a : Act} {w : World} {R R' : Value → World → Prop} (h : ∀ v w', R v w' → R' v w') (hg : gives P o a w R) : gives P o a w R' := by
  unfold gives at *
  generalize (execOp a.eval o).run P w = r at *
  cases r with
  | ok n w' =>
    cases n <;> simp only [givesUpon] at hg ⊢
    case value u => exact h _ _ hg
    case skip => exact h _ _ hg
    case enter f args => exact hg.mono fun e w'' ⟨v, he, hr⟩ => ⟨v, he, h _ _ hr⟩
  | halt x w' => simp only [givesUpon] at hg
/-- It only reads, and hands back v. -/
def readUpon (w : World) (v : Value) : Result Next → Prop
  | .ok (.value u) w' => w' = w ∧ u = v
  | .ok .skip w' => w' = w ∧ v = undef
  | _ => False
def reads (P : Program) (o : Oper) (a : Act) (w : World) (next : Act → Prop) : Prop := ∃ v, (∀ x : Sub w, readUpon x.w v ((execOp a.eval o).run P x.w)) ∧ next (a.put o.dst v)

section
variable {P : Program} {ops : Array Oper} {md : Region.Mode}

def YR (P : Program) (ops : Array Oper) (o : Oper) (v : Value) (a : Act) (w : World) : Prop :=
  (Region.wanted o (yielded ops a.tmps) = true ∧ ∀ x : Sub w, readUpon x.w v ((execOp a.eval o).run P x.w)) ∨ (Region.wanted o (yielded ops a.tmps) = false ∧ v = undef)
theorem YR.same {o : Oper} {v : Value} {a a' : Act} {w : World} (hy : YR P ops o v a w) (he : execOp a'.eval o = execOp a.eval o) (hw : Region.wanted o (yielded ops a'.tmps) = Region.wanted o (yielded ops a.tmps)) : YR P ops o v a' w := by
  unfold YR at *
  rw [he, hw]
  exact hy
theorem YR.later {o : Oper} {v : Value} {a : Act} {w w' : World} (hy : YR P ops o v a w) (hb : Below w.heap.size w w') : YR P ops o v a w' := by
  rcases hy with ⟨h1, h2⟩ | h
  · exact .inl ⟨h1, fun x => h2 ⟨x.w, hb.trans (x.b.mono hb.size)⟩⟩
  · exact .inr h

def anyS (P : Program) (md : Region.Mode) (ops : Array Oper) (Q : Act → World → Prop) : Nat → Array Bool → Act → World → Prop
  | 0, L, a, w => Region.ready md ops L = [] ∧ Q a w
  | fuel + 1, L, a, w => (Region.ready md ops L = [] → Q a w) ∧ ∀ i ∈ Region.ready md ops L, ∃ o, ops[i]? = some o ∧
      ((∃ v, YR P ops o v a w ∧ anyS P md ops Q fuel (L.setIfInBounds i true) (a.put o.dst v) w) ∨
       (Region.wanted o (yielded ops a.tmps) = true ∧ gives P o a w fun v w' => Below w.heap.size w w' ∧ anyS P md ops Q fuel (L.setIfInBounds i true) (a.put o.dst v) w'))

theorem wpAny_of_anyS {Q : Act → World → Prop} {Q' : Exit → Act → World → Prop} (hQ : ∀ a w, Q a w → Q' .normal a w) :
    ∀ (fuel : Nat) (L : Array Bool) (a : Act) (w : World), anyS P md ops Q fuel L a w → wpAny P md ops Q' fuel L a w
  | 0, _, _, _, h => ⟨h.1, hQ _ _ h.2⟩
  | fuel + 1, L, a, w, h => by
    refine ⟨fun he => hQ _ _ (h.1 he), fun i hi => ?_⟩
    obtain ⟨o, ho, hc⟩ := h.2 i hi
    unfold wpOp
    rw [ho]
    dsimp only
    rcases hc with ⟨v, ⟨hw, hy⟩ | ⟨hw, rfl⟩, hn⟩ | ⟨hw, hg⟩
    · rw [if_pos hw]
      left
      unfold Oper.wp
      have hy := hy ⟨w, Below.refl _ w⟩
      dsimp only at hy
      generalize (execOp a.eval o).run P w = r at *
      cases r with
      | ok n w' =>
        cases n <;> simp only [readUpon] at hy <;> simp only [Oper.upon]
        case value u => obtain ⟨rfl, rfl⟩ := hy; exact wpAny_of_anyS hQ fuel _ _ _ hn
        case skip => obtain ⟨rfl, rfl⟩ := hy; exact wpAny_of_anyS hQ fuel _ _ _ hn
      | halt x w' => simp only [readUpon] at hy
    · rw [if_neg (by rw [hw]; decide)]
      exact wpAny_of_anyS hQ fuel _ _ _ hn
    · rw [if_pos hw]
      left
      unfold Oper.wp
      unfold gives at hg
      generalize (execOp a.eval o).run P w = r at *
      cases r with
      | ok n w' =>
        cases n <;> simp only [givesUpon] at hg <;> simp only [Oper.upon]
        case value u => exact wpAny_of_anyS hQ fuel _ _ _ hg.2
        case skip => exact wpAny_of_anyS hQ fuel _ _ _ hg.2
        case enter f args => exact hg.mono fun e w'' ⟨v, he, hr⟩ => by subst he; exact wpAny_of_anyS hQ fuel _ _ _ hr.2
      | halt x w' => simp only [givesUpon] at hg

theorem anyS_read {Q : Act → World → Prop} {i : Nat} {oi : Oper} {v : Value} (hi : ops[i]? = some oi) (hsel : ∀ (j : Nat) (o : Oper) cs b, ops[j]? = some o → o.op ≠ .select cs b) : ∀ (fuel : Nat) (L : Array Bool) (a : Act) (w : World),
    (∀ j oj, ops[j]? = some oj → j ≠ i → L.getD j true = false → (∀ e ∈ oj.after, Region.binds md e = true → e.on ≠ i) → oi.apart ops oj = true) →
    i ∈ Region.ready md ops L → YR P ops oi v a w → anyS P md ops Q fuel (L.setIfInBounds i true) (a.put oi.dst v) w → anyS P md ops Q (fuel + 1) L a w := by
  intro fuel
  induction fuel with
  | zero =>
    intro L a w _ hr hy H
    refine ⟨fun he => (by rw [he] at hr; cases hr), fun j hj => ?_⟩
    by_cases hji : j = i
    · subst hji; exact ⟨oi, hi, .inl ⟨v, hy, H⟩⟩
    · have := ready_mono hj hji
      rw [H.1] at this
      cases this
  | succ fuel ih =>
    intro L a w hfree hr hy H
    refine ⟨fun he => (by rw [he] at hr; cases hr), fun j hj => ?_⟩
    by_cases hji : j = i
    · subst hji; exact ⟨oi, hi, .inl ⟨v, hy, H⟩⟩
    · obtain ⟨oj, hoj, hc⟩ := H.2 j (ready_mono hj hji)
      obtain ⟨hjun, oj', hoj', hall⟩ := mem_ready.1 hj
      have hio := (mem_ready.1 hr).1
      have hwait : ∀ e ∈ oj.after, Region.binds md e = true → e.on ≠ i := fun e he hb heq => by
        rw [hoj] at hoj'
        cases hoj'
        have h1 := hall e he hb
        rw [heq] at h1
        rw [Array.getD_eq_getD_getElem?] at h1 hio
        cases hx : L[i]? with
        | none => rw [hx] at h1; cases h1
        | some z => rw [hx] at h1 hio; simp at h1 hio; rw [h1] at hio; cases hio
      obtain ⟨a1, a2, a3⟩ := Oper.apart_spec (hfree j oj hoj hji hjun hwait)
      have hyi' : ∀ u, YR P ops oi v (a.put oj.dst u) w := fun u => hy.same (execOp_put oi (fun cs b => hsel i oi cs b hi) a oj.dst u a3) (wanted_put oi a oj.dst u a3)
      have hfree' : ∀ k ok, ops[k]? = some ok → k ≠ i → (L.setIfInBounds j true).getD k true = false → (∀ e ∈ ok.after, Region.binds md e = true → e.on ≠ i) → oi.apart ops ok = true := fun k ok hk hki hun hno => by
        refine hfree k ok hk hki ?_ hno
        by_cases hjk : j = k
        · subst hjk; exact hjun
        · rw [Go.getD_set_ne true hjk] at hun; exact hun
      have he := execOp_put oj (fun cs b => hsel j oj cs b hoj) a oi.dst v a1
      have hw := wanted_put oj a oi.dst v a1
      rcases hc with ⟨u, hyj, hn⟩ | ⟨hwj, hg⟩
      · refine ⟨oj, hoj, .inl ⟨u, hyj.same he.symm hw.symm, ih _ _ _ hfree' (ready_mono hr (Ne.symm hji)) (hyi' u) ?_⟩⟩
        rw [Array.setIfInBounds_comm _ _ hji, ← Act.put_comm a v u a2]
        exact hn
      · rw [hw] at hwj
        refine ⟨oj, hoj, .inr ⟨hwj, ?_⟩⟩
        unfold gives at hg ⊢
        rw [he] at hg
        refine gives_mono (o := oj) (a := a) (fun u w' hr' => ⟨hr'.1, ih _ _ _ hfree' (ready_mono hr (Ne.symm hji)) ((hyi' u).later hr'.1) ?_⟩) hg
        rw [Array.setIfInBounds_comm _ _ hji, ← Act.put_comm a v u a2]
        exact hr'.2

theorem anyS_move {Q : Act → World → Prop} {i : Nat} {oi : Oper} (hi : ops[i]? = some oi) {fuel : Nat} {L : Array Bool} {a : Act} {w : World} (hr : Region.ready md ops L = [i]) (hw : Region.wanted oi (yielded ops a.tmps) = true)
    (h : gives P oi a w fun v w' => Below w.heap.size w w' ∧ anyS P md ops Q fuel (L.setIfInBounds i true) (a.put oi.dst v) w') : anyS P md ops Q (fuel + 1) L a w := by
  refine ⟨fun he => (by rw [he] at hr; cases hr), fun j hj => ?_⟩
  rw [hr] at hj
  obtain rfl : j = i := by simpa using hj
  exact ⟨oi, hi, .inr ⟨hw, h⟩⟩
theorem anyS_skip {Q : Act → World → Prop} {i : Nat} {oi : Oper} (hi : ops[i]? = some oi) {fuel : Nat} {L : Array Bool} {a : Act} {w : World} (hr : Region.ready md ops L = [i]) (hw : Region.wanted oi (yielded ops a.tmps) = false)
    (h : anyS P md ops Q fuel (L.setIfInBounds i true) (a.put oi.dst undef) w) : anyS P md ops Q (fuel + 1) L a w := by
  refine ⟨fun he => (by rw [he] at hr; cases hr), fun j hj => ?_⟩
  rw [hr] at hj
  obtain rfl : j = i := by simpa using hj
  exact ⟨oi, hi, .inl ⟨undef, .inr ⟨hw, rfl⟩, h⟩⟩

/-- The order in which the walk goes: true: a mover, at a place where it alone can come up. -/
def planFrom (md : Region.Mode) (ops : Array Oper) : List (Nat × Bool) → Array Bool → Bool
  | [], L => (Region.ready md ops L).isEmpty
  | (k, m) :: rest, L => (if m then Region.ready md ops L == [k] else (Region.ready md ops L).contains k && Region.free md ops L k) && planFrom md ops rest (L.setIfInBounds k true)
def planB (md : Region.Mode) (ops : Array Oper) (ord : List (Nat × Bool)) : Bool := Region.noSelect ops && planFrom md ops ord (Array.replicate ops.size false)

/-- The walk. -/
def seqS (P : Program) (ops : Array Oper) (Q : Act → World → Prop) : List (Oper × Bool) → Act → World → Prop
  | [], a, w => Q a w
  | (o, false) :: rest, a, w => if Region.wanted o (yielded ops a.tmps) then reads P o a w (fun a' => seqS P ops Q rest a' w) else seqS P ops Q rest (a.put o.dst undef) w
  | (o, true) :: rest, a, w => if Region.wanted o (yielded ops a.tmps) then gives P o a w (fun v w' => Below w.heap.size w w' ∧ seqS P ops Q rest (a.put o.dst v) w') else seqS P ops Q rest (a.put o.dst undef) w

theorem seqS_nil {Q : Act → World → Prop} {a : Act} {w : World} (h : Q a w) : seqS P ops Q [] a w := h
theorem seqS_read {Q : Act → World → Prop} {o : Oper} {rest : List (Oper × Bool)} {a : Act} {w : World}
    (h : ∀ K : Act → Prop, (∀ a', seqS P ops Q rest a' w → K a') → if Region.wanted o (yielded ops a.tmps) then reads P o a w K else K (a.put o.dst undef)) : seqS P ops Q ((o, false) :: rest) a w := h _ (fun _ h => h)
theorem seqS_call {Q : Act → World → Prop} {o : Oper} {rest : List (Oper × Bool)} {a : Act} {w : World}
    (h : ∀ K : Value → World → Prop, (∀ v w', Below w.heap.size w w' → seqS P ops Q rest (a.put o.dst v) w' → K v w') → Region.wanted o (yielded ops a.tmps) = true ∧ gives P o a w K) : seqS P ops Q ((o, true) :: rest) a w := by
  obtain ⟨h1, h2⟩ := h (fun v w' => Below w.heap.size w w' ∧ seqS P ops Q rest (a.put o.dst v) w') (fun v w' h1 h2 => ⟨h1, h2⟩)
  show if Region.wanted o (yielded ops a.tmps) then gives P o a w (fun v w' => Below w.heap.size w w' ∧ seqS P ops Q rest (a.put o.dst v) w') else seqS P ops Q rest (a.put o.dst undef) w
  rw [if_pos h1]
  exact h2
theorem seqS_skip {Q : Act → World → Prop} {o : Oper} {rest : List (Oper × Bool)} {a : Act} {w : World} (h1 : Region.wanted o (yielded ops a.tmps) = false) (h2 : seqS P ops Q rest (a.put o.dst undef) w) : seqS P ops Q ((o, true) :: rest) a w := by
  show if Region.wanted o (yielded ops a.tmps) then gives P o a w (fun v w' => Below w.heap.size w w' ∧ seqS P ops Q rest (a.put o.dst v) w') else seqS P ops Q rest (a.put o.dst undef) w
  rw [if_neg (by rw [h1]; decide)]
  exact h2

theorem seqS_skip2 {Q : Act → World → Prop} {o : Oper} {rest : List (Oper × Bool)} {a : Act} {w : World}
    (h : ∀ K : Act → Prop, (∀ a', seqS P ops Q rest a' w → K a') → Region.wanted o (yielded ops a.tmps) = false ∧ K (a.put o.dst undef)) : seqS P ops Q ((o, true) :: rest) a w :=
  seqS_skip (h (fun a' => seqS P ops Q rest a' w) (fun _ h => h)).1 (h (fun a' => seqS P ops Q rest a' w) (fun _ h => h)).2

theorem anyS_seq {Q : Act → World → Prop} (hs : Region.noSelect ops = true) : ∀ (ord : List (Nat × Bool)) (l : List (Oper × Bool)) (L : Array Bool) (a : Act) (w : World), ord.map (fun kb => (ops[kb.1]?, kb.2)) = l.map (fun ob => (some ob.1, ob.2)) →
    planFrom md ops ord L = true → seqS P ops Q l a w → anyS P md ops Q ord.length L a w
  | [], [], _, _, _, _, hB, h => ⟨by simpa [planFrom] using hB, h⟩
  | [], _ :: _, _, _, _, he, _, _ => by simp at he
  | _ :: _, [], _, _, _, he, _, _ => by simp at he
  | (k, m) :: ord, (o, m') :: l, L, a, w, he, hB, h => by
    simp only [List.map_cons, List.cons.injEq, Prod.mk.injEq] at he
    obtain ⟨⟨hk, rfl⟩, he⟩ := he
    simp only [planFrom, Bool.and_eq_true] at hB
    obtain ⟨hr, hB'⟩ := hB
    cases m with
    | false =>
      simp only [Bool.false_eq_true, if_false, Bool.and_eq_true] at hr
      obtain ⟨hr, hf⟩ := hr
      simp only [seqS] at h
      by_cases hw : Region.wanted o (yielded ops a.tmps) = true
      · rw [if_pos hw] at h
        obtain ⟨v, hv, hn⟩ := h
        exact anyS_read hk (Region.noSelect_spec hs) ord.length L a w (Region.free_spec hk hf) (by simpa using hr) (.inl ⟨hw, hv⟩) (anyS_seq hs ord l _ _ _ he hB' hn)
      · rw [if_neg hw] at h
        exact anyS_read hk (Region.noSelect_spec hs) ord.length L a w (Region.free_spec hk hf) (by simpa using hr) (.inr ⟨by simpa using hw, rfl⟩) (anyS_seq hs ord l _ _ _ he hB' h)
    | true =>
      simp only [if_true, beq_iff_eq] at hr
      simp only [seqS] at h
      by_cases hw : Region.wanted o (yielded ops a.tmps) = true
      · rw [if_pos hw] at h
        exact anyS_move hk hr hw (gives_mono (fun v w' hh => ⟨hh.1, anyS_seq hs ord l _ _ _ he hB' hh.2⟩) h)
      · rw [if_neg hw] at h
        exact anyS_skip hk hr (by simpa using hw) (anyS_seq hs ord l _ _ _ he hB' h)

/-- The region. -/
theorem wp_region_seq {Q : Exit → Act → World → Prop} {id : Nat} {a : Act} {w : World} {lst : List Oper} (ord : List (Nat × Bool)) (l : List (Oper × Bool)) (hm : P.follows .mixedOrders = true) (hl : ord.map (fun kb => (lst.toArray[kb.1]?, kb.2)) = l.map (fun ob => (some ob.1, ob.2))) (hn : ord.length = lst.length)
    (hB : planB .any lst.toArray ord = true) (h : seqS P lst.toArray (fun a' w' => Q .normal a' w') l a w.drew) : (Code.region id lst.toArray true).wp P Q a w := by
  simp only [planB, Bool.and_eq_true] at hB
  refine wp_region_any hm ?_
  have hsz : lst.toArray.size = ord.length := by rw [hn]; simp
  rw [hsz]
  refine wpAny_of_anyS (Q := fun a' w' => Q .normal a' w') (fun _ _ h => h) _ _ _ _ ?_
  have h2 := hB.2
  rw [hsz] at h2
  exact anyS_seq hB.1 ord l _ _ _ hl h2 h
/-- .. within a round of a range over a function. -/
theorem wpIn_region_seq {Q : Exit → Act → World → Prop} {id r n : Nat} {a : Act} {w : World} {lst : List Oper} (ord : List (Nat × Bool)) (l : List (Oper × Bool)) (hm : P.follows .mixedOrders = true) (hd : noDefer lst.toArray = true) (hQ : ¬ LetsOut Q) (hl : ord.map (fun kb => (lst.toArray[kb.1]?, kb.2)) = l.map (fun ob => (some ob.1, ob.2))) (hn : ord.length = lst.length)
    (hB : planB .any lst.toArray ord = true) (h : seqS P lst.toArray (fun a' w' => Q .normal a' w') l a w.drew) : (Code.region id lst.toArray true).wpIn (Fence.wide.inRound r) n P Q a w := by
  simp only [planB, Bool.and_eq_true] at hB
  refine wpIn_region_any hm (wpAny_round hd hQ _ _ _ _ ?_)
  have hsz : lst.toArray.size = ord.length := by rw [hn]; simp
  rw [hsz]
  refine wpAny_of_anyS (Q := fun a' w' => Q .normal a' w') (fun _ _ h => h) _ _ _ _ ?_
  have h2 := hB.2
  rw [hsz] at h2
  exact anyS_seq hB.1 ord l _ _ _ hl h2 h
end
attribute [go_sem] reads readUpon gives givesUpon

end Go.Proofs.Ytcpefolhohakmaa

/- Regions that draw their order, with movers: as Rk, the worlds that may come by a relation of one's own. -/
namespace Go.Proofs.Ytcpefolhohakmaa
open Go.RowKit

/-- Reflexive and transitive. -/
structure Pre (T : World → World → Prop) : Prop where
  refl : ∀ w, T w w
  trans : ∀ {a b c}, T a b → T b c → T a c
/-- The worlds that may come. -/
structure SubT (T : World → World → Prop) (W : World) where
  w : World
  b : T W w
def readsT (T : World → World → Prop) (P : Program) (o : Oper) (a : Act) (w : World) (next : Act → Prop) : Prop := ∃ v, (∀ x : SubT T w, readUpon x.w v ((execOp a.eval o).run P x.w)) ∧ next (a.put o.dst v)

section
variable {T : World → World → Prop} {P : Program} {ops : Array Oper} {md : Region.Mode}

def YRT (T : World → World → Prop) (P : Program) (ops : Array Oper) (o : Oper) (v : Value) (a : Act) (w : World) : Prop :=
  (Region.wanted o (yielded ops a.tmps) = true ∧ ∀ x : SubT T w, readUpon x.w v ((execOp a.eval o).run P x.w)) ∨ (Region.wanted o (yielded ops a.tmps) = false ∧ v = undef)
theorem YRT.same {o : Oper} {v : Value} {a a' : Act} {w : World} (hy : YRT T P ops o v a w) (he : execOp a'.eval o = execOp a.eval o) (hw : Region.wanted o (yielded ops a'.tmps) = Region.wanted o (yielded ops a.tmps)) : YRT T P ops o v a' w := by
  unfold YRT at *
  rw [he, hw]
  exact hy
theorem YRT.later (hT : Pre T) {o : Oper} {v : Value} {a : Act} {w w' : World} (hy : YRT T P ops o v a w) (hb : T w w') : YRT T P ops o v a w' := by
  rcases hy with ⟨h1, h2⟩ | h
  · exact .inl ⟨h1, fun x => h2 ⟨x.w, hT.trans hb x.b⟩⟩
  · exact .inr h

def anyST (T : World → World → Prop) (P : Program) (md : Region.Mode) (ops : Array Oper) (Q : Act → World → Prop) : Nat → Array Bool → Act → World → Prop
  | 0, L, a, w => Region.ready md ops L = [] ∧ Q a w
  | fuel + 1, L, a, w => (Region.ready md ops L = [] → Q a w) ∧ ∀ i ∈ Region.ready md ops L, ∃ o, ops[i]? = some o ∧
      ((∃ v, YRT T P ops o v a w ∧ anyST T P md ops Q fuel (L.setIfInBounds i true) (a.put o.dst v) w) ∨
       (Region.wanted o (yielded ops a.tmps) = true ∧ gives P o a w fun v w' => T w w' ∧ anyST T P md ops Q fuel (L.setIfInBounds i true) (a.put o.dst v) w'))

theorem wpAny_of_anyST (hT : Pre T) {Q : Act → World → Prop} {Q' : Exit → Act → World → Prop} (hQ : ∀ a w, Q a w → Q' .normal a w) :
    ∀ (fuel : Nat) (L : Array Bool) (a : Act) (w : World), anyST T P md ops Q fuel L a w → wpAny P md ops Q' fuel L a w
  | 0, _, _, _, h => ⟨h.1, hQ _ _ h.2⟩
  | fuel + 1, L, a, w, h => by
    refine ⟨fun he => hQ _ _ (h.1 he), fun i hi => ?_⟩
    obtain ⟨o, ho, hc⟩ := h.2 i hi
    unfold wpOp
    rw [ho]
    dsimp only
    rcases hc with ⟨v, ⟨hw, hy⟩ | ⟨hw, rfl⟩, hn⟩ | ⟨hw, hg⟩
    · rw [if_pos hw]
      left
      unfold Oper.wp
      have hy := hy ⟨w, hT.refl w⟩
      dsimp only at hy
      generalize (execOp a.eval o).run P w = r at *
      cases r with
      | ok n w' =>
        cases n <;> simp only [readUpon] at hy <;> simp only [Oper.upon]
        case value u => obtain ⟨rfl, rfl⟩ := hy; exact wpAny_of_anyST hT hQ fuel _ _ _ hn
        case skip => obtain ⟨rfl, rfl⟩ := hy; exact wpAny_of_anyST hT hQ fuel _ _ _ hn
      | halt x w' => simp only [readUpon] at hy
    · rw [if_neg (by rw [hw]; decide)]
      exact wpAny_of_anyST hT hQ fuel _ _ _ hn
    · rw [if_pos hw]
      left
      unfold Oper.wp
      unfold gives at hg
      generalize (execOp a.eval o).run P w = r at *
      cases r with
      | ok n w' =>
        cases n <;> simp only [givesUpon] at hg <;> simp only [Oper.upon]
        case value u => exact wpAny_of_anyST hT hQ fuel _ _ _ hg.2
        case skip => exact wpAny_of_anyST hT hQ fuel _ _ _ hg.2
        case enter f args => exact hg.mono fun e w'' ⟨v, he, hr⟩ => by subst he; exact wpAny_of_anyST hT hQ fuel _ _ _ hr.2
      | halt x w' => simp only [givesUpon] at hg

theorem anyS_readT (hT : Pre T) {Q : Act → World → Prop} {i : Nat} {oi : Oper} {v : Value} (hi : ops[i]? = some oi) (hsel : ∀ (j : Nat) (o : Oper) cs b, ops[j]? = some o → o.op ≠ .select cs b) : ∀ (fuel : Nat) (L : Array Bool) (a : Act) (w : World),
    (∀ j oj, ops[j]? = some oj → j ≠ i → L.getD j true = false → (∀ e ∈ oj.after, Region.binds md e = true → e.on ≠ i) → oi.apart ops oj = true) →
    i ∈ Region.ready md ops L → YRT T P ops oi v a w → anyST T P md ops Q fuel (L.setIfInBounds i true) (a.put oi.dst v) w → anyST T P md ops Q (fuel + 1) L a w := by
  intro fuel
  induction fuel with
  | zero =>
    intro L a w _ hr hy H
    refine ⟨fun he => (by rw [he] at hr; cases hr), fun j hj => ?_⟩
    by_cases hji : j = i
    · subst hji; exact ⟨oi, hi, .inl ⟨v, hy, H⟩⟩
    · have := ready_mono hj hji
      rw [H.1] at this
      cases this
  | succ fuel ih =>
    intro L a w hfree hr hy H
    refine ⟨fun he => (by rw [he] at hr; cases hr), fun j hj => ?_⟩
    by_cases hji : j = i
    · subst hji; exact ⟨oi, hi, .inl ⟨v, hy, H⟩⟩
    · obtain ⟨oj, hoj, hc⟩ := H.2 j (ready_mono hj hji)
      obtain ⟨hjun, oj', hoj', hall⟩ := mem_ready.1 hj
      have hio := (mem_ready.1 hr).1
      have hwait : ∀ e ∈ oj.after, Region.binds md e = true → e.on ≠ i := fun e he hb heq => by
        rw [hoj] at hoj'
        cases hoj'
        have h1 := hall e he hb
        rw [heq] at h1
        rw [Array.getD_eq_getD_getElem?] at h1 hio
        cases hx : L[i]? with
        | none => rw [hx] at h1; cases h1
        | some z => rw [hx] at h1 hio; simp at h1 hio; rw [h1] at hio; cases hio
      obtain ⟨a1, a2, a3⟩ := Oper.apart_spec (hfree j oj hoj hji hjun hwait)
      have hyi' : ∀ u, YRT T P ops oi v (a.put oj.dst u) w := fun u => hy.same (execOp_put oi (fun cs b => hsel i oi cs b hi) a oj.dst u a3) (wanted_put oi a oj.dst u a3)
      have hfree' : ∀ k ok, ops[k]? = some ok → k ≠ i → (L.setIfInBounds j true).getD k true = false → (∀ e ∈ ok.after, Region.binds md e = true → e.on ≠ i) → oi.apart ops ok = true := fun k ok hk hki hun hno => by
        refine hfree k ok hk hki ?_ hno
        by_cases hjk : j = k
        · subst hjk; exact hjun
        · rw [Go.getD_set_ne true hjk] at hun; exact hun
      have he := execOp_put oj (fun cs b => hsel j oj cs b hoj) a oi.dst v a1
      have hw := wanted_put oj a oi.dst v a1
      rcases hc with ⟨u, hyj, hn⟩ | ⟨hwj, hg⟩
      · refine ⟨oj, hoj, .inl ⟨u, hyj.same he.symm hw.symm, ih _ _ _ hfree' (ready_mono hr (Ne.symm hji)) (hyi' u) ?_⟩⟩
        rw [Array.setIfInBounds_comm _ _ hji, ← Act.put_comm a v u a2]
        exact hn
      · rw [hw] at hwj
        refine ⟨oj, hoj, .inr ⟨hwj, ?_⟩⟩
        unfold gives at hg ⊢
        rw [he] at hg
        refine gives_mono (o := oj) (a := a) (fun u w' hr' => ⟨hr'.1, ih _ _ _ hfree' (ready_mono hr (Ne.symm hji)) ((hyi' u).later hT hr'.1) ?_⟩) hg
        rw [Array.setIfInBounds_comm _ _ hji, ← Act.put_comm a v u a2]
        exact hr'.2

theorem anyS_moveT {Q : Act → World → Prop} {i : Nat} {oi : Oper} (hi : ops[i]? = some oi) {fuel : Nat} {L : Array Bool} {a : Act} {w : World} (hr : Region.ready md ops L = [i]) (hw : Region.wanted oi (yielded ops a.tmps) = true)
    (h : gives P oi a w fun v w' => T w w' ∧ anyST T P md ops Q fuel (L.setIfInBounds i true) (a.put oi.dst v) w') : anyST T P md ops Q (fuel + 1) L a w := by
  refine ⟨fun he => (by rw [he] at hr; cases hr), fun j hj => ?_⟩
  rw [hr] at hj
  obtain rfl : j = i := by simpa using hj
  exact ⟨oi, hi, .inr ⟨hw, h⟩⟩
theorem anyS_skipT {Q : Act → World → Prop} {i : Nat} {oi : Oper} (hi : ops[i]? = some oi) {fuel : Nat} {L : Array Bool} {a : Act} {w : World} (hr : Region.ready md ops L = [i]) (hw : Region.wanted oi (yielded ops a.tmps) = false)
    (h : anyST T P md ops Q fuel (L.setIfInBounds i true) (a.put oi.dst undef) w) : anyST T P md ops Q (fuel + 1) L a w := by
  refine ⟨fun he => (by rw [he] at hr; cases hr), fun j hj => ?_⟩
  rw [hr] at hj
  obtain rfl : j = i := by simpa using hj
  exact ⟨oi, hi, .inl ⟨undef, .inr ⟨hw, rfl⟩, h⟩⟩

/-- The walk. -/
def seqST (T : World → World → Prop) (P : Program) (ops : Array Oper) (Q : Act → World → Prop) : List (Oper × Bool) → Act → World → Prop
  | [], a, w => Q a w
  | (o, false) :: rest, a, w => if Region.wanted o (yielded ops a.tmps) then readsT T P o a w (fun a' => seqST T P ops Q rest a' w) else seqST T P ops Q rest (a.put o.dst undef) w
  | (o, true) :: rest, a, w => if Region.wanted o (yielded ops a.tmps) then gives P o a w (fun v w' => T w w' ∧ seqST T P ops Q rest (a.put o.dst v) w') else seqST T P ops Q rest (a.put o.dst undef) w

theorem seqS_nilT {Q : Act → World → Prop} {a : Act} {w : World} (h : Q a w) : seqST T P ops Q [] a w := h
theorem seqS_readT {Q : Act → World → Prop} {o : Oper} {rest : List (Oper × Bool)} {a : Act} {w : World}
    (h : ∀ K : Act → Prop, (∀ a', seqST T P ops Q rest a' w → K a') → if Region.wanted o (yielded ops a.tmps) then readsT T P o a w K else K (a.put o.dst undef)) : seqST T P ops Q ((o, false) :: rest) a w := h _ (fun _ h => h)
theorem seqS_callT {Q : Act → World → Prop} {o : Oper} {rest : List (Oper × Bool)} {a : Act} {w : World}
    (h : ∀ K : Value → World → Prop, (∀ v w', T w w' → seqST T P ops Q rest (a.put o.dst v) w' → K v w') → Region.wanted o (yielded ops a.tmps) = true ∧ gives P o a w K) : seqST T P ops Q ((o, true) :: rest) a w := by
  obtain ⟨h1, h2⟩ := h (fun v w' => T w w' ∧ seqST T P ops Q rest (a.put o.dst v) w') (fun v w' h1 h2 => ⟨h1, h2⟩)
  show if Region.wanted o (yielded ops a.tmps) then gives P o a w (fun v w' => T w w' ∧ seqST T P ops Q rest (a.put o.dst v) w') else seqST T P ops Q rest (a.put o.dst undef) w
  rw [if_pos h1]
  exact h2
theorem seqS_skipT {Q : Act → World → Prop} {o : Oper} {rest : List (Oper × Bool)} {a : Act} {w : World} (h1 : Region.wanted o (yielded ops a.tmps) = false) (h2 : seqST T P ops Q rest (a.put o.dst undef) w) : seqST T P ops Q ((o, true) :: rest) a w := by
  show if Region.wanted o (yielded ops a.tmps) then gives P o a w (fun v w' => T w w' ∧ seqST T P ops Q rest (a.put o.dst v) w') else seqST T P ops Q rest (a.put o.dst undef) w
  rw [if_neg (by rw [h1]; decide)]
  exact h2

theorem seqS_skip2T {Q : Act → World → Prop} {o : Oper} {rest : List (Oper × Bool)} {a : Act} {w : World}
    (h : ∀ K : Act → Prop, (∀ a', seqST T P ops Q rest a' w → K a') → Region.wanted o (yielded ops a.tmps) = false ∧ K (a.put o.dst undef)) : seqST T P ops Q ((o, true) :: rest) a w :=
  seqS_skipT (h (fun a' => seqST T P ops Q rest a' w) (fun _ h => h)).1 (h (fun a' => seqST T P ops Q rest a' w) (fun _ h => h)).2

theorem anyS_seqT (hT : Pre T) {Q : Act → World → Prop} (hs : Region.noSelect ops = true) : ∀ (ord : List (Nat × Bool)) (l : List (Oper × Bool)) (L : Array Bool) (a : Act) (w : World), ord.map (fun kb => (ops[kb.1]?, kb.2)) = l.map (fun ob => (some ob.1, ob.2)) →
    planFrom md ops ord L = true → seqST T P ops Q l a w → anyST T P md ops Q ord.length L a w
  | [], [], _, _, _, _, hB, h => ⟨by simpa [planFrom] using hB, h⟩
  | [], _ :: _, _, _, _, he, _, _ => by simp at he
  | _ :: _, [], _, _, _, he, _, _ => by simp at he
  | (k, m) :: ord, (o, m') :: l, L, a, w, he, hB, h => by
    simp only [List.map_cons, List.cons.injEq, Prod.mk.injEq] at he
    obtain ⟨⟨hk, rfl⟩, he⟩ := he
    simp only [planFrom, Bool.and_eq_true] at hB
    obtain ⟨hr, hB'⟩ := hB
    cases m with
    | false =>
      simp only [Bool.false_eq_true, if_false, Bool.and_eq_true] at hr
      obtain ⟨hr, hf⟩ := hr
      simp only [seqST] at h
      by_cases hw : Region.wanted o (yielded ops a.tmps) = true
      · rw [if_pos hw] at h
        obtain ⟨v, hv, hn⟩ := h
        exact anyS_readT hT hk (Region.noSelect_spec hs) ord.length L a w (Region.free_spec hk hf) (by simpa using hr) (.inl ⟨hw, hv⟩) (anyS_seqT hT hs ord l _ _ _ he hB' hn)
      · rw [if_neg hw] at h
        exact anyS_readT hT hk (Region.noSelect_spec hs) ord.length L a w (Region.free_spec hk hf) (by simpa using hr) (.inr ⟨by simpa using hw, rfl⟩) (anyS_seqT hT hs ord l _ _ _ he hB' h)
    | true =>
      simp only [if_true, beq_iff_eq] at hr
      simp only [seqST] at h
      by_cases hw : Region.wanted o (yielded ops a.tmps) = true
      · rw [if_pos hw] at h
        exact anyS_moveT hk hr hw (gives_mono (fun v w' hh => ⟨hh.1, anyS_seqT hT hs ord l _ _ _ he hB' hh.2⟩) h)
      · rw [if_neg hw] at h
        exact anyS_skipT hk hr (by simpa using hw) (anyS_seqT hT hs ord l _ _ _ he hB' h)

/-- The region. -/
theorem wp_region_seqT (hT : Pre T) {Q : Exit → Act → World → Prop} {id : Nat} {a : Act} {w : World} {lst : List Oper} (ord : List (Nat × Bool)) (l : List (Oper × Bool)) (hm : P.follows .mixedOrders = true) (hl : ord.map (fun kb => (lst.toArray[kb.1]?, kb.2)) = l.map (fun ob => (some ob.1, ob.2))) (hn : ord.length = lst.length)
    (hB : planB .any lst.toArray ord = true) (h : seqST T P lst.toArray (fun a' w' => Q .normal a' w') l a w.drew) : (Code.region id lst.toArray true).wp P Q a w := by
  simp only [planB, Bool.and_eq_true] at hB
  refine wp_region_any hm ?_
  have hsz : lst.toArray.size = ord.length := by rw [hn]; simp
  rw [hsz]
  refine wpAny_of_anyST hT (Q := fun a' w' => Q .normal a' w') (fun _ _ h => h) _ _ _ _ ?_
  have h2 := hB.2
  rw [hsz] at h2
  exact anyS_seqT hT hB.1 ord l _ _ _ hl h2 h
/-- .. within a round of a range over a function. -/
theorem wpIn_region_seqT (hT : Pre T) {Q : Exit → Act → World → Prop} {id r n : Nat} {a : Act} {w : World} {lst : List Oper} (ord : List (Nat × Bool)) (l : List (Oper × Bool)) (hm : P.follows .mixedOrders = true) (hd : noDefer lst.toArray = true) (hQ : ¬ LetsOut Q) (hl : ord.map (fun kb => (lst.toArray[kb.1]?, kb.2)) = l.map (fun ob => (some ob.1, ob.2))) (hn : ord.length = lst.length)
    (hB : planB .any lst.toArray ord = true) (h : seqST T P lst.toArray (fun a' w' => Q .normal a' w') l a w.drew) : (Code.region id lst.toArray true).wpIn (Fence.wide.inRound r) n P Q a w := by
  simp only [planB, Bool.and_eq_true] at hB
  refine wpIn_region_any hm (wpAny_round hd hQ _ _ _ _ ?_)
  have hsz : lst.toArray.size = ord.length := by rw [hn]; simp
  rw [hsz]
  refine wpAny_of_anyST hT (Q := fun a' w' => Q .normal a' w') (fun _ _ h => h) _ _ _ _ ?_
  have h2 := hB.2
  rw [hsz] at h2
  exact anyS_seqT hT hB.1 ord l _ _ _ hl h2 h
end
/-- An operation by its place. -/
def opAt : List Oper → Nat → Option Oper
  | [], _ => none
  | o :: _, 0 => some o
  | _ :: l, k + 1 => opAt l k
theorem opAt_eq : ∀ (l : List Oper) (k : Nat), opAt l k = l.toArray[k]?
  | [], k => by simp [opAt]
  | o :: l, 0 => by simp [opAt]
  | o :: l, k + 1 => by
    have := opAt_eq l k
    simp only [List.getElem?_toArray] at this ⊢
    rw [opAt, this, List.getElem?_cons_succ]
theorem opAt_map {lst : List Oper} {ord : List (Nat × Bool)} {l : List (Oper × Bool)} (hl : ord.map (fun kb => (opAt lst kb.1, kb.2)) = l.map (fun ob => (some ob.1, ob.2))) : ord.map (fun kb => (lst.toArray[kb.1]?, kb.2)) = l.map (fun ob => (some ob.1, ob.2)) := by
  rw [← hl]
  exact List.map_congr_left fun kb _ => by rw [opAt_eq]
section
variable {P : Program}
theorem wp_seq {Q : Exit → Act → World → Prop} {id : Nat} {a : Act} {w : World} {lst : List Oper} (ord : List (Nat × Bool)) (l : List (Oper × Bool)) (hm : P.follows .mixedOrders = true) (hl : ord.map (fun kb => (opAt lst kb.1, kb.2)) = l.map (fun ob => (some ob.1, ob.2))) (hn : ord.length = lst.length)
    (hB : planB .any lst.toArray ord = true) (h : seqS P lst.toArray (fun a' w' => Q .normal a' w') l a w.drew) : (Code.region id lst.toArray true).wp P Q a w := wp_region_seq ord l hm (opAt_map hl) hn hB h
theorem wpIn_seq {Q : Exit → Act → World → Prop} {id r n : Nat} {a : Act} {w : World} {lst : List Oper} (ord : List (Nat × Bool)) (l : List (Oper × Bool)) (hm : P.follows .mixedOrders = true) (hd : noDefer lst.toArray = true) (hQ : ¬ LetsOut Q) (hl : ord.map (fun kb => (opAt lst kb.1, kb.2)) = l.map (fun ob => (some ob.1, ob.2))) (hn : ord.length = lst.length)
    (hB : planB .any lst.toArray ord = true) (h : seqS P lst.toArray (fun a' w' => Q .normal a' w') l a w.drew) : (Code.region id lst.toArray true).wpIn (Fence.wide.inRound r) n P Q a w := wpIn_region_seq ord l hm hd hQ (opAt_map hl) hn hB h
theorem wp_seqT {T : World → World → Prop} (hT : Pre T) {Q : Exit → Act → World → Prop} {id : Nat} {a : Act} {w : World} {lst : List Oper} (ord : List (Nat × Bool)) (l : List (Oper × Bool)) (hm : P.follows .mixedOrders = true) (hl : ord.map (fun kb => (opAt lst kb.1, kb.2)) = l.map (fun ob => (some ob.1, ob.2))) (hn : ord.length = lst.length)
    (hB : planB .any lst.toArray ord = true) (h : seqST T P lst.toArray (fun a' w' => Q .normal a' w') l a w.drew) : (Code.region id lst.toArray true).wp P Q a w := wp_region_seqT hT ord l hm (opAt_map hl) hn hB h
theorem wpIn_seqT {T : World → World → Prop} (hT : Pre T) {Q : Exit → Act → World → Prop} {id r n : Nat} {a : Act} {w : World} {lst : List Oper} (ord : List (Nat × Bool)) (l : List (Oper × Bool)) (hm : P.follows .mixedOrders = true) (hd : noDefer lst.toArray = true) (hQ : ¬ LetsOut Q) (hl : ord.map (fun kb => (opAt lst kb.1, kb.2)) = l.map (fun ob => (some ob.1, ob.2))) (hn : ord.length = lst.length)
    (hB : planB .any lst.toArray ord = true) (h : seqST T P lst.toArray (fun a' w' => Q .normal a' w') l a w.drew) : (Code.region id lst.toArray true).wpIn (Fence.wide.inRound r) n P Q a w := wpIn_region_seqT hT ord l hm hd hQ (opAt_map hl) hn hB h
end
attribute [go_sem] readsT

end Go.Proofs.Ytcpefolhohakmaa
