/- A region that draws its order, whose last operation waits for all others: the others are walked as a region of their own, then the last one. -/
import Derived.Test.YtmknengmjepdaaaBs
import Derived.Deep.QuietTactic
import Derived.Deep.Cut
namespace Go.Proofs.Ytmknengmjepdaaa
open Go.RowKit

/-- Edges of the head point back; the last one's edges name all of the head, and nothing else; guards point into the head. -/
def snocB (md : Region.Mode) (l : List Oper) (o : Oper) : Bool :=
  (List.range l.length).all (fun j => match l[j]? with
    | some oj => oj.after.all (fun e => !Region.binds md e || decide (e.on < j)) && (match oj.guard with | some (g, _) => decide (g < l.length) | none => true)
    | none => true) &&
  o.after.all (fun e => !Region.binds md e || decide (e.on < l.length)) &&
  (List.range l.length).all (fun j => o.after.any fun e => Region.binds md e && e.on == j)

theorem snocB_spec {md : Region.Mode} {l : List Oper} {o : Oper} (h : snocB md l o = true) :
    (∀ j oj, l[j]? = some oj → (∀ e ∈ oj.after, Region.binds md e = true → e.on < j) ∧ ∀ g b, oj.guard = some (g, b) → g < l.length) ∧
    (∀ e ∈ o.after, Region.binds md e = true → e.on < l.length) ∧ ∀ j, j < l.length → ∃ e ∈ o.after, Region.binds md e = true ∧ e.on = j := by
  unfold snocB at h
  simp only [Bool.and_eq_true] at h
  obtain ⟨⟨h1, h2⟩, h3⟩ := h
  refine ⟨fun j oj hj => ?_, fun e he hb => ?_, fun j hj => ?_⟩
  · have hlt : j < l.length := (List.getElem?_eq_some_iff.1 hj).1
    have := List.all_eq_true.1 h1 j (List.mem_range.2 hlt)
    rw [hj] at this
    simp only [Bool.and_eq_true] at this
    refine ⟨fun e he hb => ?_, fun g b hg => ?_⟩
    · have := Array.all_eq_true_iff_forall_mem.1 this.1 e he
      rw [hb] at this
      simpa using this
    · have := this.2
      rw [hg] at this
      simpa using this
  · have := Array.all_eq_true_iff_forall_mem.1 h2 e he
    rw [hb] at this
    simpa using this
  · have := List.all_eq_true.1 h3 j (List.mem_range.2 hj)
    obtain ⟨e, he, hh⟩ := Array.any_eq_true'.1 this
    simp only [Bool.and_eq_true, beq_iff_eq] at hh
    exact ⟨e, he, hh.1, hh.2⟩

section
variable {P : Program} {md : Region.Mode} {l : List Oper} {o : Oper} {Q : Exit → Act → World → Prop}

/-- How the two lists of what is done agree. -/
structure Agree (l : List Oper) (big small : Array Bool) : Prop where
  szs : small.size = l.length
  szb : big.size = l.length + 1
  lst : big.getD l.length true = false
  eq : ∀ j, j < l.length → big[j]? = small[j]?

theorem Agree.getD {big small : Array Bool} (h : Agree l big small) {j : Nat} (hj : j < l.length) (d : Bool) : big.getD j d = small.getD j d := by
  have := h.eq j hj
  rw [Array.getD_eq_getD_getElem?, Array.getD_eq_getD_getElem?, this]

theorem Agree.set {big small : Array Bool} (h : Agree l big small) {j : Nat} (hj : j < l.length) : Agree l (big.setIfInBounds j true) (small.setIfInBounds j true) := by
  refine ⟨by simp [h.szs], by simp [h.szb], ?_, fun i hi => ?_⟩
  · rw [Go.getD_set_ne true (by omega)]; exact h.lst
  · have := h.eq i hi
    rw [Array.getElem?_setIfInBounds, Array.getElem?_setIfInBounds, h.szs, h.szb, this]
    by_cases hji : j = i
    · rw [if_pos hji, if_pos hji, if_pos (by omega), if_pos (by omega)]
    · rw [if_neg hji, if_neg hji]

theorem snoc_get {j : Nat} (hj : j < l.length) : (l ++ [o]).toArray[j]? = l.toArray[j]? := by
  simp [List.getElem?_append_left hj]
theorem snoc_last : (l ++ [o]).toArray[l.length]? = some o := by simp

theorem Agree.ready {big small : Array Bool} (h : Agree l big small) (hs : snocB md l o = true) {j : Nat} (hj : j < l.length) :
    j ∈ Region.ready md (l ++ [o]).toArray big ↔ j ∈ Region.ready md l.toArray small := by
  obtain ⟨h1, -, -⟩ := snocB_spec hs
  rw [mem_ready, mem_ready, snoc_get hj, h.getD hj]
  constructor
  · rintro ⟨a, oj, hoj, hall⟩
    refine ⟨a, oj, hoj, fun e he hb => ?_⟩
    have hlt := (h1 j oj (by simpa using hoj)).1 e he hb
    rw [← h.getD (by omega)]
    exact hall e he hb
  · rintro ⟨a, oj, hoj, hall⟩
    refine ⟨a, oj, hoj, fun e he hb => ?_⟩
    have hlt := (h1 j oj (by simpa using hoj)).1 e he hb
    rw [h.getD (by omega)]
    exact hall e he hb

theorem all_listed {small : Array Bool} (hsz : small.size = l.length) (hs : snocB md l o = true) (hr : Region.ready md l.toArray small = []) : ∀ j, j < l.length → small.getD j false = true := by
  obtain ⟨h1, -, -⟩ := snocB_spec hs
  intro j
  induction j using Nat.strongRecOn with
  | _ j ih =>
    intro hj
    have hno : j ∉ Region.ready md l.toArray small := by rw [hr]; simp
    rw [mem_ready] at hno
    have hoj : l.toArray[j]? = some (l[j]) := by simp [hj]
    cases hd : small.getD j false with
    | true => rfl
    | false =>
      exfalso
      apply hno
      refine ⟨?_, l[j], hoj, fun e he hb => ?_⟩
      · rw [Array.getD_eq_getD_getElem?] at hd ⊢
        have : ∃ x, small[j]? = some x := ⟨small[j]'(by omega), by simp [show j < small.size by omega]⟩
        obtain ⟨x, hx⟩ := this
        rw [hx] at hd ⊢
        simpa using hd
      · have hlt := (h1 j (l[j]) (by simp [hj])).1 e he hb
        exact ih _ hlt (by omega)

theorem Agree.last {big small : Array Bool} (h : Agree l big small) (hs : snocB md l o = true) :
    l.length ∈ Region.ready md (l ++ [o]).toArray big ↔ Region.ready md l.toArray small = [] := by
  obtain ⟨h1, h2, h3⟩ := snocB_spec hs
  constructor
  · intro hin
    rw [mem_ready, snoc_last] at hin
    obtain ⟨-, o', ho', hall⟩ := hin
    obtain rfl := Option.some.inj ho'
    refine List.eq_nil_iff_forall_not_mem.2 fun j hj => ?_
    have hj' := mem_ready.1 hj
    obtain ⟨hun, oj, hoj, -⟩ := hj'
    have hlt : j < l.length := by simpa using (Array.getElem?_eq_some_iff.1 hoj).1
    obtain ⟨e, he, hb, hon⟩ := h3 j hlt
    have := hall e he hb
    rw [hon, h.getD hlt] at this
    rw [Array.getD_eq_getD_getElem?] at hun this
    have hx : ∃ x, small[j]? = some x := ⟨small[j]'(by have := h.szs; omega), by simp [show j < small.size by have := h.szs; omega]⟩
    obtain ⟨x, hx⟩ := hx
    rw [hx] at hun this
    simp at hun this
    rw [hun] at this
    cases this
  · intro hr
    have hal := all_listed h.szs hs hr
    rw [mem_ready, snoc_last]
    refine ⟨h.lst, o, rfl, fun e he hb => ?_⟩
    have hlt := h2 e he hb
    rw [h.getD hlt]
    exact hal _ hlt

theorem snoc_wanted {oj : Oper} (hg : ∀ g b, oj.guard = some (g, b) → g < l.length) (t : Array Value) : Region.wanted oj (yielded (l ++ [o]).toArray t) = Region.wanted oj (yielded l.toArray t) := by
  unfold Region.wanted
  cases hh : oj.guard with
  | none => rfl
  | some gb =>
    obtain ⟨g, b⟩ := gb
    have hlt := hg g b hh
    have : yielded (l ++ [o]).toArray t g = yielded l.toArray t g := by
      unfold yielded
      rw [snoc_get hlt]
    simp only [this]

/-- What is asked behind the head: the last one, then Q. -/
def LastQ (P : Program) (l : List Oper) (o : Oper) (Q : Exit → Act → World → Prop) : Exit → Act → World → Prop
  | .normal, a, w => wpList P (l ++ [o]).toArray Q [o] a w
  | e, a, w => Q e a w

theorem letsOut_last (h : LetsOut (LastQ P l o Q)) : LetsOut Q := by
  obtain ⟨a, w, h⟩ := h
  exact ⟨a, w, h⟩

theorem Oper.wp_last {oj : Oper} {a : Act} {w : World} {K K' : Act → World → Prop} (hk : ∀ a w, K a w → K' a w) (h : oj.wp P a w K (LastQ P l o Q)) : oj.wp P a w K' Q := by
  unfold Oper.wp at *
  generalize (execOp a.eval oj).run P w = r at *
  cases r with
  | ok n w' =>
    cases n <;> simp only [Oper.upon] at h ⊢ <;>
      first
        | exact hk _ _ h
        | exact Calls.mono h (fun e w'' he => by cases e <;> first | exact hk _ _ he | exact he | exact letsOut_last he)
        | exact Rows.mono h (fun _ _ he => hk _ _ he)
  | halt x w' => cases x <;> simp only [Oper.upon] at h ⊢ <;> exact h

theorem wpOp_last {i : Nat} (hi : i < l.length) (hs : snocB md l o = true) {K K' : Act → World → Prop} {a : Act} {w : World} (hk : ∀ a w, K a w → K' a w)
    (h : wpOp P l.toArray (LastQ P l o Q) i K a w) : wpOp P (l ++ [o]).toArray Q i K' a w := by
  obtain ⟨h1, -, -⟩ := snocB_spec hs
  unfold wpOp at *
  rw [snoc_get hi]
  have hoj : l.toArray[i]? = some (l[i]) := by simp [hi]
  rw [hoj] at h ⊢
  dsimp only at h ⊢
  rw [snoc_wanted (h1 i l[i] (by simp [hi])).2]
  split
  · rename_i hw
    rw [if_pos hw] at h
    exact h.imp (Oper.wp_last hk) (fun h => ⟨h.1, letsOut_last h.2⟩)
  · rename_i hw
    rw [if_neg hw] at h
    exact hk _ _ h

theorem wpOp_of_last {K : Act → World → Prop} {a : Act} {w : World} (hk : ∀ a w, Q .normal a w → K a w) (h : wpList P (l ++ [o]).toArray Q [o] a w) : wpOp P (l ++ [o]).toArray Q l.length K a w := by
  unfold wpOp
  rw [snoc_last]
  dsimp only
  unfold wpList at h
  split
  · rename_i hw
    rw [if_pos hw] at h
    exact h.imp (fun h => Oper.wp_mono (fun a w hh => hk _ _ hh) h) id
  · rename_i hw
    rw [if_neg hw] at h
    exact hk _ _ h

theorem wpAny_snoc (hs : snocB md l o = true) : ∀ (fuel : Nat) (big small : Array Bool) (a : Act) (w : World), Agree l big small →
    wpAny P md l.toArray (LastQ P l o Q) fuel small a w → wpAny P md (l ++ [o]).toArray Q (fuel + 1) big a w
  | fuel, big, small, a, w, hag, h => by
    have hne : Region.ready md (l ++ [o]).toArray big ≠ [] := by
      intro he
      by_cases hr : Region.ready md l.toArray small = []
      · have := (hag.last hs).2 hr
        rw [he] at this
        cases this
      · obtain ⟨j, hj⟩ := List.exists_mem_of_ne_nil _ hr
        have hlt : j < l.length := by
          obtain ⟨-, oj, hoj, -⟩ := mem_ready.1 hj
          simpa using (Array.getElem?_eq_some_iff.1 hoj).1
        have := (hag.ready hs hlt).2 hj
        rw [he] at this
        cases this
    refine ⟨fun he => absurd he hne, fun i hi => ?_⟩
    have hil : i ≤ l.length := by
      obtain ⟨-, oj, hoj, -⟩ := mem_ready.1 hi
      have := (Array.getElem?_eq_some_iff.1 hoj).1
      simp at this
      omega
    rcases Nat.lt_or_ge i l.length with hlt | hge
    · have hin := (hag.ready hs hlt).1 hi
      match fuel, h with
      | 0, h => rw [h.1] at hin; cases hin
      | fuel + 1, h => exact wpOp_last hlt hs (fun a' w' hk => wpAny_snoc hs fuel _ _ a' w' (hag.set hlt) hk) (h.2 i hin)
    · obtain rfl : i = l.length := by omega
      have hr := (hag.last hs).1 hi
      have hQ : LastQ P l o Q .normal a w := by
        match fuel, h with
        | 0, h => exact h.2
        | fuel + 1, h => exact h.1 hr
      refine wpOp_of_last (fun a' w' hq => ?_) hQ
      have hnil : Region.ready md (l ++ [o]).toArray (big.setIfInBounds l.length true) = [] := by
        refine List.eq_nil_iff_forall_not_mem.2 fun j hj => ?_
        obtain ⟨hun, oj, hoj, -⟩ := mem_ready.1 hj
        have hjl : j < l.length + 1 := by
          have := (Array.getElem?_eq_some_iff.1 hoj).1
          simpa using this
        by_cases hjn : j = l.length
        · subst hjn
          rw [Array.getD_eq_getD_getElem?, Array.getElem?_setIfInBounds_self_of_lt (by rw [hag.szb]; omega)] at hun
          cases hun
        · rw [Go.getD_set_ne true (Ne.symm hjn)] at hun
          have h5 := all_listed hag.szs hs hr j (by omega)
          rw [hag.getD (by omega)] at hun
          rw [Array.getD_eq_getD_getElem?] at hun h5
          have hx : ∃ x, small[j]? = some x := ⟨small[j]'(by have := hag.szs; omega), by simp [show j < small.size by have := hag.szs; omega]⟩
          obtain ⟨x, hx⟩ := hx
          rw [hx] at hun h5
          simp at hun h5
          rw [hun] at h5
          cases h5
      cases fuel with
      | zero => exact ⟨hnil, hq⟩
      | succ fuel => exact ⟨fun _ => hq, fun i hi => by rw [hnil] at hi; cases hi⟩

/-- The walk: the head in the order of the text, every operation quiet in the class C; then the last. -/
theorem wp_region_snoc {C : World → Prop} {id : Nat} {a : Act} {w : World} (hm : P.follows .mixedOrders = true) (hs : snocB .any l o = true) (hB : Region.lexB .any l.toArray = true) (hC : C w.drew)
    (h : wpQuiet P l.toArray C (fun a' => ∀ w', C w' → wpList P (l ++ [o]).toArray Q [o] a' w') l a) : (Code.region id (l ++ [o]).toArray true).wp P Q a w := by
  refine wp_region_any hm ?_
  have hsz : (l ++ [o]).toArray.size = l.length + 1 := by simp
  rw [hsz]
  refine wpAny_snoc hs l.length _ (Array.replicate l.length false) a _ ⟨by simp, by simp, by simp, fun j hj => by simp [hj, Nat.lt_succ_of_lt hj]⟩ ?_
  simp only [Region.lexB, Bool.and_eq_true] at hB
  refine wpAny_of_quiet (C := C) (Q := fun a' => ∀ w', C w' → wpList P (l ++ [o]).toArray Q [o] a' w') (fun _ w' hw' h => h w' hw') _ _ _ _ hC ?_
  have := wpAnyQ_lex (C := C) (md := .any) hB.1 l 0 (Array.replicate l.length false) a (by simp) (by simpa using hB.2) h
  simpa using this

/-- The same, the list being given whole. -/
theorem wp_region_snoc' {C : World → Prop} {id : Nat} {a : Act} {w : World} {ops l : List Oper} {o : Oper} (ho : ops = l ++ [o]) (hm : P.follows .mixedOrders = true) (hs : snocB .any l o = true) (hB : Region.lexB .any l.toArray = true) (hC : C w.drew)
    (h : wpQuiet P l.toArray C (fun a' => ∀ w', C w' → wpList P ops.toArray Q [o] a' w') l a) : (Code.region id ops.toArray true).wp P Q a w := by
  subst ho
  exact wp_region_snoc hm hs hB hC h
end

/-- The worlds in which nothing that there was has changed. -/
structure Sub (W : World) where
  w : World
  b : Below W.heap.size W w
theorem Sub.first (W : World) : ∃ x : Sub W, W.drew = x.w := ⟨⟨W.drew, Below.drew (Below.refl _ W)⟩, rfl⟩
instance instSub (W : World) : Nonempty (Sub W) := ⟨⟨W, Below.refl _ W⟩⟩

theorem sub_call {P : Program} {f : FuncId} {args : Array Value} {W : World} {x : Sub W} {v : Value}
    (h : Calls P f args x.w fun e w' => e = .returned v ∧ Below x.w.heap.size x.w w') : Calls P f args x.w fun e w'' => e = .returned v ∧ ∃ y : Sub W, w'' = y.w :=
  h.mono fun _ w' ⟨he, hb⟩ => ⟨he, ⟨⟨w', x.b.trans (hb.mono x.b.size)⟩, rfl⟩⟩

end Go.Proofs.Ytmknengmjepdaaa
