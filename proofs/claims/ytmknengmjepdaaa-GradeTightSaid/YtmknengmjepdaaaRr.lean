/- Regions within a round of a range over a function: the walk of the plain region serves. -/
import Derived.Test.YtmknengmjepdaaaRs
import Derived.RangeFuncNested
import Derived.RangeFuncCalls
import Derived.RangeFuncLeaves
import Derived.OrdersIn
import Derived.TacticsIn
namespace Go.Proofs.Ytmknengmjepdaaa
open Go.RowKit

def noDefer (ops : Array Oper) : Bool := ops.all fun o => match o.op with | .defer _ => false | _ => true
theorem noDefer_spec {ops : Array Oper} (h : noDefer ops = true) {i : Nat} {o : Oper} (ho : ops[i]? = some o) : ∀ c, o.op ≠ .defer c := by
  intro c hc
  have := Array.all_eq_true_iff_forall_mem.1 h o (Array.mem_of_getElem? ho)
  simp [hc] at this

section
variable {P : Program} {ops : Array Oper} {md : Region.Mode} {Q : Exit → Act → World → Prop} {l n : Nat}

theorem oper_round {o : Oper} {a : Act} {w : World} {K K' : Act → World → Prop} (hd : ∀ c, o.op ≠ .defer c) (hk : ∀ a w, K a w → K' a w) (h : o.wp P a w K Q) : o.wpIn (Fence.wide.inRound l) n P a w K' Q := by
  refine ⟨fun _ _ => trivial, ?_⟩
  rw [show (Fence.wide.inRound l).round = some l from rfl, Oper.semAt_some l _ o hd]
  unfold Oper.wp at h
  generalize (execOp a.eval o).run P w = r at *
  cases r with
  | ok nx w' =>
    cases nx <;> simp only [Oper.upon] at h <;> simp only [Oper.uponIn]
    case value => exact hk _ _ h
    case skip => exact hk _ _ h
    case defer => exact hk _ _ h
    case enter f args =>
      refine ⟨fun hh => (by cases hh), CallsIn.inRound l (callsIn_wide.2 (h.mono fun e w'' he => ?_))⟩
      cases e <;> first | exact hk _ _ he | exact he
    case row =>
      refine ⟨fun hh => (by cases hh), fun c cs _ => ?_⟩
      obtain ⟨v, w2, h1, h2⟩ := h c cs
      exact ⟨v, w2, hk _ _ h1, stepsIn_wide.2 h2⟩
    all_goals exact h.elim
  | halt x w' => cases x <;> simp only [Oper.upon] at h <;> simp only [Oper.uponIn] <;> exact h

theorem wpOp_round {i : Nat} {a : Act} {w : World} {K K' : Act → World → Prop} (hd : noDefer ops = true) (hQ : ¬ LetsOut Q) (hk : ∀ a w, K a w → K' a w) (h : wpOp P ops Q i K a w) : wpOpIn (Fence.wide.inRound l) n P ops Q i K' a w := by
  unfold wpOp at h
  unfold wpOpIn
  split
  · rename_i ho; simp only [ho] at h; exact hk _ _ h
  · rename_i o ho
    simp only [ho] at h
    split
    · rename_i hw
      rw [if_pos hw] at h
      rcases h with h | h
      · exact oper_round (noDefer_spec hd ho) hk h
      · exact absurd h.2 hQ
    · rename_i hw
      rw [if_neg hw] at h
      exact ⟨fun _ _ => trivial, hk _ _ h⟩

theorem wpAny_round (hd : noDefer ops = true) (hQ : ¬ LetsOut Q) : ∀ (fuel : Nat) (listed : Array Bool) (a : Act) (w : World), wpAny P md ops Q fuel listed a w → wpAnyIn (Fence.wide.inRound l) n P md ops Q fuel listed a w
  | 0, _, _, _, h => h
  | fuel + 1, _, _, _, h => ⟨h.1, fun i hi => wpOp_round hd hQ (fun a' w' hk => wpAny_round hd hQ fuel _ a' w' hk) (h.2 i hi)⟩

/-- All of the region quiet in the class. -/
theorem wpIn_region_round {C : World → Prop} {id : Nat} {a : Act} {w : World} {lst : List Oper} (hm : P.follows .mixedOrders = true) (hd : noDefer lst.toArray = true) (hQ : ¬ LetsOut Q) (hB : Region.lexB .any lst.toArray = true) (hC : C w.drew)
    (h : wpQuiet P lst.toArray C (fun a' => ∀ w', C w' → Q .normal a' w') lst a) : (Code.region id lst.toArray true).wpIn (Fence.wide.inRound l) n P Q a w := by
  refine wpIn_region_any hm (wpAny_round hd hQ _ _ _ _ ?_)
  simp only [Region.lexB, Bool.and_eq_true] at hB
  refine wpAny_of_quiet (C := C) (Q := fun a' => ∀ w', C w' → Q .normal a' w') (fun _ w' hw' h => h w' hw') _ _ _ _ hC ?_
  have := wpAnyQ_lex (C := C) (md := .any) hB.1 lst 0 (Array.replicate lst.length false) a (by simp) (by simpa using hB.2) h
  simpa using this

theorem letsOut_lastQ {k : List Oper} {o : Oper} (h : ¬ LetsOut Q) : ¬ LetsOut (LastQ P k o Q) := fun hh => h (letsOut_last hh)

theorem agree_start (k : List Oper) : Agree k (Array.replicate (k.length + 1) false) (Array.replicate k.length false) :=
  ⟨by simp, by simp, by simp, fun j hj => by simp [hj, Nat.lt_succ_of_lt hj]⟩

/-- One more operation of the tail. -/
theorem wpAny_snoc' {k : List Oper} {o : Oper} {a : Act} {w : World} {N : Nat} (hN : N = k.length + 1) (hs : snocB md k o = true) (h : wpAny P md k.toArray (LastQ P k o Q) k.length (Array.replicate k.length false) a w) :
    wpAny P md (k ++ [o]).toArray Q N (Array.replicate N false) a w := by
  subst hN
  exact wpAny_snoc hs k.length _ _ a w (agree_start k) h

/-- The head of a region, quiet in the class. -/
theorem wpAny_head {C : World → Prop} {a : Act} {w : World} {k : List Oper} (hB : Region.lexB .any k.toArray = true) (hC : C w) (h : wpQuiet P k.toArray C (fun a' => ∀ w', C w' → Q .normal a' w') k a) :
    wpAny P .any k.toArray Q k.length (Array.replicate k.length false) a w := by
  simp only [Region.lexB, Bool.and_eq_true] at hB
  refine wpAny_of_quiet (C := C) (Q := fun a' => ∀ w', C w' → Q .normal a' w') (fun _ w' hw' h => h w' hw') _ _ _ _ hC ?_
  have := wpAnyQ_lex (C := C) (md := .any) hB.1 k 0 (Array.replicate k.length false) a (by simp) (by simpa using hB.2) h
  simpa using this

/-- A head and a tail of five operations that come up in the order of the text. -/
theorem wpIn_region_tail5 {C : World → Prop} {id : Nat} {a : Act} {w : World} {k : List Oper} {o1 o2 o3 o4 o5 : Oper} (hm : P.follows .mixedOrders = true) (hd : noDefer (k ++ [o1] ++ [o2] ++ [o3] ++ [o4] ++ [o5]).toArray = true) (hQ : ¬ LetsOut Q)
    (h1 : snocB .any k o1 = true) (h2 : snocB .any (k ++ [o1]) o2 = true) (h3 : snocB .any (k ++ [o1] ++ [o2]) o3 = true) (h4 : snocB .any (k ++ [o1] ++ [o2] ++ [o3]) o4 = true) (h5 : snocB .any (k ++ [o1] ++ [o2] ++ [o3] ++ [o4]) o5 = true)
    (hB : Region.lexB .any k.toArray = true) (hC : C w.drew)
    (h : wpQuiet P k.toArray C (fun a' => ∀ w', C w' → wpList P (k ++ [o1]).toArray (LastQ P (k ++ [o1]) o2 (LastQ P (k ++ [o1] ++ [o2]) o3 (LastQ P (k ++ [o1] ++ [o2] ++ [o3]) o4 (LastQ P (k ++ [o1] ++ [o2] ++ [o3] ++ [o4]) o5 Q)))) [o1] a' w') k a) :
    (Code.region id (k ++ [o1] ++ [o2] ++ [o3] ++ [o4] ++ [o5]).toArray true).wpIn (Fence.wide.inRound l) n P Q a w := by
  refine wpIn_region_any hm (wpAny_round hd hQ _ _ _ _ ?_)
  refine wpAny_snoc' (by simp) h5 ?_
  refine wpAny_snoc' (by simp) h4 ?_
  refine wpAny_snoc' (by simp) h3 ?_
  refine wpAny_snoc' (by simp) h2 ?_
  refine wpAny_snoc' (by simp) h1 ?_
  exact wpAny_head hB hC h
theorem lastQ_normal {k : List Oper} {o : Oper} {a : Act} {w : World} : LastQ P k o Q .normal a w = wpList P (k ++ [o]).toArray Q [o] a w := rfl
theorem wpIn_region_tail5' {C : World → Prop} {id : Nat} {a : Act} {w : World} {ops k : List Oper} {o1 o2 o3 o4 o5 : Oper} (ho : ops = k ++ [o1] ++ [o2] ++ [o3] ++ [o4] ++ [o5]) (hm : P.follows .mixedOrders = true) (hd : noDefer ops.toArray = true) (hQ : ¬ LetsOut Q)
    (h1 : snocB .any k o1 = true) (h2 : snocB .any (k ++ [o1]) o2 = true) (h3 : snocB .any (k ++ [o1] ++ [o2]) o3 = true) (h4 : snocB .any (k ++ [o1] ++ [o2] ++ [o3]) o4 = true) (h5 : snocB .any (k ++ [o1] ++ [o2] ++ [o3] ++ [o4]) o5 = true)
    (hB : Region.lexB .any k.toArray = true) (hC : C w.drew)
    (h : wpQuiet P k.toArray C (fun a' => ∀ w', C w' → wpList P (k ++ [o1]).toArray (LastQ P (k ++ [o1]) o2 (LastQ P (k ++ [o1] ++ [o2]) o3 (LastQ P (k ++ [o1] ++ [o2] ++ [o3]) o4 (LastQ P (k ++ [o1] ++ [o2] ++ [o3] ++ [o4]) o5 Q)))) [o1] a' w') k a) :
    (Code.region id ops.toArray true).wpIn (Fence.wide.inRound l) n P Q a w := by
  subst ho
  exact wpIn_region_tail5 hm hd hQ h1 h2 h3 h4 h5 hB hC h
end

end Go.Proofs.Ytmknengmjepdaaa
