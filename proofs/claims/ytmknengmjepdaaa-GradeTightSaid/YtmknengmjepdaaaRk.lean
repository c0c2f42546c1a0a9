/- A region that draws its order, some of whose operations move the world (calls, above all): reads are taken as early as they may come, a mover where nothing else can come up. -/
import Derived.Test.YtmknengmjepdaaaRr
namespace Go.Proofs.Ytmknengmjepdaaa
open Go.RowKit

/-- An operation, carried out, hands back v and leaves w' with R v w'. -/
def givesUpon (P : Program) (R : Value → World → Prop) : Result Next → Prop
  | .ok (.value u) w' => R u w'
  | .ok .skip w' => R undef w'
  | .ok (.enter f args) w' => Calls P f args w' (fun e w'' => ∃ v, e = .returned v ∧ R v w'')
  | _ => False
def gives (P : Program) (o : Oper) (a : Act) (w : World) (R : Value → World → Prop) : Prop := givesUpon P R ((execOp a.eval o).run P w)
theorem gives_mono {P : Program} {o : Oper} {a : Act} {w : World} {R R' : Value → World → Prop} (h : ∀ v w', R v w' → R' v w') (hg : gives P o a w R) : gives P o a w R' := by
  unfold gives at *
  generalize (execOp a.eval o).run P w = r at *
  cases r with
  | ok n w' =>
    cases n <;> simp only [givesUpon] at hg ⊢
    case value u => exact h _ _ hg
    case skip => exact h _ _ hg
    case enter f args => exact hg.mono fun e w'' ⟨v, he, hr⟩ => ⟨v, he, h _ _ hr⟩
  | halt x w' => simp only [givesUpon] at hg
/-- It only reads, and hands back v. -/
def readUpon (w : World) (v : Value) : Result Next → Prop
  | .ok (.value u) w' => w' = w ∧ u = v
  | .ok .skip w' => w' = w ∧ v = undef
  | _ => False
def reads (P : Program) (o : Oper) (a : Act) (w : World) (next : Act → Prop) : Prop := ∃ v, (∀ x : Sub w, readUpon x.w v ((execOp a.eval o).run P x.w)) ∧ next (a.put o.dst v)

section
variable {P : Program} {ops : Array Oper} {md : Region.Mode}

def YR (P : Program) (ops : Array Oper) (o : Oper) (v : Value) (a : Act) (w : World) : Prop :=
  (Region.wanted o (yielded ops a.tmps) = true ∧ ∀ x : Sub w, readUpon x.w v ((execOp a.eval o).run P x.w)) ∨ (Region.wanted o (yielded ops a.tmps) = false ∧ v = undef)
theorem YR.same {o : Oper} {v : Value} {a a' : Act} {w : World} (hy : YR P ops o v a w) (he : execOp a'.eval o = execOp a.eval o) (hw : Region.wanted o (yielded ops a'.tmps) = Region.wanted o (yielded ops a.tmps)) : YR P ops o v a' w := by
  unfold YR at *
  rw [he, hw]
  exact hy
theorem YR.later {o : Oper} {v : Value} {a : Act} {w w' : World} (hy : YR P ops o v a w) (hb : Below w.heap.size w w') : YR P ops o v a w' := by
  rcases hy with ⟨h1, h2⟩ | h
  · exact .inl ⟨h1, fun x => h2 ⟨x.w, hb.trans (x.b.mono hb.size)⟩⟩
  · exact .inr h

def anyS (P : Program) (md : Region.Mode) (ops : Array Oper) (Q : Act → World → Prop) : Nat → Array Bool → Act → World → Prop
  | 0, L, a, w => Region.ready md ops L = [] ∧ Q a w
  | fuel + 1, L, a, w => (Region.ready md ops L = [] → Q a w) ∧ ∀ i ∈ Region.ready md ops L, ∃ o, ops[i]? = some o ∧
      ((∃ v, YR P ops o v a w ∧ anyS P md ops Q fuel (L.setIfInBounds i true) (a.put o.dst v) w) ∨
       (Region.wanted o (yielded ops a.tmps) = true ∧ gives P o a w fun v w' => Below w.heap.size w w' ∧ anyS P md ops Q fuel (L.setIfInBounds i true) (a.put o.dst v) w'))

theorem wpAny_of_anyS {Q : Act → World → Prop} {Q' : Exit → Act → World → Prop} (hQ : ∀ a w, Q a w → Q' .normal a w) :
    ∀ (fuel : Nat) (L : Array Bool) (a : Act) (w : World), anyS P md ops Q fuel L a w → wpAny P md ops Q' fuel L a w
  | 0, _, _, _, h => ⟨h.1, hQ _ _ h.2⟩
  | fuel + 1, L, a, w, h => by
    refine ⟨fun he => hQ _ _ (h.1 he), fun i hi => ?_⟩
    obtain ⟨o, ho, hc⟩ := h.2 i hi
    unfold wpOp
    rw [ho]
    dsimp only
    rcases hc with ⟨v, ⟨hw, hy⟩ | ⟨hw, rfl⟩, hn⟩ | ⟨hw, hg⟩
    · rw [if_pos hw]
      left
      unfold Oper.wp
      have hy := hy ⟨w, Below.refl _ w⟩
      dsimp only at hy
      generalize (execOp a.eval o).run P w = r at *
      cases r with
      | ok n w' =>
        cases n <;> simp only [readUpon] at hy <;> simp only [Oper.upon]
        case value u => obtain ⟨rfl, rfl⟩ := hy; exact wpAny_of_anyS hQ fuel _ _ _ hn
        case skip => obtain ⟨rfl, rfl⟩ := hy; exact wpAny_of_anyS hQ fuel _ _ _ hn
      | halt x w' => simp only [readUpon] at hy
    · rw [if_neg (by rw [hw]; decide)]
      exact wpAny_of_anyS hQ fuel _ _ _ hn
    · rw [if_pos hw]
      left
      unfold Oper.wp
      unfold gives at hg
      generalize (execOp a.eval o).run P w = r at *
      cases r with
      | ok n w' =>
        cases n <;> simp only [givesUpon] at hg <;> simp only [Oper.upon]
        case value u => exact wpAny_of_anyS hQ fuel _ _ _ hg.2
        case skip => exact wpAny_of_anyS hQ fuel _ _ _ hg.2
        case enter f args => exact hg.mono fun e w'' ⟨v, he, hr⟩ => by subst he; exact wpAny_of_anyS hQ fuel _ _ _ hr.2
      | halt x w' => simp only [givesUpon] at hg

theorem anyS_read {Q : Act → World → Prop} {i : Nat} {oi : Oper} {v : Value} (hi : ops[i]? = some oi) (hsel : ∀ (j : Nat) (o : Oper) cs b, ops[j]? = some o → o.op ≠ .select cs b) : ∀ (fuel : Nat) (L : Array Bool) (a : Act) (w : World),
    (∀ j oj, ops[j]? = some oj → j ≠ i → L.getD j true = false → (∀ e ∈ oj.after, Region.binds md e = true → e.on ≠ i) → oi.apart ops oj = true) →
    i ∈ Region.ready md ops L → YR P ops oi v a w → anyS P md ops Q fuel (L.setIfInBounds i true) (a.put oi.dst v) w → anyS P md ops Q (fuel + 1) L a w := by
  intro fuel
  induction fuel with
  | zero =>
    intro L a w _ hr hy H
    refine ⟨fun he => (by rw [he] at hr; cases hr), fun j hj => ?_⟩
    by_cases hji : j = i
    · subst hji; exact ⟨oi, hi, .inl ⟨v, hy, H⟩⟩
    · have := ready_mono hj hji
      rw [H.1] at this
      cases this
  | succ fuel ih =>
    intro L a w hfree hr hy H
    refine ⟨fun he => (by rw [he] at hr; cases hr), fun j hj => ?_⟩
    by_cases hji : j = i
    · subst hji; exact ⟨oi, hi, .inl ⟨v, hy, H⟩⟩
    · obtain ⟨oj, hoj, hc⟩ := H.2 j (ready_mono hj hji)
      obtain ⟨hjun, oj', hoj', hall⟩ := mem_ready.1 hj
      have hio := (mem_ready.1 hr).1
      have hwait : ∀ e ∈ oj.after, Region.binds md e = true → e.on ≠ i := fun e he hb heq => by
        rw [hoj] at hoj'
        cases hoj'
        have h1 := hall e he hb
        rw [heq] at h1
        rw [Array.getD_eq_getD_getElem?] at h1 hio
        cases hx : L[i]? with
        | none => rw [hx] at h1; cases h1
        | some z => rw [hx] at h1 hio; simp at h1 hio; rw [h1] at hio; cases hio
      obtain ⟨a1, a2, a3⟩ := Oper.apart_spec (hfree j oj hoj hji hjun hwait)
      have hyi' : ∀ u, YR P ops oi v (a.put oj.dst u) w := fun u => hy.same (execOp_put oi (fun cs b => hsel i oi cs b hi) a oj.dst u a3) (wanted_put oi a oj.dst u a3)
      have hfree' : ∀ k ok, ops[k]? = some ok → k ≠ i → (L.setIfInBounds j true).getD k true = false → (∀ e ∈ ok.after, Region.binds md e = true → e.on ≠ i) → oi.apart ops ok = true := fun k ok hk hki hun hno => by
        refine hfree k ok hk hki ?_ hno
        by_cases hjk : j = k
        · subst hjk; exact hjun
        · rw [Go.getD_set_ne true hjk] at hun; exact hun
      have he := execOp_put oj (fun cs b => hsel j oj cs b hoj) a oi.dst v a1
      have hw := wanted_put oj a oi.dst v a1
      rcases hc with ⟨u, hyj, hn⟩ | ⟨hwj, hg⟩
      · refine ⟨oj, hoj, .inl ⟨u, hyj.same he.symm hw.symm, ih _ _ _ hfree' (ready_mono hr (Ne.symm hji)) (hyi' u) ?_⟩⟩
        rw [Array.setIfInBounds_comm _ _ hji, ← Act.put_comm a v u a2]
        exact hn
      · rw [hw] at hwj
        refine ⟨oj, hoj, .inr ⟨hwj, ?_⟩⟩
        unfold gives at hg ⊢
        rw [he] at hg
        refine gives_mono (o := oj) (a := a) (fun u w' hr' => ⟨hr'.1, ih _ _ _ hfree' (ready_mono hr (Ne.symm hji)) ((hyi' u).later hr'.1) ?_⟩) hg
        rw [Array.setIfInBounds_comm _ _ hji, ← Act.put_comm a v u a2]
        exact hr'.2

theorem anyS_move {Q : Act → World → Prop} {i : Nat} {oi : Oper} (hi : ops[i]? = some oi) {fuel : Nat} {L : Array Bool} {a : Act} {w : World} (hr : Region.ready md ops L = [i]) (hw : Region.wanted oi (yielded ops a.tmps) = true)
    (h : gives P oi a w fun v w' => Below w.heap.size w w' ∧ anyS P md ops Q fuel (L.setIfInBounds i true) (a.put oi.dst v) w') : anyS P md ops Q (fuel + 1) L a w := by
  refine ⟨fun he => (by rw [he] at hr; cases hr), fun j hj => ?_⟩
  rw [hr] at hj
  obtain rfl : j = i := by simpa using hj
  exact ⟨oi, hi, .inr ⟨hw, h⟩⟩
theorem anyS_skip {Q : Act → World → Prop} {i : Nat} {oi : Oper} (hi : ops[i]? = some oi) {fuel : Nat} {L : Array Bool} {a : Act} {w : World} (hr : Region.ready md ops L = [i]) (hw : Region.wanted oi (yielded ops a.tmps) = false)
    (h : anyS P md ops Q fuel (L.setIfInBounds i true) (a.put oi.dst undef) w) : anyS P md ops Q (fuel + 1) L a w := by
  refine ⟨fun he => (by rw [he] at hr; cases hr), fun j hj => ?_⟩
  rw [hr] at hj
  obtain rfl : j = i := by simpa using hj
  exact ⟨oi, hi, .inl ⟨undef, .inr ⟨hw, rfl⟩, h⟩⟩

/-- The order in which the walk goes: true: a mover, at a place where it alone can come up. -/
def planFrom (md : Region.Mode) (ops : Array Oper) : List (Nat × Bool) → Array Bool → Bool
  | [], L => (Region.ready md ops L).isEmpty
  | (k, m) :: rest, L => (if m then Region.ready md ops L == [k] else (Region.ready md ops L).contains k && Region.free md ops L k) && planFrom md ops rest (L.setIfInBounds k true)
def planB (md : Region.Mode) (ops : Array Oper) (ord : List (Nat × Bool)) : Bool := Region.noSelect ops && planFrom md ops ord (Array.replicate ops.size false)

/-- The walk. -/
def seqS (P : Program) (ops : Array Oper) (Q : Act → World → Prop) : List (Oper × Bool) → Act → World → Prop
  | [], a, w => Q a w
  | (o, false) :: rest, a, w => if Region.wanted o (yielded ops a.tmps) then reads P o a w (fun a' => seqS P ops Q rest a' w) else seqS P ops Q rest (a.put o.dst undef) w
  | (o, true) :: rest, a, w => if Region.wanted o (yielded ops a.tmps) then gives P o a w (fun v w' => Below w.heap.size w w' ∧ seqS P ops Q rest (a.put o.dst v) w') else seqS P ops Q rest (a.put o.dst undef) w

theorem seqS_nil {Q : Act → World → Prop} {a : Act} {w : World} (h : Q a w) : seqS P ops Q [] a w := h
theorem seqS_read {Q : Act → World → Prop} {o : Oper} {rest : List (Oper × Bool)} {a : Act} {w : World}
    (h : ∀ K : Act → Prop, (∀ a', seqS P ops Q rest a' w → K a') → if Region.wanted o (yielded ops a.tmps) then reads P o a w K else K (a.put o.dst undef)) : seqS P ops Q ((o, false) :: rest) a w := h _ (fun _ h => h)
theorem seqS_call {Q : Act → World → Prop} {o : Oper} {rest : List (Oper × Bool)} {a : Act} {w : World}
    (h : ∀ K : Value → World → Prop, (∀ v w', Below w.heap.size w w' → seqS P ops Q rest (a.put o.dst v) w' → K v w') → Region.wanted o (yielded ops a.tmps) = true ∧ gives P o a w K) : seqS P ops Q ((o, true) :: rest) a w := by
  obtain ⟨h1, h2⟩ := h (fun v w' => Below w.heap.size w w' ∧ seqS P ops Q rest (a.put o.dst v) w') (fun v w' h1 h2 => ⟨h1, h2⟩)
  show if Region.wanted o (yielded ops a.tmps) then gives P o a w (fun v w' => Below w.heap.size w w' ∧ seqS P ops Q rest (a.put o.dst v) w') else seqS P ops Q rest (a.put o.dst undef) w
  rw [if_pos h1]
  exact h2
theorem seqS_skip {Q : Act → World → Prop} {o : Oper} {rest : List (Oper × Bool)} {a : Act} {w : World} (h1 : Region.wanted o (yielded ops a.tmps) = false) (h2 : seqS P ops Q rest (a.put o.dst undef) w) : seqS P ops Q ((o, true) :: rest) a w := by
  show if Region.wanted o (yielded ops a.tmps) then gives P o a w (fun v w' => Below w.heap.size w w' ∧ seqS P ops Q rest (a.put o.dst v) w') else seqS P ops Q rest (a.put o.dst undef) w
  rw [if_neg (by rw [h1]; decide)]
  exact h2

theorem seqS_skip2 {Q : Act → World → Prop} {o : Oper} {rest : List (Oper × Bool)} {a : Act} {w : World}
    (h : ∀ K : Act → Prop, (∀ a', seqS P ops Q rest a' w → K a') → Region.wanted o (yielded ops a.tmps) = false ∧ K (a.put o.dst undef)) : seqS P ops Q ((o, true) :: rest) a w :=
  seqS_skip (h (fun a' => seqS P ops Q rest a' w) (fun _ h => h)).1 (h (fun a' => seqS P ops Q rest a' w) (fun _ h => h)).2

theorem anyS_seq {Q : Act → World → Prop} (hs : Region.noSelect ops = true) : ∀ (ord : List (Nat × Bool)) (l : List (Oper × Bool)) (L : Array Bool) (a : Act) (w : World), ord.map (fun kb => (ops[kb.1]?, kb.2)) = l.map (fun ob => (some ob.1, ob.2)) →
    planFrom md ops ord L = true → seqS P ops Q l a w → anyS P md ops Q ord.length L a w
  | [], [], _, _, _, _, hB, h => ⟨by simpa [planFrom] using hB, h⟩
  | [], _ :: _, _, _, _, he, _, _ => by simp at he
  | _ :: _, [], _, _, _, he, _, _ => by simp at he
  | (k, m) :: ord, (o, m') :: l, L, a, w, he, hB, h => by
    simp only [List.map_cons, List.cons.injEq, Prod.mk.injEq] at he
    obtain ⟨⟨hk, rfl⟩, he⟩ := he
    simp only [planFrom, Bool.and_eq_true] at hB
    obtain ⟨hr, hB'⟩ := hB
    cases m with
    | false =>
      simp only [Bool.false_eq_true, if_false, Bool.and_eq_true] at hr
      obtain ⟨hr, hf⟩ := hr
      simp only [seqS] at h
      by_cases hw : Region.wanted o (yielded ops a.tmps) = true
      · rw [if_pos hw] at h
        obtain ⟨v, hv, hn⟩ := h
        exact anyS_read hk (Region.noSelect_spec hs) ord.length L a w (Region.free_spec hk hf) (by simpa using hr) (.inl ⟨hw, hv⟩) (anyS_seq hs ord l _ _ _ he hB' hn)
      · rw [if_neg hw] at h
        exact anyS_read hk (Region.noSelect_spec hs) ord.length L a w (Region.free_spec hk hf) (by simpa using hr) (.inr ⟨by simpa using hw, rfl⟩) (anyS_seq hs ord l _ _ _ he hB' h)
    | true =>
      simp only [if_true, beq_iff_eq] at hr
      simp only [seqS] at h
      by_cases hw : Region.wanted o (yielded ops a.tmps) = true
      · rw [if_pos hw] at h
        exact anyS_move hk hr hw (gives_mono (fun v w' hh => ⟨hh.1, anyS_seq hs ord l _ _ _ he hB' hh.2⟩) h)
      · rw [if_neg hw] at h
        exact anyS_skip hk hr (by simpa using hw) (anyS_seq hs ord l _ _ _ he hB' h)

/-- The region. -/
theorem wp_region_seq {Q : Exit → Act → World → Prop} {id : Nat} {a : Act} {w : World} {lst : List Oper} (ord : List (Nat × Bool)) (l : List (Oper × Bool)) (hm : P.follows .mixedOrders = true) (hl : ord.map (fun kb => (lst.toArray[kb.1]?, kb.2)) = l.map (fun ob => (some ob.1, ob.2))) (hn : ord.length = lst.length)
    (hB : planB .any lst.toArray ord = true) (h : seqS P lst.toArray (fun a' w' => Q .normal a' w') l a w.drew) : (Code.region id lst.toArray true).wp P Q a w := by
  simp only [planB, Bool.and_eq_true] at hB
  refine wp_region_any hm ?_
  have hsz : lst.toArray.size = ord.length := by rw [hn]; simp
  rw [hsz]
  refine wpAny_of_anyS (Q := fun a' w' => Q .normal a' w') (fun _ _ h => h) _ _ _ _ ?_
  have h2 := hB.2
  rw [hsz] at h2
  exact anyS_seq hB.1 ord l _ _ _ hl h2 h
/-- .. within a round of a range over a function. -/
theorem wpIn_region_seq {Q : Exit → Act → World → Prop} {id r n : Nat} {a : Act} {w : World} {lst : List Oper} (ord : List (Nat × Bool)) (l : List (Oper × Bool)) (hm : P.follows .mixedOrders = true) (hd : noDefer lst.toArray = true) (hQ : ¬ LetsOut Q) (hl : ord.map (fun kb => (lst.toArray[kb.1]?, kb.2)) = l.map (fun ob => (some ob.1, ob.2))) (hn : ord.length = lst.length)
    (hB : planB .any lst.toArray ord = true) (h : seqS P lst.toArray (fun a' w' => Q .normal a' w') l a w.drew) : (Code.region id lst.toArray true).wpIn (Fence.wide.inRound r) n P Q a w := by
  simp only [planB, Bool.and_eq_true] at hB
  refine wpIn_region_any hm (wpAny_round hd hQ _ _ _ _ ?_)
  have hsz : lst.toArray.size = ord.length := by rw [hn]; simp
  rw [hsz]
  refine wpAny_of_anyS (Q := fun a' w' => Q .normal a' w') (fun _ _ h => h) _ _ _ _ ?_
  have h2 := hB.2
  rw [hsz] at h2
  exact anyS_seq hB.1 ord l _ _ _ hl h2 h
end
attribute [go_sem] reads readUpon gives givesUpon

end Go.Proofs.Ytmknengmjepdaaa
