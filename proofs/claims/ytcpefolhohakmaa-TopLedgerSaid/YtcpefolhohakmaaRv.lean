/- Regions that draw their order: a plan that forks, with movers that may change what was read: those that all others wait for, or that wait for all others. -/
import Derived.Test.YtcpefolhohakmaaRx
namespace Go.Proofs.Ytcpefolhohakmaa
open Go.RowKit

/-- Operation j waits, through others perhaps, for operation k. -/
inductive Waits (md : Region.Mode) (ops : Array Oper) : Nat → Nat → Prop where
  | one {j : Nat} {oj : Oper} {e : Edge} : ops[j]? = some oj → e ∈ oj.after → Region.binds md e = true → Waits md ops j e.on
  | more {j k : Nat} {oj : Oper} {e : Edge} : ops[j]? = some oj → e ∈ oj.after → Region.binds md e = true → Waits md ops e.on k → Waits md ops j k
/-- What has come up is closed under what it waits for. -/
def Closed (md : Region.Mode) (ops : Array Oper) (L : Array Bool) : Prop := ∀ j oj, ops[j]? = some oj → L.getD j false = true → ∀ e ∈ oj.after, Region.binds md e = true → L.getD e.on false = true
theorem waits_listed {md : Region.Mode} {ops : Array Oper} {L : Array Bool} (hc : Closed md ops L) {j k : Nat} (h : Waits md ops j k) : ∀ oj, ops[j]? = some oj → (∀ e ∈ oj.after, Region.binds md e = true → L.getD e.on false = true) → L.getD k false = true := by
  induction h with
  | one h1 h2 h3 =>
    intro oj ho hd
    rw [h1] at ho
    cases ho
    exact hd _ h2 h3
  | @more j k oj0 e h1 h2 h3 h4 ih =>
    intro oj ho hd
    rw [h1] at ho
    cases ho
    have hl := hd _ h2 h3
    obtain ⟨o2, ho2⟩ : ∃ o2, ops[e.on]? = some o2 := by
      cases h4 with
      | one a1 _ _ => exact ⟨_, a1⟩
      | more a1 _ _ _ => exact ⟨_, a1⟩
    exact ih o2 ho2 (fun e he hb => hc _ o2 ho2 hl e he hb)
theorem getD_mono {L : Array Bool} {i j : Nat} (h : L.getD j false = true) : (L.setIfInBounds i true).getD j false = true := by
  rw [Array.getD_eq_getD_getElem?] at h ⊢
  rw [Array.getElem?_setIfInBounds]
  split
  · split
    · rfl
    · rename_i h1 h2
      subst h1
      rw [Array.getElem?_eq_none (by omega)] at h
      exact h
  · exact h
theorem closed_set {md : Region.Mode} {ops : Array Oper} {L : Array Bool} (hc : Closed md ops L) {i : Nat} (hi : i ∈ Region.ready md ops L) : Closed md ops (L.setIfInBounds i true) := by
  intro j oj hj hl e he hb
  by_cases hji : i = j
  · subst hji
    obtain ⟨_, oj', hoj', hall⟩ := mem_ready.1 hi
    rw [hj] at hoj'
    cases hoj'
    exact getD_mono (hall e he hb)
  · refine getD_mono (hc j oj hj ?_ e he hb)
    rw [Array.getD_eq_getD_getElem?] at hl ⊢
    rwa [Array.getElem?_setIfInBounds_ne hji] at hl
theorem closed_start (md : Region.Mode) (ops : Array Oper) (n : Nat) : Closed md ops (Array.replicate n false) := by
  intro j oj _ hl
  rw [Array.getD_eq_getD_getElem?, Array.getElem?_replicate] at hl
  split at hl <;> cases hl

/-- The bits of what each operation waits for. -/
def ancOf (md : Region.Mode) (acc : List Nat) (o : Oper) : Nat := o.after.foldl (fun m e => if Region.binds md e && decide (e.on < acc.length) then (m ||| (1 <<< e.on)) ||| acc.getD e.on 0 else m) 0
def ancs (md : Region.Mode) : List Oper → List Nat → List Nat
  | [], acc => acc
  | o :: l, acc => ancs md l (acc ++ [ancOf md acc o])
def AncOk (md : Region.Mode) (ops : Array Oper) (acc : List Nat) : Prop := ∀ j k, (acc.getD j 0).testBit k = true → Waits md ops j k
theorem ancOf_ok {md : Region.Mode} {ops : Array Oper} {acc : List Nat} {o : Oper} (ha : AncOk md ops acc) (ho : ops[acc.length]? = some o) : ∀ k, (ancOf md acc o).testBit k = true → Waits md ops acc.length k := by
  have key : ∀ (l : List Edge) (m : Nat), (∀ e ∈ l, e ∈ o.after) → (∀ k, m.testBit k = true → Waits md ops acc.length k) →
      ∀ k, (l.foldl (fun m e => if Region.binds md e && decide (e.on < acc.length) then (m ||| (1 <<< e.on)) ||| acc.getD e.on 0 else m) m).testBit k = true → Waits md ops acc.length k := by
    intro l
    induction l with
    | nil => intro m _ hm k hk; exact hm k hk
    | cons e l ih =>
      intro m hl hm
      rw [List.foldl_cons]
      refine ih _ (fun x hx => hl x (List.mem_cons_of_mem _ hx)) ?_
      intro k hk
      split at hk
      · rename_i hc
        simp only [Bool.and_eq_true, decide_eq_true_eq] at hc
        rw [Nat.testBit_or, Nat.testBit_or, Bool.or_eq_true, Bool.or_eq_true] at hk
        have hem := hl e (List.mem_cons_self ..)
        rcases hk with (hk | hk) | hk
        · exact hm k hk
        · rw [Nat.one_shiftLeft, Nat.testBit_two_pow] at hk
          have : e.on = k := by simpa using hk
          subst this
          exact .one ho hem hc.1
        · exact .more ho hem hc.1 (ha _ _ hk)
      · exact hm k hk
  intro k hk
  unfold ancOf at hk
  rw [← Array.foldl_toList] at hk
  exact key o.after.toList 0 (fun e he => by simpa using he) (fun k hk => by simp at hk) k hk
theorem ancs_ok {md : Region.Mode} {ops : Array Oper} : ∀ (l : List Oper) (acc : List Nat), AncOk md ops acc → (∀ i o, l[i]? = some o → ops[acc.length + i]? = some o) → AncOk md ops (ancs md l acc)
  | [], acc, h, _ => h
  | o :: l, acc, h, hl => by
    refine ancs_ok l (acc ++ [ancOf md acc o]) ?_ ?_
    · intro j k hk
      by_cases hj : j < acc.length
      · rw [List.getD_eq_getElem?_getD, List.getElem?_append_left hj, ← List.getD_eq_getElem?_getD] at hk
        exact h j k hk
      · by_cases hje : j = acc.length
        · subst hje
          rw [List.getD_eq_getElem?_getD, List.getElem?_append_right (Nat.le_refl _), Nat.sub_self] at hk
          exact ancOf_ok h (by have := hl 0 o rfl; simpa using this) k hk
        · rw [List.getD_eq_getElem?_getD, List.getElem?_eq_none (by rw [List.length_append]; simp; omega)] at hk
          simp at hk
    · intro i o' ho'
      have := hl (i + 1) o' (by simpa using ho')
      rw [List.length_append, List.length_singleton]
      rwa [show acc.length + (i + 1) = acc.length + 1 + i by omega] at this
/-- Every other operation waits for j, or j for it. -/
def bottle (md : Region.Mode) (lst : List Oper) (j : Nat) : Bool :=
  let A := ancs md lst []
  (List.range lst.length).all fun k => k == j || (A.getD j 0).testBit k || (A.getD k 0).testBit j
theorem bottle_spec {md : Region.Mode} {lst : List Oper} {j : Nat} (h : bottle md lst j = true) : ∀ k, k < lst.length → k = j ∨ Waits md lst.toArray j k ∨ Waits md lst.toArray k j := by
  intro k hk
  have hA : AncOk md lst.toArray (ancs md lst []) := ancs_ok lst [] (fun j k hk => by simp at hk) (fun i o ho => by simpa using ho)
  have := List.all_eq_true.1 h k (List.mem_range.2 hk)
  simp only [Bool.or_eq_true, beq_iff_eq] at this
  rcases this with (h1 | h1) | h1
  · exact .inl h1
  · exact .inr (.inl (hA _ _ h1))
  · exact .inr (.inr (hA _ _ h1))

section
variable {T : World → World → Prop} {P : Program} {lst : List Oper} {md : Region.Mode}

def anyS3 (T : World → World → Prop) (P : Program) (md : Region.Mode) (lst : List Oper) (Q : Act → World → Prop) : Nat → Array Bool → Act → World → Prop
  | 0, L, a, w => Region.ready md lst.toArray L = [] ∧ Q a w
  | fuel + 1, L, a, w => (Region.ready md lst.toArray L = [] → Q a w) ∧ ∀ i ∈ Region.ready md lst.toArray L, ∃ o, lst.toArray[i]? = some o ∧
      ((∃ v, YRT T P lst.toArray o v a w ∧ anyS3 T P md lst Q fuel (L.setIfInBounds i true) (a.put o.dst v) w) ∨
       (Region.wanted o (yielded lst.toArray a.tmps) = true ∧ gives P o a w fun v w' => T w w' ∧ anyS3 T P md lst Q fuel (L.setIfInBounds i true) (a.put o.dst v) w') ∨
       (bottle md lst i = true ∧ Region.wanted o (yielded lst.toArray a.tmps) = true ∧ gives P o a w fun v w' => anyS3 T P md lst Q fuel (L.setIfInBounds i true) (a.put o.dst v) w'))

theorem gives_any {o : Oper} {a : Act} {w : World} {R : Value → World → Prop} {K : Act → World → Prop} {Q' : Exit → Act → World → Prop} (hg : gives P o a w R) (hR : ∀ v w', R v w' → K (a.put o.dst v) w') : o.wp P a w K Q' := by
  unfold Oper.wp
  unfold gives at hg
  generalize (execOp a.eval o).run P w = r at *
  cases r with
  | ok n w' =>
    cases n <;> simp only [givesUpon] at hg <;> simp only [Oper.upon]
    case value u => exact hR _ _ hg
    case skip => exact hR _ _ hg
    case enter f args => exact hg.mono fun e w'' ⟨v, he, hr⟩ => by subst he; exact hR _ _ hr
  | halt x w' => simp only [givesUpon] at hg

theorem wpAny_of_anyS3 (hT : Pre T) {Q : Act → World → Prop} {Q' : Exit → Act → World → Prop} (hQ : ∀ a w, Q a w → Q' .normal a w) :
    ∀ (fuel : Nat) (L : Array Bool) (a : Act) (w : World), anyS3 T P md lst Q fuel L a w → wpAny P md lst.toArray Q' fuel L a w
  | 0, _, _, _, h => ⟨h.1, hQ _ _ h.2⟩
  | fuel + 1, L, a, w, h => by
    refine ⟨fun he => hQ _ _ (h.1 he), fun i hi => ?_⟩
    obtain ⟨o, ho, hc⟩ := h.2 i hi
    unfold wpOp
    rw [ho]
    dsimp only
    rcases hc with ⟨v, ⟨hw, hy⟩ | ⟨hw, rfl⟩, hn⟩ | ⟨hw, hg⟩ | ⟨_, hw, hg⟩
    · rw [if_pos hw]
      left
      unfold Oper.wp
      have hy := hy ⟨w, hT.refl w⟩
      dsimp only at hy
      generalize (execOp a.eval o).run P w = r at *
      cases r with
      | ok n w' =>
        cases n <;> simp only [readUpon] at hy <;> simp only [Oper.upon]
        case value u => obtain ⟨rfl, rfl⟩ := hy; exact wpAny_of_anyS3 hT hQ fuel _ _ _ hn
        case skip => obtain ⟨rfl, rfl⟩ := hy; exact wpAny_of_anyS3 hT hQ fuel _ _ _ hn
      | halt x w' => simp only [readUpon] at hy
    · rw [if_neg (by rw [hw]; decide)]
      exact wpAny_of_anyS3 hT hQ fuel _ _ _ hn
    · rw [if_pos hw]
      exact .inl (gives_any hg fun v w' hr => wpAny_of_anyS3 hT hQ fuel _ _ _ hr.2)
    · rw [if_pos hw]
      exact .inl (gives_any hg fun v w' hr => wpAny_of_anyS3 hT hQ fuel _ _ _ hr)

theorem anyS_read3 (hT : Pre T) {Q : Act → World → Prop} {i : Nat} {oi : Oper} {v : Value} (hi : lst.toArray[i]? = some oi) (hsel : ∀ (j : Nat) (o : Oper) cs b, lst.toArray[j]? = some o → o.op ≠ .select cs b) : ∀ (fuel : Nat) (L : Array Bool) (a : Act) (w : World),
    Closed md lst.toArray L →
    (∀ j oj, lst.toArray[j]? = some oj → j ≠ i → L.getD j true = false → (∀ e ∈ oj.after, Region.binds md e = true → e.on ≠ i) → oi.apart lst.toArray oj = true) →
    i ∈ Region.ready md lst.toArray L → YRT T P lst.toArray oi v a w → anyS3 T P md lst Q fuel (L.setIfInBounds i true) (a.put oi.dst v) w → anyS3 T P md lst Q (fuel + 1) L a w := by
  intro fuel
  induction fuel with
  | zero =>
    intro L a w _ _ hr hy H
    refine ⟨fun he => (by rw [he] at hr; cases hr), fun j hj => ?_⟩
    by_cases hji : j = i
    · subst hji; exact ⟨oi, hi, .inl ⟨v, hy, H⟩⟩
    · have := ready_mono hj hji
      rw [H.1] at this
      cases this
  | succ fuel ih =>
    intro L a w hcl hfree hr hy H
    refine ⟨fun he => (by rw [he] at hr; cases hr), fun j hj => ?_⟩
    by_cases hji : j = i
    · subst hji; exact ⟨oi, hi, .inl ⟨v, hy, H⟩⟩
    · obtain ⟨oj, hoj, hc⟩ := H.2 j (ready_mono hj hji)
      obtain ⟨hjun, oj', hoj', hall⟩ := mem_ready.1 hj
      have hio := (mem_ready.1 hr).1
      have hwait : ∀ e ∈ oj.after, Region.binds md e = true → e.on ≠ i := fun e he hb heq => by
        rw [hoj] at hoj'
        cases hoj'
        have h1 := hall e he hb
        rw [heq] at h1
        rw [Array.getD_eq_getD_getElem?] at h1 hio
        cases hx : L[i]? with
        | none => rw [hx] at h1; cases h1
        | some z => rw [hx] at h1 hio; simp at h1 hio; rw [h1] at hio; cases hio
      obtain ⟨a1, a2, a3⟩ := Oper.apart_spec (hfree j oj hoj hji hjun hwait)
      have hyi' : ∀ u, YRT T P lst.toArray oi v (a.put oj.dst u) w := fun u => hy.same (execOp_put oi (fun cs b => hsel i oi cs b hi) a oj.dst u a3) (wanted_put oi a oj.dst u a3)
      have hfree' : ∀ k ok, lst.toArray[k]? = some ok → k ≠ i → (L.setIfInBounds j true).getD k true = false → (∀ e ∈ ok.after, Region.binds md e = true → e.on ≠ i) → oi.apart lst.toArray ok = true := fun k ok hk hki hun hno => by
        refine hfree k ok hk hki ?_ hno
        by_cases hjk : j = k
        · subst hjk; exact hjun
        · rw [Go.getD_set_ne true hjk] at hun; exact hun
      have hcl' := closed_set hcl hj
      have he := execOp_put oj (fun cs b => hsel j oj cs b hoj) a oi.dst v a1
      have hw := wanted_put oj a oi.dst v a1
      rcases hc with ⟨u, hyj, hn⟩ | ⟨hwj, hg⟩ | ⟨hbt, -, -⟩
      · refine ⟨oj, hoj, .inl ⟨u, hyj.same he.symm hw.symm, ih _ _ _ hcl' hfree' (ready_mono hr (Ne.symm hji)) (hyi' u) ?_⟩⟩
        rw [Array.setIfInBounds_comm _ _ hji, ← Act.put_comm a v u a2]
        exact hn
      · rw [hw] at hwj
        refine ⟨oj, hoj, .inr (.inl ⟨hwj, ?_⟩)⟩
        unfold gives at hg ⊢
        rw [he] at hg
        refine gives_mono (o := oj) (a := a) (fun u w' hr' => ⟨hr'.1, ih _ _ _ hcl' hfree' (ready_mono hr (Ne.symm hji)) ((hyi' u).later hT hr'.1) ?_⟩) hg
        rw [Array.setIfInBounds_comm _ _ hji, ← Act.put_comm a v u a2]
        exact hr'.2
      · exfalso
        have hil : i < lst.length := by simpa using (Array.getElem?_eq_some_iff.1 hi).1
        have unl : ∀ {k : Nat}, L.getD k true = false → L.getD k false = true → False := by
          intro k h1 h2
          rw [Array.getD_eq_getD_getElem?] at h1 h2
          cases hx : L[k]? with
          | none => rw [hx] at h1; cases h1
          | some z => rw [hx] at h1 h2; simp at h1 h2; rw [h1] at h2; cases h2
        rcases bottle_spec hbt i hil with h1 | h1 | h1
        · exact hji h1.symm
        · exact unl hio (waits_listed hcl h1 oj' hoj' hall)
        · obtain ⟨_, oi', hoi', halli⟩ := mem_ready.1 hr
          exact unl hjun (waits_listed hcl h1 oi' hoi' halli)
end

/-- The order of the walk; two: either may come first; bt: a mover that may do what it likes. -/
inductive PlB where
  | nil
  | rd (k : Nat) (r : PlB)
  | mv (k : Nat) (r : PlB)
  | bt (k : Nat) (r : PlB)
  | two (k1 : Nat) (r1 : PlB) (k2 : Nat) (r2 : PlB)
def planQ (md : Region.Mode) (lst : List Oper) : PlB → Array Bool → Bool
  | .nil, L => (Region.ready md lst.toArray L).isEmpty
  | .rd k r, L => (Region.ready md lst.toArray L).contains k && Region.free md lst.toArray L k && planQ md lst r (L.setIfInBounds k true)
  | .mv k r, L => Region.ready md lst.toArray L == [k] && planQ md lst r (L.setIfInBounds k true)
  | .bt k r, L => Region.ready md lst.toArray L == [k] && bottle md lst k && planQ md lst r (L.setIfInBounds k true)
  | .two k1 r1 k2 r2, L => Region.ready md lst.toArray L == [k1, k2] && planQ md lst r1 (L.setIfInBounds k1 true) && planQ md lst r2 (L.setIfInBounds k2 true)
/-- The number of operations. -/
def PlB.len : PlB → Nat
  | .nil => 0
  | .rd _ r => r.len + 1
  | .mv _ r => r.len + 1
  | .bt _ r => r.len + 1
  | .two _ r1 _ _ => r1.len + 1
def PlB.even : PlB → Bool
  | .nil => true
  | .rd _ r => r.even
  | .mv _ r => r.even
  | .bt _ r => r.even
  | .two _ r1 _ r2 => r1.even && r2.even && r1.len == r2.len

section
variable {T : World → World → Prop} {P : Program} {lst : List Oper} {Q : Act → World → Prop}

/-- A mover's turn. -/
def moveV (T : World → World → Prop) (P : Program) (lst : List Oper) (o : Oper) (a : Act) (w : World) (R : Act → World → Prop) : Prop :=
  (Region.wanted o (yielded lst.toArray a.tmps) = true ∧ gives P o a w fun v w' => T w w' ∧ R (a.put o.dst v) w') ∨ (Region.wanted o (yielded lst.toArray a.tmps) = false ∧ R (a.put o.dst undef) w)
def walkV (T : World → World → Prop) (P : Program) (lst : List Oper) (Q : Act → World → Prop) : PlB → Act → World → Prop
  | .nil, a, w => Q a w
  | .rd k r, a, w => ∃ o, opAt lst k = some o ∧ if Region.wanted o (yielded lst.toArray a.tmps) then readsT T P o a w (fun a' => walkV T P lst Q r a' w) else walkV T P lst Q r (a.put o.dst undef) w
  | .mv k r, a, w => ∃ o, opAt lst k = some o ∧ moveV T P lst o a w (walkV T P lst Q r)
  | .bt k r, a, w => ∃ o, opAt lst k = some o ∧ ((Region.wanted o (yielded lst.toArray a.tmps) = true ∧ gives P o a w fun v w' => walkV T P lst Q r (a.put o.dst v) w') ∨ (Region.wanted o (yielded lst.toArray a.tmps) = false ∧ walkV T P lst Q r (a.put o.dst undef) w))
  | .two k1 r1 k2 r2, a, w => (∃ o, opAt lst k1 = some o ∧ moveV T P lst o a w (walkV T P lst Q r1)) ∧ (∃ o, opAt lst k2 = some o ∧ moveV T P lst o a w (walkV T P lst Q r2))

theorem moveV_any {md : Region.Mode} {o : Oper} {k fuel : Nat} {L : Array Bool} {a : Act} {w : World} {R : Act → World → Prop} (h : moveV T P lst o a w R) (hR : ∀ a' w', R a' w' → anyS3 T P md lst Q fuel (L.setIfInBounds k true) a' w') :
    (∃ v, YRT T P lst.toArray o v a w ∧ anyS3 T P md lst Q fuel (L.setIfInBounds k true) (a.put o.dst v) w) ∨
    (Region.wanted o (yielded lst.toArray a.tmps) = true ∧ gives P o a w fun v w' => T w w' ∧ anyS3 T P md lst Q fuel (L.setIfInBounds k true) (a.put o.dst v) w') ∨
    (bottle md lst k = true ∧ Region.wanted o (yielded lst.toArray a.tmps) = true ∧ gives P o a w fun v w' => anyS3 T P md lst Q fuel (L.setIfInBounds k true) (a.put o.dst v) w') := by
  rcases h with ⟨h1, h2⟩ | ⟨h1, h2⟩
  · exact .inr (.inl ⟨h1, gives_mono (fun v w' hh => ⟨hh.1, hR _ _ hh.2⟩) h2⟩)
  · exact .inl ⟨undef, .inr ⟨h1, rfl⟩, hR _ _ h2⟩

theorem anyS_walkV (hT : Pre T) {md : Region.Mode} (hs : Region.noSelect lst.toArray = true) : ∀ (p : PlB) (L : Array Bool) (a : Act) (w : World), Closed md lst.toArray L → p.even = true → planQ md lst p L = true → walkV T P lst Q p a w → anyS3 T P md lst Q p.len L a w
  | .nil, _, _, _, _, _, hB, h => ⟨by simpa [planQ] using hB, h⟩
  | .rd k r, L, a, w, hcl, he, hB, h => by
    simp only [planQ, Bool.and_eq_true] at hB
    obtain ⟨⟨hr, hf⟩, hB'⟩ := hB
    obtain ⟨o, ho, h⟩ := h
    rw [opAt_eq] at ho
    have hr' : k ∈ Region.ready md lst.toArray L := by simpa using hr
    by_cases hw : Region.wanted o (yielded lst.toArray a.tmps) = true
    · rw [if_pos hw] at h
      obtain ⟨v, hv, hn⟩ := h
      exact anyS_read3 hT ho (Region.noSelect_spec hs) r.len L a w hcl (Region.free_spec ho hf) hr' (.inl ⟨hw, hv⟩) (anyS_walkV hT hs r _ _ _ (closed_set hcl hr') he hB' hn)
    · rw [if_neg hw] at h
      exact anyS_read3 hT ho (Region.noSelect_spec hs) r.len L a w hcl (Region.free_spec ho hf) hr' (.inr ⟨by simpa using hw, rfl⟩) (anyS_walkV hT hs r _ _ _ (closed_set hcl hr') he hB' h)
  | .mv k r, L, a, w, hcl, he, hB, h => by
    simp only [planQ, Bool.and_eq_true, beq_iff_eq] at hB
    obtain ⟨hr, hB'⟩ := hB
    obtain ⟨o, ho, h⟩ := h
    rw [opAt_eq] at ho
    refine ⟨fun hx => (by rw [hx] at hr; cases hr), fun j hj => ?_⟩
    have hj0 := hj
    rw [hr] at hj
    obtain rfl : j = k := by simpa using hj
    exact ⟨o, ho, moveV_any h (fun a' w' hh => anyS_walkV hT hs r _ _ _ (closed_set hcl hj0) he hB' hh)⟩
  | .bt k r, L, a, w, hcl, he, hB, h => by
    simp only [planQ, Bool.and_eq_true, beq_iff_eq] at hB
    obtain ⟨⟨hr, hbt⟩, hB'⟩ := hB
    obtain ⟨o, ho, h⟩ := h
    rw [opAt_eq] at ho
    refine ⟨fun hx => (by rw [hx] at hr; cases hr), fun j hj => ?_⟩
    have hj0 := hj
    rw [hr] at hj
    obtain rfl : j = k := by simpa using hj
    rcases h with ⟨h1, h2⟩ | ⟨h1, h2⟩
    · exact ⟨o, ho, .inr (.inr ⟨hbt, h1, gives_mono (fun v w' hh => anyS_walkV hT hs r _ _ _ (closed_set hcl hj0) he hB' hh) h2⟩)⟩
    · exact ⟨o, ho, .inl ⟨undef, .inr ⟨h1, rfl⟩, anyS_walkV hT hs r _ _ _ (closed_set hcl hj0) he hB' h2⟩⟩
  | .two k1 r1 k2 r2, L, a, w, hcl, he, hB, h => by
    simp only [planQ, Bool.and_eq_true, beq_iff_eq] at hB
    obtain ⟨⟨hr, hB1⟩, hB2⟩ := hB
    simp only [PlB.even, Bool.and_eq_true, beq_iff_eq] at he
    obtain ⟨⟨he1, he2⟩, hl⟩ := he
    obtain ⟨⟨o1, ho1, h1⟩, ⟨o2, ho2, h2⟩⟩ := h
    rw [opAt_eq] at ho1 ho2
    refine ⟨fun hx => (by rw [hx] at hr; cases hr), fun j hj => ?_⟩
    have hj0 := hj
    rw [hr] at hj
    simp only [List.mem_cons, List.not_mem_nil, or_false] at hj
    rcases hj with rfl | rfl
    · exact ⟨o1, ho1, moveV_any h1 (fun a' w' hh => anyS_walkV hT hs r1 _ _ _ (closed_set hcl hj0) he1 hB1 hh)⟩
    · refine ⟨o2, ho2, moveV_any h2 (fun a' w' hh => ?_)⟩
      have := anyS_walkV hT hs r2 _ _ _ (closed_set hcl hj0) he2 hB2 hh
      rw [← hl] at this
      exact this

/-- A plan behind a plan. -/
def PlB.app : PlB → PlB → PlB
  | .nil, r => r
  | .rd k p, r => .rd k (p.app r)
  | .mv k p, r => .mv k (p.app r)
  | .bt k p, r => .bt k (p.app r)
  | .two k1 p1 k2 p2, r => .two k1 (p1.app r) k2 (p2.app r)
theorem walkV_cut {R : Act → World → Prop} {r : PlB} (hR : ∀ a w, R a w → walkV T P lst Q r a w) : ∀ (p : PlB) (a : Act) (w : World), walkV T P lst R p a w → walkV T P lst Q (p.app r) a w
  | .nil, a, w, h => hR a w h
  | .rd k p, a, w, h => by
    obtain ⟨o, ho, h⟩ := h
    refine ⟨o, ho, ?_⟩
    by_cases hw : Region.wanted o (yielded lst.toArray a.tmps) = true
    · rw [if_pos hw] at h ⊢
      obtain ⟨v, hv, hn⟩ := h
      exact ⟨v, hv, walkV_cut hR p _ _ hn⟩
    · rw [if_neg hw] at h ⊢
      exact walkV_cut hR p _ _ h
  | .mv k p, a, w, h => by
    obtain ⟨o, ho, ⟨h1, h2⟩ | ⟨h1, h2⟩⟩ := h
    · exact ⟨o, ho, .inl ⟨h1, gives_mono (fun v w' hh => ⟨hh.1, walkV_cut hR p _ _ hh.2⟩) h2⟩⟩
    · exact ⟨o, ho, .inr ⟨h1, walkV_cut hR p _ _ h2⟩⟩
  | .bt k p, a, w, h => by
    obtain ⟨o, ho, ⟨h1, h2⟩ | ⟨h1, h2⟩⟩ := h
    · exact ⟨o, ho, .inl ⟨h1, gives_mono (fun v w' hh => walkV_cut hR p _ _ hh) h2⟩⟩
    · exact ⟨o, ho, .inr ⟨h1, walkV_cut hR p _ _ h2⟩⟩
  | .two k1 p1 k2 p2, a, w, h => by
    obtain ⟨⟨o1, ho1, h1⟩, ⟨o2, ho2, h2⟩⟩ := h
    refine ⟨⟨o1, ho1, ?_⟩, ⟨o2, ho2, ?_⟩⟩
    · rcases h1 with ⟨h1, h3⟩ | ⟨h1, h3⟩
      · exact .inl ⟨h1, gives_mono (fun v w' hh => ⟨hh.1, walkV_cut hR p1 _ _ hh.2⟩) h3⟩
      · exact .inr ⟨h1, walkV_cut hR p1 _ _ h3⟩
    · rcases h2 with ⟨h2, h3⟩ | ⟨h2, h3⟩
      · exact .inl ⟨h2, gives_mono (fun v w' hh => ⟨hh.1, walkV_cut hR p2 _ _ hh.2⟩) h3⟩
      · exact .inr ⟨h2, walkV_cut hR p2 _ _ h3⟩
theorem walkV_named {p : PlB} {a : Act} {w : World} (h : ∀ a0, a0 = a → walkV T P lst Q p a0 w) : walkV T P lst Q p a w := h a rfl
theorem walkV_nil {a : Act} {w : World} (h : Q a w) : walkV T P lst Q .nil a w := h
theorem walkV_rd {k : Nat} {r : PlB} {o : Oper} {a : Act} {w : World} (ho : opAt lst k = some o)
    (h : ∀ K : Act → Prop, (∀ a', walkV T P lst Q r a' w → K a') → if Region.wanted o (yielded lst.toArray a.tmps) then readsT T P o a w K else K (a.put o.dst undef)) : walkV T P lst Q (.rd k r) a w := ⟨o, ho, h _ (fun _ h => h)⟩
theorem walkV_mv {k : Nat} {r : PlB} {o : Oper} {a : Act} {w : World} (ho : opAt lst k = some o)
    (h : ∀ K : Value → World → Prop, (∀ v w', T w w' → walkV T P lst Q r (a.put o.dst v) w' → K v w') → Region.wanted o (yielded lst.toArray a.tmps) = true ∧ gives P o a w K) : walkV T P lst Q (.mv k r) a w :=
  ⟨o, ho, .inl (h _ (fun _ _ h1 h2 => ⟨h1, h2⟩))⟩
theorem walkV_sk {k : Nat} {r : PlB} {o : Oper} {a : Act} {w : World} (ho : opAt lst k = some o)
    (h : ∀ K : Act → Prop, (∀ a', walkV T P lst Q r a' w → K a') → Region.wanted o (yielded lst.toArray a.tmps) = false ∧ K (a.put o.dst undef)) : walkV T P lst Q (.mv k r) a w :=
  ⟨o, ho, .inr (h _ (fun _ h => h))⟩
theorem walkV_bt {k : Nat} {r : PlB} {o : Oper} {a : Act} {w : World} (ho : opAt lst k = some o)
    (h : ∀ K : Value → World → Prop, (∀ v w', walkV T P lst Q r (a.put o.dst v) w' → K v w') → Region.wanted o (yielded lst.toArray a.tmps) = true ∧ gives P o a w K) : walkV T P lst Q (.bt k r) a w :=
  ⟨o, ho, .inl (h _ (fun _ _ h => h))⟩
theorem walkV_bs {k : Nat} {r : PlB} {o : Oper} {a : Act} {w : World} (ho : opAt lst k = some o)
    (h : ∀ K : Act → Prop, (∀ a', walkV T P lst Q r a' w → K a') → Region.wanted o (yielded lst.toArray a.tmps) = false ∧ K (a.put o.dst undef)) : walkV T P lst Q (.bt k r) a w :=
  ⟨o, ho, .inr (h _ (fun _ h => h))⟩
theorem walkV_two {k1 k2 : Nat} {r1 r2 : PlB} {o1 o2 : Oper} {a : Act} {w : World} (ho1 : opAt lst k1 = some o1) (ho2 : opAt lst k2 = some o2)
    (h1 : ∀ K : Value → World → Prop, (∀ v w', T w w' → walkV T P lst Q r1 (a.put o1.dst v) w' → K v w') → Region.wanted o1 (yielded lst.toArray a.tmps) = true ∧ gives P o1 a w K)
    (h2 : ∀ K : Value → World → Prop, (∀ v w', T w w' → walkV T P lst Q r2 (a.put o2.dst v) w' → K v w') → Region.wanted o2 (yielded lst.toArray a.tmps) = true ∧ gives P o2 a w K) : walkV T P lst Q (.two k1 r1 k2 r2) a w :=
  ⟨⟨o1, ho1, .inl (h1 _ (fun _ _ h1 h2 => ⟨h1, h2⟩))⟩, ⟨o2, ho2, .inl (h2 _ (fun _ _ h1 h2 => ⟨h1, h2⟩))⟩⟩
end

/-- The region. -/
theorem any_walkV {T : World → World → Prop} {P : Program} (hT : Pre T) {Q : Exit → Act → World → Prop} {a : Act} {w : World} {lst : List Oper} (p : PlB) (hn : p.len = lst.length) (he : p.even = true) (hs : Region.noSelect lst.toArray = true)
    (hB : planQ .any lst p (Array.replicate lst.length false) = true) (h : walkV T P lst (fun a' w' => Q .normal a' w') p a w) : wpAny P .any lst.toArray Q lst.toArray.size (Array.replicate lst.toArray.size false) a w := by
  have hsz : lst.toArray.size = p.len := by rw [hn]; simp
  rw [hsz]
  refine wpAny_of_anyS3 hT (Q := fun a' w' => Q .normal a' w') (fun _ _ h => h) _ _ _ _ ?_
  rw [← hn] at hB
  exact anyS_walkV hT hs p _ _ _ (closed_start _ _ _) he hB h
theorem wp_walkV {T : World → World → Prop} {P : Program} (hT : Pre T) {Q : Exit → Act → World → Prop} {id : Nat} {a : Act} {w : World} {lst : List Oper} (p : PlB) (hm : P.follows .mixedOrders = true) (hn : p.len = lst.length) (he : p.even = true) (hs : Region.noSelect lst.toArray = true)
    (hB : planQ .any lst p (Array.replicate lst.length false) = true) (h : walkV T P lst (fun a' w' => Q .normal a' w') p a w.drew) : (Code.region id lst.toArray true).wp P Q a w :=
  wp_region_any hm (any_walkV hT p hn he hs hB h)
/-- .. within a round of a range over a function. -/
theorem wpIn_walkV {T : World → World → Prop} {P : Program} (hT : Pre T) {Q : Exit → Act → World → Prop} {id r n : Nat} {a : Act} {w : World} {lst : List Oper} (p : PlB) (hm : P.follows .mixedOrders = true) (hd : noDefer lst.toArray = true) (hQ : ¬ LetsOut Q) (hn : p.len = lst.length) (he : p.even = true) (hs : Region.noSelect lst.toArray = true)
    (hB : planQ .any lst p (Array.replicate lst.length false) = true) (h : walkV T P lst (fun a' w' => Q .normal a' w') p a w.drew) : (Code.region id lst.toArray true).wpIn (Fence.wide.inRound r) n P Q a w :=
  wpIn_region_any hm (wpAny_round hd hQ _ _ _ _ (any_walkV hT p hn he hs hB h))
theorem belowV_pre (B : Nat) : Pre (Below B) := ⟨fun w => Below.refl B w, fun h k => h.trans k⟩
instance instBelowV (B : Nat) (W : World) : Nonempty (SubT (Below B) W) := ⟨⟨W, Below.refl B W⟩⟩

end Go.Proofs.Ytcpefolhohakmaa
