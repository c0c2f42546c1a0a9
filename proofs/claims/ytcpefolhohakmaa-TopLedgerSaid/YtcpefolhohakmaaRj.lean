/- Regions that draw their order: behind the reads, movers in whatever order, under an invariant that tells what holds of the operations that have come up. -/
import Derived.Test.YtcpefolhohakmaaRv
namespace Go.Proofs.Ytcpefolhohakmaa
open Go.RowKit

/-- The place of an operation's answer. -/
def dstAt (lst : List Oper) (k : Nat) : Option Tmp := (opAt lst k).bind (·.dst)
/-- The answers V of the operations ks, put. -/
def putsO (lst : List Oper) : List Nat → (Nat → Value) → Act → Act
  | [], _, a => a
  | k :: r, V, a => putsO lst r V (a.put (dstAt lst k) (V k))
/-- The same, by pairs (operation, place). -/
def putsP : List (Nat × Tmp) → (Nat → Value) → Act → Act
  | [], _, a => a
  | (k, d) :: r, V, a => putsP r V (a.put (some d) (V k))
/-- l, and k too. -/
def updL (l : Nat → Bool) (k : Nat) : Nat → Bool := fun j => if j = k then true else l j
def updV (V : Nat → Value) (k : Nat) (v : Value) : Nat → Value := fun j => if j = k then v else V j
theorem updL_same (l : Nat → Bool) (k : Nat) : updL l k k = true := if_pos rfl
theorem updL_other (l : Nat → Bool) {k j : Nat} (h : j ≠ k) : updL l k j = l j := if_neg h
theorem updV_same (V : Nat → Value) (k : Nat) (v : Value) : updV V k v k = v := if_pos rfl
theorem updV_other (V : Nat → Value) {k j : Nat} (v : Value) (h : j ≠ k) : updV V k v j = V j := if_neg h

/-- Operations of ks that k waits for. -/
def ancIn (lst : List Oper) (ks : List Nat) (k : Nat) : List Nat := ks.filter fun j => ((ancs .any lst []).getD k 0).testBit j
/-- Operations of ks that wait for k. -/
def desIn (lst : List Oper) (ks : List Nat) (k : Nat) : List Nat := ks.filter fun j => ((ancs .any lst []).getD j 0).testBit k
def pairsOf (lst : List Oper) (js : List Nat) : List (Nat × Tmp) := js.filterMap fun j => (dstAt lst j).map fun d => (j, d)

theorem putsO_pairs (lst : List Oper) : ∀ (js : List Nat) (V : Nat → Value) (a : Act), putsO lst js V a = putsP (pairsOf lst js) V a
  | [], _, _ => rfl
  | j :: r, V, a => by
    unfold putsO pairsOf
    rw [List.filterMap_cons]
    cases h : dstAt lst j with
    | none => exact putsO_pairs lst r V a
    | some d => exact putsO_pairs lst r V (a.put (some d) (V j))

section
variable {lst : List Oper}
theorem putsO_put : ∀ (js : List Nat) (V : Nat → Value) (a : Act) (x : Option Tmp) (v : Value), (∀ j ∈ js, ∀ d, dstAt lst j = some d → x ≠ some d) → putsO lst js V (a.put x v) = (putsO lst js V a).put x v
  | [], _, _, _, _, _ => rfl
  | j :: r, V, a, x, v, h => by
    show putsO lst r V ((a.put x v).put (dstAt lst j) (V j)) = (putsO lst r V (a.put (dstAt lst j) (V j))).put x v
    rw [Act.put_comm a v (V j) (fun d hx hd => h j (List.mem_cons_self ..) d hd hx)]
    exact putsO_put r V _ x v (fun i hi => h i (List.mem_cons_of_mem _ hi))
theorem putsO_congr : ∀ (js : List Nat) {V V' : Nat → Value} (a : Act), (∀ j ∈ js, V j = V' j) → putsO lst js V a = putsO lst js V' a
  | [], _, _, _, _ => rfl
  | j :: r, V, V', a, h => by
    show putsO lst r V (a.put (dstAt lst j) (V j)) = putsO lst r V' (a.put (dstAt lst j) (V' j))
    rw [h j (List.mem_cons_self ..)]
    exact putsO_congr r _ (fun i hi => h i (List.mem_cons_of_mem _ hi))
/-- What an operation sees depends on what it looks at alone. -/
theorem putsO_sees {α : Type} (f : Act → α) (ok : Option Tmp → Prop) (hf : ∀ a x v, ok x → f (a.put x v) = f a) : ∀ (js : List Nat) (l m : Nat → Bool) (V : Nat → Value) (a : Act),
    (∀ j ∈ js, m j = true → l j = true) → (∀ j ∈ js, m j = false → ok (dstAt lst j)) → js.Nodup → (∀ i ∈ js, ∀ j ∈ js, i ≠ j → ∀ d, dstAt lst j = some d → dstAt lst i ≠ some d) →
    f (putsO lst (js.filter l) V a) = f (putsO lst (js.filter m) V a)
  | [], _, _, _, _, _, _, _, _ => rfl
  | j :: r, l, m, V, a, h1, h2, hn, hd => by
    have ih := fun a => putsO_sees f ok hf r l m V a (fun i hi => h1 i (List.mem_cons_of_mem _ hi)) (fun i hi => h2 i (List.mem_cons_of_mem _ hi)) (List.nodup_cons.1 hn).2 (fun i hi k hk => hd i (List.mem_cons_of_mem _ hi) k (List.mem_cons_of_mem _ hk))
    cases hm : m j with
    | true =>
      have hl := h1 j (List.mem_cons_self ..) hm
      rw [List.filter_cons_of_pos hl, List.filter_cons_of_pos hm]
      exact ih _
    | false =>
      rw [List.filter_cons_of_neg (p := m) (by rw [hm]; decide)]
      cases hl : l j with
      | false => rw [List.filter_cons_of_neg (p := l) (by rw [hl]; decide)]; exact ih a
      | true =>
        rw [List.filter_cons_of_pos (p := l) hl]
        show f (putsO lst (r.filter l) V (a.put (dstAt lst j) (V j))) = _
        rw [putsO_put (r.filter l) V a _ _ (fun i hi d hdi => hd j (List.mem_cons_self ..) i (List.mem_cons_of_mem _ (List.mem_filter.1 hi).1) (fun e => (List.nodup_cons.1 hn).1 (e ▸ (List.mem_filter.1 hi).1)) d hdi), hf _ _ _ (h2 j (List.mem_cons_self ..) hm)]
        exact ih a
/-- One more answer. -/
theorem putsO_upd : ∀ (js : List Nat) (l : Nat → Bool) (V : Nat → Value) (a : Act) (k : Nat) (v : Value), k ∈ js → l k = false → js.Nodup → (∀ i ∈ js, ∀ j ∈ js, i ≠ j → ∀ d, dstAt lst j = some d → dstAt lst i ≠ some d) →
    (putsO lst (js.filter l) V a).put (dstAt lst k) v = putsO lst (js.filter (updL l k)) (updV V k v) a
  | [], _, _, _, _, _, h, _, _, _ => by cases h
  | j :: r, l, V, a, k, v, hk, hl, hn, hd => by
    have hn' := List.nodup_cons.1 hn
    by_cases hjk : j = k
    · subst hjk
      rw [List.filter_cons_of_neg (by rw [hl]; decide), List.filter_cons_of_pos (updL_same l j)]
      show _ = putsO lst (r.filter (updL l j)) (updV V j v) (a.put (dstAt lst j) (updV V j v j))
      rw [updV_same]
      have e1 : r.filter (updL l j) = r.filter l := List.filter_congr fun i hi => updL_other l (fun e => hn'.1 (e ▸ hi))
      rw [e1, putsO_congr (V := updV V j v) (V' := V) (r.filter l) _ (fun i hi => updV_other V v (fun e => hn'.1 (e ▸ (List.mem_filter.1 hi).1)))]
      exact (putsO_put (r.filter l) V a _ _ (fun i hi d hdi => hd j (List.mem_cons_self ..) i (List.mem_cons_of_mem _ (List.mem_filter.1 hi).1) (fun e => hn'.1 (e ▸ (List.mem_filter.1 hi).1)) d hdi)).symm
    · have hkr : k ∈ r := by
        rcases List.mem_cons.1 hk with h | h
        · exact absurd h.symm hjk
        · exact h
      have ih := fun a => putsO_upd r l V a k v hkr hl hn'.2 (fun i hi x hx => hd i (List.mem_cons_of_mem _ hi) x (List.mem_cons_of_mem _ hx))
      cases hlj : l j with
      | true =>
        rw [List.filter_cons_of_pos hlj, List.filter_cons_of_pos (by rw [updL_other l hjk]; exact hlj)]
        show (putsO lst (r.filter l) V (a.put (dstAt lst j) (V j))).put (dstAt lst k) v = putsO lst (r.filter (updL l k)) (updV V k v) (a.put (dstAt lst j) (updV V k v j))
        rw [updV_other V v hjk]
        exact ih _
      | false =>
        rw [List.filter_cons_of_neg (by rw [hlj]; decide), List.filter_cons_of_neg (by rw [updL_other l hjk, hlj]; decide)]
        exact ih a
end

/-- What is asked of the operations that are left. -/
def okI (lst : List Oper) (ks : List Nat) (L : Array Bool) : Bool :=
  ks.Nodup && (L.size == lst.length) && (List.range lst.length).all (fun i => ks.contains i == !(L.getD i true)) && ks.all (fun k => k < lst.length) &&
  ks.all (fun k => match opAt lst k with | some o => o.after.all (fun e => !(Region.binds .any e) || decide (e.on < k)) | none => false) &&
  ks.all (fun i => ks.all fun j => i == j || (match dstAt lst j with | some d => !(dstAt lst i == some d) | none => true)) &&
  ks.all (fun k => ks.all fun j => (((ancs .any lst []).getD k 0).testBit j) || (match opAt lst k, dstAt lst j with | some o, some d => !((o.looksAt lst.toArray).contains d) | _, _ => true))
structure OkI (lst : List Oper) (ks : List Nat) (L : Array Bool) : Prop where
  nodup : ks.Nodup
  size : L.size = lst.length
  open_ : ∀ i, i < lst.length → (i ∈ ks ↔ L.getD i true = false)
  lt : ∀ k ∈ ks, k < lst.length
  back : ∀ k ∈ ks, ∀ o, opAt lst k = some o → ∀ e ∈ o.after, Region.binds .any e = true → e.on < k
  dst : ∀ i ∈ ks, ∀ j ∈ ks, i ≠ j → ∀ d, dstAt lst j = some d → dstAt lst i ≠ some d
  looks : ∀ k ∈ ks, ∀ j ∈ ks, ((ancs .any lst []).getD k 0).testBit j = false → ∀ o, opAt lst k = some o → ∀ d, dstAt lst j = some d → d ∉ o.looksAt lst.toArray
theorem okI_spec {lst : List Oper} {ks : List Nat} {L : Array Bool} (h : okI lst ks L = true) : OkI lst ks L := by
  unfold okI at h
  simp only [Bool.and_eq_true, List.all_eq_true, decide_eq_true_eq, beq_iff_eq] at h
  obtain ⟨⟨⟨⟨⟨⟨h1, h2⟩, h3⟩, h4⟩, h5⟩, h6⟩, h7⟩ := h
  refine ⟨by simpa using h1, h2, ?_, h4, ?_, ?_, ?_⟩
  · intro i hi
    have := h3 i (List.mem_range.2 hi)
    cases hL : L.getD i true <;> rw [hL] at this <;> simp at this <;> simp [this]
  · intro k hk o ho e he hb
    have := h5 k hk
    rw [ho] at this
    have := Array.all_eq_true'.1 this e he
    rw [hb] at this
    simpa using this
  · intro i hi j hj hij d hd hi2
    have := h6 i hi j hj
    rw [hd, hi2] at this
    simp at this
    exact hij this
  · intro k hk j hj ht o ho d hd hm
    have := h7 k hk j hj
    rw [ht, ho, hd] at this
    simp at this
    exact this hm

section
variable {T : World → World → Prop} {P : Program} {lst : List Oper} {Q : Act → World → Prop}
/-- One operation's duty: from every state in which what it waits for has come up. -/
def stepI (T : World → World → Prop) (P : Program) (lst : List Oper) (ks : List Nat) (Inv : (Nat → Bool) → (Nat → Value) → World → Prop) (a : Act) (w : World) (k : Nat) : Prop :=
  ∃ o, opAt lst k = some o ∧ ∀ (l : Nat → Bool) (V : Nat → Value) (w' : World), T w w' → (∀ j ∈ ancIn lst ks k, l j = true) → (∀ j ∈ desIn lst ks k, l j = false) → l k = false → Inv l V w' →
    (Region.wanted o (yielded lst.toArray (putsO lst (ancIn lst ks k) V a).tmps) = true ∧ gives P o (putsO lst (ancIn lst ks k) V a) w' fun v w'' => T w' w'' ∧ Inv (updL l k) (updV V k v) w'') ∨
    (Region.wanted o (yielded lst.toArray (putsO lst (ancIn lst ks k) V a).tmps) = false ∧ Inv (updL l k) (updV V k undef) w')

theorem anyS_inv (hT : Pre T) (hs : Region.noSelect lst.toArray = true) {ks : List Nat} {L0 : Array Bool} (hk : OkI lst ks L0) {a0 : Act} {w0 : World} (Inv : (Nat → Bool) → (Nat → Value) → World → Prop)
    (hstep : ∀ k ∈ ks, stepI T P lst ks Inv a0 w0 k) (hfin : ∀ V w', T w0 w' → Inv (fun j => ks.contains j) V w' → Q (putsO lst ks V a0) w') :
    ∀ (fuel : Nat) (l : Nat → Bool) (V : Nat → Value) (L : Array Bool) (a : Act) (w : World), (ks.filter fun j => !(l j)).length = fuel → L.size = lst.length → (∀ i, i < lst.length → (L.getD i true = false ↔ i ∈ ks ∧ l i = false)) → Closed .any lst.toArray L →
      a = putsO lst (ks.filter l) V a0 → (∀ j, j ∉ ks → l j = false) → T w0 w → Inv l V w → anyS3 T P .any lst Q fuel L a w := by
  intro fuel
  have ready_in : ∀ (l : Nat → Bool) (L : Array Bool), L.size = lst.length → (∀ i, i < lst.length → (L.getD i true = false ↔ i ∈ ks ∧ l i = false)) → ∀ i ∈ Region.ready .any lst.toArray L, i ∈ ks ∧ l i = false := by
    intro l L hsz hL i hi
    obtain ⟨hun, oi, hoi, _⟩ := mem_ready.1 hi
    have hil : i < lst.length := by simpa using (Array.getElem?_eq_some_iff.1 hoi).1
    exact (hL i hil).1 hun
  have all_done : ∀ (l : Nat → Bool), (ks.filter fun j => !(l j)).length = 0 → ∀ j ∈ ks, l j = true := by
    intro l h j hj
    rw [List.length_eq_zero_iff, List.filter_eq_nil_iff] at h
    simpa using h j hj
  induction fuel with
  | zero =>
    intro l V L a w hf hsz hL _ ha hsup hw hI
    have hd := all_done l hf
    refine ⟨?_, ?_⟩
    · cases hr : Region.ready .any lst.toArray L with
      | nil => rfl
      | cons i r =>
        have := ready_in l L hsz hL i (by rw [hr]; exact List.mem_cons_self ..)
        rw [hd i this.1] at this
        cases this.2
    · rw [ha, List.filter_eq_self.2 hd]
      have he : l = fun j => ks.contains j := by
        funext j
        by_cases hj : j ∈ ks
        · rw [hd j hj]; simp [hj]
        · rw [hsup j hj]; simp [hj]
      rw [← he] at hfin
      exact hfin V w hw hI
  | succ fuel ih =>
    intro l V L a w hf hsz hL hcl ha hsup hw hI
    refine ⟨?_, ?_⟩
    · intro hnil
      exfalso
      -- the first one that is left can come up
      have hne : (ks.filter fun j => !(l j)) ≠ [] := by intro h; rw [h] at hf; cases hf
      obtain ⟨k, hk1, hk2⟩ : ∃ k, (k ∈ ks ∧ l k = false) ∧ ∀ i, i < k → ¬ (i ∈ ks ∧ l i = false) := by
        obtain ⟨j, hj⟩ := List.exists_mem_of_ne_nil _ hne
        have hj' : j ∈ ks ∧ l j = false := by simpa using hj
        have key : ∀ n, (∃ j, j ≤ n ∧ j ∈ ks ∧ l j = false) → ∃ k, (k ∈ ks ∧ l k = false) ∧ ∀ i, i < k → ¬ (i ∈ ks ∧ l i = false) := by
          intro n
          induction n with
          | zero =>
            rintro ⟨j, h1, h2⟩
            obtain rfl : j = 0 := by omega
            exact ⟨0, h2, fun i hi => absurd hi (Nat.not_lt_zero i)⟩
          | succ n ihn =>
            rintro ⟨j, h1, h2⟩
            by_cases hex : ∃ j, j ≤ n ∧ j ∈ ks ∧ l j = false
            · exact ihn hex
            · refine ⟨j, h2, fun i hi hh => hex ⟨i, ?_, hh⟩⟩
              omega
        exact key j ⟨j, Nat.le_refl _, hj'⟩
      have hkl := hk.lt k hk1.1
      have : k ∈ Region.ready .any lst.toArray L := by
        refine mem_ready.2 ⟨(hL k hkl).2 hk1, ?_⟩
        obtain ⟨o, ho, _⟩ := hstep k hk1.1
        refine ⟨o, by rw [← opAt_eq]; exact ho, fun e he hb => ?_⟩
        have hlt := hk.back k hk1.1 o ho e he hb
        have hn := hk2 e.on hlt
        cases hx : L.getD e.on true with
        | false => exact absurd ((hL e.on (by omega)).1 hx) hn
        | true =>
          rw [Array.getD_eq_getD_getElem?] at hx ⊢
          rw [Array.getElem?_eq_getElem (by rw [hsz]; omega)] at hx ⊢
          exact hx
      rw [hnil] at this
      cases this
    · intro i hi
      obtain ⟨hik, hil⟩ := ready_in l L hsz hL i hi
      obtain ⟨o, ho, hst⟩ := hstep i hik
      obtain ⟨hun, oi, hoi, hall⟩ := mem_ready.1 hi
      have ho' : lst.toArray[i]? = some o := by rw [← opAt_eq]; exact ho
      have hanc : ∀ j ∈ ancIn lst ks i, l j = true := by
        intro j hj
        obtain ⟨hjk, hjb⟩ := List.mem_filter.1 hj
        have hA : AncOk .any lst.toArray (ancs .any lst []) := ancs_ok lst [] (fun j k hk => by simp at hk) (fun i o ho => by simpa using ho)
        have := waits_listed hcl (hA i j hjb) oi hoi hall
        cases hlj : l j with
        | true => rfl
        | false =>
          have h0 := (hL j (hk.lt j hjk)).2 ⟨hjk, hlj⟩
          rw [Array.getD_eq_getD_getElem?] at this h0
          cases hx : L[j]? with
          | none => rw [hx] at this; cases this
          | some z => rw [hx] at this h0; simp at this h0; rw [this] at h0; cases h0
      have hdes : ∀ j ∈ desIn lst ks i, l j = false := by
        intro j hj
        obtain ⟨hjk, hjb⟩ := List.mem_filter.1 hj
        cases hlj : l j with
        | false => rfl
        | true =>
          exfalso
          have hA : AncOk .any lst.toArray (ancs .any lst []) := ancs_ok lst [] (fun j k hk => by simp at hk) (fun i o ho => by simpa using ho)
          have hjl := hk.lt j hjk
          have hLj : L.getD j false = true := by
            cases hx : L.getD j true with
            | false => rw [((hL j hjl).1 hx).2] at hlj; cases hlj
            | true =>
              rw [Array.getD_eq_getD_getElem?] at hx ⊢
              rw [Array.getElem?_eq_getElem (by rw [hsz]; omega)] at hx ⊢
              exact hx
          obtain ⟨oj, hoj⟩ : ∃ oj, lst.toArray[j]? = some oj := ⟨lst[j], by simp [hjl]⟩
          have := waits_listed hcl (hA j i hjb) oj hoj (fun e he hb => hcl j oj hoj hLj e he hb)
          rw [Array.getD_eq_getD_getElem?] at this hun
          cases hx : L[i]? with
          | none => rw [hx] at this; cases this
          | some z => rw [hx] at this hun; simp at this hun; rw [this] at hun; cases hun
      have hsel := Region.noSelect_spec hs i o
      have hm : ∀ j ∈ ks, ((ancs .any lst []).getD i 0).testBit j = true → l j = true := fun j hj hb => hanc j (List.mem_filter.2 ⟨hj, hb⟩)
      have hx : execOp a.eval o = execOp (putsO lst (ancIn lst ks i) V a0).eval o := by
        rw [ha]
        exact putsO_sees (fun a : Act => execOp a.eval o) (fun x => ∀ d, x = some d → d ∉ o.looksAt lst.toArray) (fun a x v hok => execOp_put o (fun cs b => hsel cs b ho') a x v hok) ks l _ V a0 hm
          (fun j hj hb d hd => hk.looks i hik j hj hb o ho d hd) hk.nodup hk.dst
      have hwn : Region.wanted o (yielded lst.toArray a.tmps) = Region.wanted o (yielded lst.toArray (putsO lst (ancIn lst ks i) V a0).tmps) := by
        rw [ha]
        exact putsO_sees (fun a : Act => Region.wanted o (yielded lst.toArray a.tmps)) (fun x => ∀ d, x = some d → d ∉ o.looksAt lst.toArray) (fun a x v hok => wanted_put o a x v hok) ks l _ V a0 hm
          (fun j hj hb d hd => hk.looks i hik j hj hb o ho d hd) hk.nodup hk.dst
      have hdst : o.dst = dstAt lst i := by unfold dstAt; rw [ho]; rfl
      have next : ∀ v w', T w w' → Inv (updL l i) (updV V i v) w' → anyS3 T P .any lst Q fuel (L.setIfInBounds i true) (a.put o.dst v) w' := by
        intro v w' hw' hI'
        have hilt := hk.lt i hik
        refine ih (updL l i) (updV V i v) _ _ _ ?_ (by simpa using hsz) ?_ (closed_set hcl hi) ?_ (fun j hj => by rw [updL_other l (fun e : j = i => hj (by rw [e]; exact hik))]; exact hsup j hj) (hT.trans hw hw') hI'
        · have key : ∀ (js : List Nat), js.Nodup → (i ∈ js → (js.filter fun j => !(l j)).length = (js.filter fun j => !(updL l i j)).length + 1) ∧ (i ∉ js → (js.filter fun j => !(l j)).length = (js.filter fun j => !(updL l i j)).length) := by
            intro js
            induction js with
            | nil => intro _; exact ⟨fun h => (by cases h), fun _ => rfl⟩
            | cons j r ihr =>
              intro hn
              have hn' := List.nodup_cons.1 hn
              obtain ⟨r1, r2⟩ := ihr hn'.2
              by_cases hji : j = i
              · subst hji
                have := r2 hn'.1
                refine ⟨fun _ => ?_, fun h => absurd (List.mem_cons_self ..) h⟩
                rw [List.filter_cons_of_pos (by rw [hil]; rfl), List.filter_cons_of_neg (by rw [updL_same]; decide), List.length_cons, this]
              · refine ⟨fun h => ?_, fun h => ?_⟩
                · have hir : i ∈ r := by
                    rcases List.mem_cons.1 h with h | h
                    · exact absurd h.symm hji
                    · exact h
                  have := r1 hir
                  rw [List.filter_cons, List.filter_cons, updL_other l hji]
                  split
                  · rw [List.length_cons, List.length_cons, this]
                  · exact this
                · have := r2 (fun hh => h (List.mem_cons_of_mem _ hh))
                  rw [List.filter_cons, List.filter_cons, updL_other l hji]
                  split
                  · rw [List.length_cons, List.length_cons, this]
                  · exact this
          have := (key ks hk.nodup).1 hik
          omega
        · intro j hj
          by_cases hji : j = i
          · subst hji
            rw [Array.getD_eq_getD_getElem?, Array.getElem?_setIfInBounds_self_of_lt (by rw [hsz]; exact hj), updL_same]
            simp
          · rw [Go.getD_set_ne true (Ne.symm hji), updL_other l hji]
            exact hL j hj
        · rw [ha, hdst]
          exact putsO_upd ks l V a0 i v hik hil hk.nodup hk.dst
      rcases hst l V w hw hanc hdes hil hI with ⟨h1, h2⟩ | ⟨h1, h2⟩
      · refine ⟨o, ho', .inr (.inl ⟨hwn.trans h1, ?_⟩)⟩
        unfold gives at h2 ⊢
        rw [hx]
        exact gives_mono (o := o) (a := putsO lst (ancIn lst ks i) V a0) (fun v w' hr => ⟨hr.1, next v w' hr.1 hr.2⟩) h2
      · exact ⟨o, ho', .inl ⟨undef, .inr ⟨hwn.trans h1, rfl⟩, next undef w (hT.refl w) h2⟩⟩
end

/-- The order of the walk: reads and lone movers first; then the rest, in whatever order. -/
inductive PlJ where
  | rd (k : Nat) (r : PlJ)
  | mv (k : Nat) (r : PlJ)
  | bt (k : Nat) (r : PlJ)
  | inv (ks : List Nat)
def planJ (lst : List Oper) : PlJ → Array Bool → Bool
  | .inv ks, L => okI lst ks L
  | .rd k r, L => (Region.ready .any lst.toArray L).contains k && Region.free .any lst.toArray L k && planJ lst r (L.setIfInBounds k true)
  | .mv k r, L => Region.ready .any lst.toArray L == [k] && planJ lst r (L.setIfInBounds k true)
  | .bt k r, L => Region.ready .any lst.toArray L == [k] && bottle .any lst k && planJ lst r (L.setIfInBounds k true)
def PlJ.len : PlJ → Nat
  | .inv ks => ks.length
  | .rd _ r => r.len + 1
  | .mv _ r => r.len + 1
  | .bt _ r => r.len + 1

section
variable {T : World → World → Prop} {P : Program} {lst : List Oper} {Q : Act → World → Prop}
def walkJ (T : World → World → Prop) (P : Program) (lst : List Oper) (Q : Act → World → Prop) : PlJ → Act → World → Prop
  | .inv ks, a, w => ∃ Inv : (Nat → Bool) → (Nat → Value) → World → Prop, Inv (fun _ => false) (fun _ => undef) w ∧ (∀ k ∈ ks, stepI T P lst ks Inv a w k) ∧ (∀ V w', T w w' → Inv (fun j => ks.contains j) V w' → Q (putsO lst ks V a) w')
  | .rd k r, a, w => ∃ o, opAt lst k = some o ∧ if Region.wanted o (yielded lst.toArray a.tmps) then readsT T P o a w (fun a' => walkJ T P lst Q r a' w) else walkJ T P lst Q r (a.put o.dst undef) w
  | .mv k r, a, w => ∃ o, opAt lst k = some o ∧ moveV T P lst o a w (walkJ T P lst Q r)
  | .bt k r, a, w => ∃ o, opAt lst k = some o ∧ ((Region.wanted o (yielded lst.toArray a.tmps) = true ∧ gives P o a w fun v w' => walkJ T P lst Q r (a.put o.dst v) w') ∨ (Region.wanted o (yielded lst.toArray a.tmps) = false ∧ walkJ T P lst Q r (a.put o.dst undef) w))

theorem filter_none (ks : List Nat) : ks.filter (fun _ : Nat => false) = [] := by induction ks <;> simp_all
theorem filter_all (ks : List Nat) : ks.filter (fun _ : Nat => !false) = ks := by induction ks <;> simp_all
theorem size_set' (L : Array Bool) (k : Nat) : (L.setIfInBounds k true).size = L.size := by simp
theorem anyS_walkJ (hT : Pre T) (hs : Region.noSelect lst.toArray = true) : ∀ (p : PlJ) (L : Array Bool) (a : Act) (w : World), L.size = lst.length → Closed .any lst.toArray L → planJ lst p L = true → walkJ T P lst Q p a w → anyS3 T P .any lst Q p.len L a w
  | .inv ks, L, a, w, hz, hcl, hB, h => by
    obtain ⟨Inv, h0, h1, h2⟩ := h
    have hk := okI_spec (lst := lst) (ks := ks) (L := L) hB
    refine anyS_inv hT hs hk Inv h1 h2 ks.length (fun _ => false) (fun _ => undef) L a w (by rw [filter_all]) hz ?_ hcl ?_ (fun _ _ => rfl) (hT.refl w) h0
    · intro i hi
      rw [← hk.open_ i hi]
      simp
    · rw [filter_none]; rfl
  | .rd k r, L, a, w, hz, hcl, hB, h => by
    simp only [planJ, Bool.and_eq_true] at hB
    obtain ⟨⟨hr, hf⟩, hB'⟩ := hB
    obtain ⟨o, ho, h⟩ := h
    rw [opAt_eq] at ho
    have hr' : k ∈ Region.ready .any lst.toArray L := by simpa using hr
    by_cases hw : Region.wanted o (yielded lst.toArray a.tmps) = true
    · rw [if_pos hw] at h
      obtain ⟨v, hv, hn⟩ := h
      exact anyS_read3 hT ho (Region.noSelect_spec hs) r.len L a w hcl (Region.free_spec ho hf) hr' (.inl ⟨hw, hv⟩) (anyS_walkJ hT hs r _ _ _ ((size_set' L k).trans hz) (closed_set hcl hr') hB' hn)
    · rw [if_neg hw] at h
      exact anyS_read3 hT ho (Region.noSelect_spec hs) r.len L a w hcl (Region.free_spec ho hf) hr' (.inr ⟨by simpa using hw, rfl⟩) (anyS_walkJ hT hs r _ _ _ ((size_set' L k).trans hz) (closed_set hcl hr') hB' h)
  | .mv k r, L, a, w, hz, hcl, hB, h => by
    simp only [planJ, Bool.and_eq_true, beq_iff_eq] at hB
    obtain ⟨hr, hB'⟩ := hB
    obtain ⟨o, ho, h⟩ := h
    rw [opAt_eq] at ho
    refine ⟨fun hx => (by rw [hx] at hr; cases hr), fun j hj => ?_⟩
    have hj0 := hj
    rw [hr] at hj
    obtain rfl : j = k := by simpa using hj
    exact ⟨o, ho, moveV_any h (fun a' w' hh => anyS_walkJ hT hs r _ _ _ ((size_set' L j).trans hz) (closed_set hcl hj0) hB' hh)⟩
  | .bt k r, L, a, w, hz, hcl, hB, h => by
    simp only [planJ, Bool.and_eq_true, beq_iff_eq] at hB
    obtain ⟨⟨hr, hbt⟩, hB'⟩ := hB
    obtain ⟨o, ho, h⟩ := h
    rw [opAt_eq] at ho
    refine ⟨fun hx => (by rw [hx] at hr; cases hr), fun j hj => ?_⟩
    have hj0 := hj
    rw [hr] at hj
    obtain rfl : j = k := by simpa using hj
    rcases h with ⟨h1, h2⟩ | ⟨h1, h2⟩
    · exact ⟨o, ho, .inr (.inr ⟨hbt, h1, gives_mono (fun v w' hh => anyS_walkJ hT hs r _ _ _ ((size_set' L j).trans hz) (closed_set hcl hj0) hB' hh) h2⟩)⟩
    · exact ⟨o, ho, .inl ⟨undef, .inr ⟨h1, rfl⟩, anyS_walkJ hT hs r _ _ _ ((size_set' L j).trans hz) (closed_set hcl hj0) hB' h2⟩⟩

theorem walkJ_rd {k : Nat} {r : PlJ} {o : Oper} {a : Act} {w : World} (ho : opAt lst k = some o)
    (h : ∀ K : Act → Prop, (∀ a', walkJ T P lst Q r a' w → K a') → if Region.wanted o (yielded lst.toArray a.tmps) then readsT T P o a w K else K (a.put o.dst undef)) : walkJ T P lst Q (.rd k r) a w := ⟨o, ho, h _ (fun _ h => h)⟩
theorem walkJ_mv {k : Nat} {r : PlJ} {o : Oper} {a : Act} {w : World} (ho : opAt lst k = some o)
    (h : ∀ K : Value → World → Prop, (∀ v w', T w w' → walkJ T P lst Q r (a.put o.dst v) w' → K v w') → Region.wanted o (yielded lst.toArray a.tmps) = true ∧ gives P o a w K) : walkJ T P lst Q (.mv k r) a w :=
  ⟨o, ho, .inl (h _ (fun _ _ h1 h2 => ⟨h1, h2⟩))⟩
theorem walkJ_sk {k : Nat} {r : PlJ} {o : Oper} {a : Act} {w : World} (ho : opAt lst k = some o)
    (h : ∀ K : Act → Prop, (∀ a', walkJ T P lst Q r a' w → K a') → Region.wanted o (yielded lst.toArray a.tmps) = false ∧ K (a.put o.dst undef)) : walkJ T P lst Q (.mv k r) a w :=
  ⟨o, ho, .inr (h _ (fun _ h => h))⟩
theorem walkJ_bt {k : Nat} {r : PlJ} {o : Oper} {a : Act} {w : World} (ho : opAt lst k = some o)
    (h : ∀ K : Value → World → Prop, (∀ v w', walkJ T P lst Q r (a.put o.dst v) w' → K v w') → Region.wanted o (yielded lst.toArray a.tmps) = true ∧ gives P o a w K) : walkJ T P lst Q (.bt k r) a w :=
  ⟨o, ho, .inl (h _ (fun _ _ h => h))⟩
theorem walkJ_nil {a : Act} {w : World} (h : Q a w) : walkJ T P lst Q (.inv []) a w := ⟨fun _ _ x => x = w, rfl, (fun k hk => by cases hk), fun V w' _ he => by subst he; exact h⟩
/-- All of l. -/
def allJ : List Nat → (Nat → Bool) → Prop
  | [], _ => True
  | j :: r, l => l j = true ∧ allJ r l
theorem allJ_of : ∀ (js : List Nat) (l : Nat → Bool), (∀ j ∈ js, l j = true) → allJ js l
  | [], _, _ => trivial
  | j :: r, l, h => ⟨h j (List.mem_cons_self ..), allJ_of r l (fun i hi => h i (List.mem_cons_of_mem _ hi))⟩
/-- None of l. -/
def noneJ : List Nat → (Nat → Bool) → Prop
  | [], _ => True
  | j :: r, l => l j = false ∧ noneJ r l
theorem noneJ_of : ∀ (js : List Nat) (l : Nat → Bool), (∀ j ∈ js, l j = false) → noneJ js l
  | [], _, _ => trivial
  | j :: r, l, h => ⟨h j (List.mem_cons_self ..), noneJ_of r l (fun i hi => h i (List.mem_cons_of_mem _ hi))⟩
/-- The duties, one after another; the lists of what an operation waits for are given as literals. -/
def stepsI (T : World → World → Prop) (P : Program) (lst : List Oper) (ks : List Nat) (Inv : (Nat → Bool) → (Nat → Value) → World → Prop) (a : Act) (w : World) : List Nat → Prop
  | [] => True
  | k :: r => stepI T P lst ks Inv a w k ∧ stepsI T P lst ks Inv a w r
theorem stepsI_mem {ks : List Nat} {Inv : (Nat → Bool) → (Nat → Value) → World → Prop} {a : Act} {w : World} : ∀ {js : List Nat}, stepsI T P lst ks Inv a w js → ∀ k ∈ js, stepI T P lst ks Inv a w k
  | [], _, _, h => by cases h
  | j :: r, h, k, hk => by
    rcases List.mem_cons.1 hk with rfl | hk
    · exact h.1
    · exact stepsI_mem h.2 k hk
theorem stepsI_nil {ks : List Nat} {Inv : (Nat → Bool) → (Nat → Value) → World → Prop} {a : Act} {w : World} : stepsI T P lst ks Inv a w [] := trivial
theorem stepsI_cons {ks : List Nat} {Inv : (Nat → Bool) → (Nat → Value) → World → Prop} {a : Act} {w : World} {k : Nat} {r : List Nat} {o : Oper} (js ds : List Nat) (ps : List (Nat × Tmp)) (ho : opAt lst k = some o) (hjs : ancIn lst ks k = js) (hds : desIn lst ks k = ds) (hps : pairsOf lst js = ps)
    (h : ∀ (K : Value → World → Prop) (l : Nat → Bool) (V : Nat → Value) (w' : World), T w w' → allJ js l → noneJ ds l → l k = false → Inv l V w' → (∀ v w'', T w' w'' → Inv (updL l k) (updV V k v) w'' → K v w'') →
      Region.wanted o (yielded lst.toArray (putsP ps V a).tmps) = true ∧ gives P o (putsP ps V a) w' K)
    (hr : stepsI T P lst ks Inv a w r) : stepsI T P lst ks Inv a w (k :: r) := by
  subst hjs hps hds
  refine ⟨⟨o, ho, fun l V w' hw hl hd hk hI => .inl ?_⟩, hr⟩
  rw [putsO_pairs]
  exact h _ l V w' hw (allJ_of _ l hl) (noneJ_of _ l hd) hk hI (fun v w'' h1 h2 => ⟨h1, h2⟩)
/-- Under an invariant. -/
theorem walkJ_inv {ks : List Nat} {a : Act} {w : World} (Inv : (Nat → Bool) → (Nat → Value) → World → Prop) (ps : List (Nat × Tmp)) (hps : pairsOf lst ks = ps) (h0 : Inv (fun _ => false) (fun _ => undef) w)
    (hs : stepsI T P lst ks Inv a w ks) (hf : ∀ V w', T w w' → Inv (fun j => ks.contains j) V w' → Q (putsP ps V a) w') : walkJ T P lst Q (.inv ks) a w := by
  subst hps
  refine ⟨Inv, h0, stepsI_mem hs, fun V w' h1 h2 => ?_⟩
  rw [putsO_pairs]
  exact hf V w' h1 h2
end
/-- The region. -/
theorem any_walkJ {T : World → World → Prop} {P : Program} (hT : Pre T) {Q : Exit → Act → World → Prop} {a : Act} {w : World} {lst : List Oper} (p : PlJ) (hn : p.len = lst.length) (hs : Region.noSelect lst.toArray = true)
    (hB : planJ lst p (Array.replicate lst.length false) = true) (h : walkJ T P lst (fun a' w' => Q .normal a' w') p a w) : wpAny P .any lst.toArray Q lst.toArray.size (Array.replicate lst.toArray.size false) a w := by
  have hsz : lst.toArray.size = p.len := by rw [hn]; simp
  rw [hsz]
  refine wpAny_of_anyS3 hT (Q := fun a' w' => Q .normal a' w') (fun _ _ h => h) _ _ _ _ ?_
  rw [← hn] at hB
  exact anyS_walkJ hT hs p _ _ _ (by simpa using hn) (closed_start _ _ _) hB h
theorem wp_walkJ {T : World → World → Prop} {P : Program} (hT : Pre T) {Q : Exit → Act → World → Prop} {id : Nat} {a : Act} {w : World} {lst : List Oper} (p : PlJ) (hm : P.follows .mixedOrders = true) (hn : p.len = lst.length) (hs : Region.noSelect lst.toArray = true)
    (hB : planJ lst p (Array.replicate lst.length false) = true) (h : walkJ T P lst (fun a' w' => Q .normal a' w') p a w.drew) : (Code.region id lst.toArray true).wp P Q a w :=
  wp_region_any hm (any_walkJ hT p hn hs hB h)
/-- .. within a round of a range over a function. -/
theorem wpIn_walkJ {T : World → World → Prop} {P : Program} (hT : Pre T) {Q : Exit → Act → World → Prop} {id r n : Nat} {a : Act} {w : World} {lst : List Oper} (p : PlJ) (hm : P.follows .mixedOrders = true) (hd : noDefer lst.toArray = true) (hQ : ¬ LetsOut Q) (hn : p.len = lst.length) (hs : Region.noSelect lst.toArray = true)
    (hB : planJ lst p (Array.replicate lst.length false) = true) (h : walkJ T P lst (fun a' w' => Q .normal a' w') p a w.drew) : (Code.region id lst.toArray true).wpIn (Fence.wide.inRound r) n P Q a w :=
  wpIn_region_any hm (wpAny_round hd hQ _ _ _ _ (any_walkJ hT p hn hs hB h))

end Go.Proofs.Ytcpefolhohakmaa
