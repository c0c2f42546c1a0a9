/- Plain: the search for an augmenting way (Edmonds), its invariant. -/
import Derived.Test.YtcpefolhohakmaaM2
namespace Go.Proofs.Ytcpefolhohakmaa

/-- From a state over its partner by 'from' to the next, up to b. -/
inductive Seg (f m : Mt) (b : Nat) : Nat → List Nat → Prop
  | one : Seg f m b b [b]
  | cons (s o t : Nat) (l : List Nat) (hs : m s = some o) (ho : f o = some t) (hl : Seg f m b t l) : Seg f m b s (s :: l)
theorem Seg.head {f m : Mt} {b v : Nat} {l : List Nat} (h : Seg f m b v l) : ∃ l', l = v :: l' := by cases h <;> exact ⟨_, rfl⟩
theorem Seg.last {f m : Mt} {b v : Nat} {l : List Nat} (h : Seg f m b v l) : b ∈ l := by
  induction h with
  | one => simp
  | cons s o t l _ _ _ ih => simp [ih]
theorem Seg.congr {f f' m : Mt} {b v : Nat} {l : List Nat} (h : Seg f m b v l) (e : ∀ s ∈ l, ∀ o, m s = some o → f o ≠ none → f' o = f o) : Seg f' m b v l := by
  induction h with
  | one => exact .one
  | cons s o t l hs ho _ ih => exact .cons s o t l hs (by rw [e s (by simp) o hs (by rw [ho]; simp)]; exact ho) (ih fun x hx => e x (by simp [hx]))
/-- Two lists of states, the second from the end of the first on. -/
theorem Seg.append {f m : Mt} {b c v o t : Nat} {l l' : List Nat} (h : Seg f m c v l) (hc : m c = some o) (ho : f o = some t) (h' : Seg f m b t l') : Seg f m b v (l ++ l') := by
  induction h with
  | one => exact .cons _ o t l' hc ho h'
  | cons s o1 t1 l hs1 ho1 _ ih => exact .cons s o1 t1 _ hs1 ho1 ih

def Apart (m : Mt) (p q : List Nat) : Prop := ∀ s ∈ p, ∀ t ∈ q, s ≠ t ∧ m s ≠ some t
theorem Sim.append {adj : Nat → Nat → Prop} {m : Mt} (hM : Mat adj m) {p q : List Nat} (hp : Sim m p) (hq : Sim m q) (h : Apart m p q) : Sim m (p ++ q) := by
  refine ⟨?_, fun s hs t ht => ?_⟩
  · rw [List.nodup_append]
    exact ⟨hp.nd, hq.nd, fun a ha b hb => (h a ha b hb).1⟩
  · rcases List.mem_append.1 hs with hs | hs <;> rcases List.mem_append.1 ht with ht | ht
    · exact hp.no s hs t ht
    · exact (h s hs t ht).2
    · exact fun e => (h t ht s hs).2 (hM.inv _ _ e)
    · exact hq.no s hs t ht
theorem Sim.left {m : Mt} {p q : List Nat} (h : Sim m (p ++ q)) : Sim m p :=
  ⟨(List.nodup_append.1 h.nd).1, fun s hs t ht => h.no s (by simp [hs]) t (by simp [ht])⟩
theorem Sim.right {m : Mt} {p q : List Nat} (h : Sim m (p ++ q)) : Sim m q :=
  ⟨(List.nodup_append.1 h.nd).2.1, fun s hs t ht => h.no s (by simp [hs]) t (by simp [ht])⟩
theorem Sim.single {adj : Nat → Nat → Prop} {m : Mt} (hirr : ∀ i, ¬ adj i i) (hM : Mat adj m) (s : Nat) : Sim m [s] :=
  ⟨by simp, fun a ha b hb e => by rw [List.mem_singleton.1 ha, List.mem_singleton.1 hb] at e; exact hirr s (hM.adj _ _ e)⟩

/-- The search from r: f is 'from', bs the bases, ev who is even; lev a level of the bases. -/
structure SI (n : Nat) (adj : Nat → Nat → Prop) (m : Mt) (r : Nat) (f : Mt) (bs : Nat → Nat) (ev : Nat → Bool) (lev : Nat → Nat) : Prop where
  rE : ev r = true
  rx : m r = none
  rb : bs r = r
  lt : ∀ v, ev v = true → v < n
  bev : ∀ v, ev v = true → ev (bs v) = true ∧ bs (bs v) = bs v
  bod : ∀ v, ev v = false → bs v = v
  bn : ∀ b, ev b = true → bs b = b → f b = none
  fa : ∀ a x, f a = some x → ev x = true ∧ adj a x
  fo : ∀ o, ev o = false → f o ≠ none → ∃ b, m o = some b ∧ ev b = true ∧ bs b = b
  em : ∀ v, ev v = true → v ≠ bs v → ∃ x, m v = some x ∧ ev x = true ∧ bs x = bs v
  seg : ∀ v, ev v = true → ∃ l, Seg f m (bs v) v l ∧ Sim m l ∧ ∀ y ∈ l, ev y = true ∧ bs y = bs v
  up : ∀ b, ev b = true → bs b = b → b ≠ r → ∃ o x, m b = some o ∧ ev o = false ∧ f o = some x ∧ lev (bs x) < lev b

section si
variable {n : Nat} {adj : Nat → Nat → Prop} {m : Mt} {r : Nat} {f : Mt} {bs : Nat → Nat} {ev : Nat → Bool} {lev : Nat → Nat}

theorem SI.ev_of (h : SI n adj m r f bs ev lev) {v x : Nat} (hx : f v = some x) : ev x = true := (h.fa v x hx).1
/-- The test by which the program knows even vertices. -/
theorem SI.test (h : SI n adj m r f bs ev lev) (hM : Mat adj m) (w : Nat) : ev w = true ↔ w = r ∨ ∃ x, m w = some x ∧ f x ≠ none := by
  constructor
  · intro hw
    by_cases e : w = r
    · exact .inl e
    right
    by_cases hb : bs w = w
    · obtain ⟨o, x, h1, h2, h3, _⟩ := h.up w hw hb e
      exact ⟨o, h1, by rw [h3]; simp⟩
    · obtain ⟨l, h1, _, _⟩ := h.seg w hw
      generalize hbw : bs w = b at h1 hb
      cases h1 with
      | one => exact absurd rfl hb
      | cons _ o t l hs ho _ => exact ⟨o, hs, by rw [ho]; simp⟩
  · rintro (rfl | ⟨x, h1, h2⟩)
    · exact h.rE
    · cases hx : ev x with
      | false =>
        obtain ⟨b, h3, h4, _⟩ := h.fo x hx h2
        rw [hM.inv _ _ h1] at h3
        cases h3
        exact h4
      | true =>
        have hb : x ≠ bs x := fun e => h2 (h.bn x hx e.symm)
        obtain ⟨y, h3, h4, _⟩ := h.em x hx hb
        rw [hM.inv _ _ h1] at h3
        cases h3
        exact h4
theorem SI.mate_ev (h : SI n adj m r f bs ev lev) {v o : Nat} (hv : ev v = true) (ho : m v = some o) : (ev o = true ∧ bs o = bs v ∧ v ≠ bs v) ∨ (ev o = false ∧ bs v = v ∧ v ≠ r ∧ bs o = o ∧ f o ≠ none) := by
  by_cases e : v = bs v
  · right
    have hr : v ≠ r := fun e2 => by rw [e2, h.rx] at ho; cases ho
    obtain ⟨o', x, h1, h2, h3, _⟩ := h.up v hv e.symm hr
    rw [ho] at h1; cases h1
    exact ⟨h2, e.symm, hr, h.bod o h2, by rw [h3]; simp⟩
  · left
    obtain ⟨x, h1, h2, h3⟩ := h.em v hv e
    rw [ho] at h1; cases h1
    exact ⟨h2, h3, e⟩
/-- From each even vertex a way leads to the root. -/
theorem SI.way (h : SI n adj m r f bs ev lev) (hM : Mat adj m) : ∀ (k v : Nat), lev (bs v) ≤ k → ev v = true →
    ∃ l, Seg f m r v l ∧ Sim m l ∧ ∀ y ∈ l, ev y = true ∧ lev (bs y) ≤ lev (bs v) := by
  intro k
  induction k with
  | zero =>
    intro v hk hv
    obtain ⟨l, h1, h2, h3⟩ := h.seg v hv
    obtain ⟨b1, b2⟩ := h.bev v hv
    by_cases e : bs v = r
    · rw [e] at h1
      exact ⟨l, h1, h2, fun y hy => ⟨(h3 y hy).1, by rw [(h3 y hy).2]; exact Nat.le_refl _⟩⟩
    · obtain ⟨o, x, _, _, _, g4⟩ := h.up (bs v) b1 b2 e
      omega
  | succ k ih =>
    intro v hk hv
    obtain ⟨l, h1, h2, h3⟩ := h.seg v hv
    obtain ⟨b1, b2⟩ := h.bev v hv
    by_cases e : bs v = r
    · rw [e] at h1
      exact ⟨l, h1, h2, fun y hy => ⟨(h3 y hy).1, by rw [(h3 y hy).2]; exact Nat.le_refl _⟩⟩
    · obtain ⟨o, x, g1, g2, g3, g4⟩ := h.up (bs v) b1 b2 e
      obtain ⟨l', i1, i2, i3⟩ := ih x (by omega) (h.ev_of g3)
      refine ⟨l ++ l', h1.append g1 g3 i1, h2.append hM i2 (fun s hs t ht => ?_), fun y hy => ?_⟩
      · obtain ⟨s1, s2⟩ := h3 s hs
        obtain ⟨t1, t2⟩ := i3 t ht
        refine ⟨fun e => by rw [← e, s2] at t2; omega, fun e => ?_⟩
        rcases h.mate_ev s1 e with ⟨_, q, _⟩ | ⟨q, _⟩
        · rw [q, s2] at t2; omega
        · rw [t1] at q; cases q
      · rcases List.mem_append.1 hy with hy | hy
        · exact ⟨(h3 y hy).1, by rw [(h3 y hy).2]; exact Nat.le_refl _⟩
        · obtain ⟨t1, t2⟩ := i3 y hy
          exact ⟨t1, by omega⟩
theorem SI.alt (h : SI n adj m r f bs ev lev) {v : Nat} {l : List Nat} (hl : Seg f m r v l) : Alt adj m l := by
  induction hl with
  | one => exact .one r h.rx
  | cons s o t l hs ho hl ih =>
    obtain ⟨l', rfl⟩ := hl.head
    exact .cons s o t l' hs (h.fa o t ho).2 ih

/-- The beginning of a search. -/
theorem SI.start (hirr : ∀ i, ¬ adj i i) (hM : Mat adj m) (hr : r < n) (hx : m r = none) : SI n adj m r (fun _ => none) (fun i => i) (fun i => decide (i = r)) (fun _ => 0) where
  rE := by simp
  rx := hx
  rb := rfl
  lt := fun v hv => by simp at hv; omega
  bev := fun v hv => ⟨hv, rfl⟩
  bod := fun _ _ => rfl
  bn := fun _ _ _ => rfl
  fa := fun _ _ h => by cases h
  fo := fun _ _ h => absurd rfl h
  em := fun _ _ h => absurd rfl h
  seg := fun v hv => ⟨[v], .one, .single hirr hM v, fun y hy => by rw [List.mem_singleton.1 hy]; exact ⟨hv, rfl⟩⟩
  up := fun b hb _ hr => absurd (by simpa using hb) hr

/-- The label of a vertex that is not reached yet, whose partner becomes even. -/
theorem SI.grow (h : SI n adj m r f bs ev lev) (G : Gr n adj) (hM : Mat adj m) {v w x : Nat} (hv : ev v = true) (hvw : adj v w) (hw : ev w = false) (hf : f w = none) (hx : m w = some x) :
    ev x = false ∧ bs x = x ∧ SI n adj m r (upd f w (some v)) bs (fun i => if i = x then true else ev i) (fun i => if i = x then lev (bs v) + 1 else lev i) := by
  have hxw := hM.inv _ _ hx
  have hx0 : ev x = false := by
    cases e : ev x with
    | false => rfl
    | true =>
      rcases (h.test hM x).1 e with h1 | ⟨y, h1, h2⟩
      · rw [h1, h.rx] at hxw; cases hxw
      · rw [hxw] at h1; cases h1; exact absurd hf h2
  have hbx := h.bod x hx0
  have hfx : f x = none := by
    apply Classical.byContradiction
    intro hc
    obtain ⟨b, h1, h2, _⟩ := h.fo x hx0 hc
    rw [hxw] at h1; cases h1
    rw [hw] at h2; cases h2
  have hne : ∀ y, ev y = true → y ≠ x := fun y hy e => by rw [e, hx0] at hy; cases hy
  have hnw : ∀ y, ev y = true → y ≠ w := fun y hy e => by rw [e, hw] at hy; cases hy
  have hwx : w ≠ x := hM.ne G hx
  have hev : ∀ y, (if y = x then true else ev y) = true ↔ y = x ∨ ev y = true := fun y => by by_cases e : y = x <;> simp [e]
  have hevf : ∀ y, (if y = x then true else ev y) = false ↔ y ≠ x ∧ ev y = false := fun y => by by_cases e : y = x <;> simp [e]
  refine ⟨hx0, hbx, ?_⟩
  constructor
  · rw [hev]; exact .inr h.rE
  · exact h.rx
  · exact h.rb
  · intro y hy
    rcases (hev y).1 hy with rfl | hy
    · exact (G.lt _ _ (hM.adj _ _ hx)).2
    · exact h.lt y hy
  · intro y hy
    rcases (hev y).1 hy with rfl | hy
    · rw [hbx]; exact ⟨by simp, hbx⟩
    · obtain ⟨h1, h2⟩ := h.bev y hy
      exact ⟨(hev _).2 (.inr h1), h2⟩
  · intro y hy; exact h.bod y ((hevf y).1 hy).2
  · intro b hb hbb
    rcases (hev b).1 hb with rfl | hb
    · rw [upd_ne _ _ hwx.symm]; exact hfx
    · rw [upd_ne _ _ (hnw b hb)]; exact h.bn b hb hbb
  · intro a y ha
    by_cases e : a = w
    · subst e; rw [upd_same] at ha; cases ha
      exact ⟨(hev _).2 (.inr hv), G.sym _ _ hvw⟩
    · rw [upd_ne _ _ e] at ha
      obtain ⟨h1, h2⟩ := h.fa a y ha
      exact ⟨(hev _).2 (.inr h1), h2⟩
  · intro o ho hof
    obtain ⟨h1, h2⟩ := (hevf o).1 ho
    by_cases e : o = w
    · subst e
      exact ⟨x, hx, (hev _).2 (.inl rfl), hbx⟩
    · rw [upd_ne _ _ e] at hof
      obtain ⟨b, g1, g2, g3⟩ := h.fo o h2 hof
      exact ⟨b, g1, (hev _).2 (.inr g2), g3⟩
  · intro y hy hyb
    rcases (hev y).1 hy with rfl | hy
    · exact absurd hbx.symm hyb
    · obtain ⟨z, g1, g2, g3⟩ := h.em y hy hyb
      exact ⟨z, g1, (hev _).2 (.inr g2), g3⟩
  · intro y hy
    rcases (hev y).1 hy with rfl | hy
    · rw [hbx]
      exact ⟨[y], .one, .single G.irr hM y, fun z hz => by rw [List.mem_singleton.1 hz]; exact ⟨by simp, hbx⟩⟩
    · obtain ⟨l, g1, g2, g3⟩ := h.seg y hy
      refine ⟨l, g1.congr fun s hs o ho hof => upd_ne _ _ fun e => ?_, g2, fun z hz => ⟨(hev _).2 (.inr (g3 z hz).1), (g3 z hz).2⟩⟩
      subst e; exact hof hf
  · intro b hb hbb hbr
    rcases (hev b).1 hb with rfl | hb2
    · refine ⟨w, v, hxw, ?_, upd_same _ _ _, ?_⟩
      · exact (hevf w).2 ⟨hwx, hw⟩
      · rw [if_pos rfl, if_neg (hne _ (h.bev v hv).1)]; omega
    · obtain ⟨o, y, g1, g2, g3, g4⟩ := h.up b hb2 hbb hbr
      have how : o ≠ w := fun e => by subst e; rw [hf] at g3; cases g3
      have hox : o ≠ x := fun e => by
        subst e
        have := hM.inv _ _ g1
        rw [hxw] at this
        have e2 : w = b := Option.some.inj this
        exact absurd (hnw b hb2) (fun h => h e2.symm)
      refine ⟨o, y, g1, (hevf o).2 ⟨hox, g2⟩, by rw [upd_ne _ _ how]; exact g3, ?_⟩
      rw [if_neg (hne _ (h.bev y (h.ev_of g3)).1), if_neg (hne b hb2)]; exact g4

/-- An augmenting way is found. -/
theorem SI.found (h : SI n adj m r f bs ev lev) (hM : Mat adj m) {v w : Nat} (hv : ev v = true) (hw : ev w = false) (hf : f w = none) :
    ∃ l, Seg (upd f w (some v)) m r v l ∧ Alt adj m l ∧ Sim m l ∧ w ∉ l := by
  obtain ⟨l, h1, h2, h3⟩ := h.way hM _ v (Nat.le_refl _) hv
  refine ⟨l, h1.congr fun s hs o ho hof => upd_ne _ _ fun e => by subst e; exact hof hf, h.alt h1, h2, fun hm => ?_⟩
  have := (h3 w hm).1
  rw [hw] at this; cases this

end si
end Go.Proofs.Ytcpefolhohakmaa
