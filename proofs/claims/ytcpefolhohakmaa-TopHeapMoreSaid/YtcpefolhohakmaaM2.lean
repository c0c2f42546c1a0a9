/- Plain: what a search that fails proves (a certificate), and why the matching is greatest then; which vertices greatest matchings leave out. -/
import Derived.Test.YtcpefolhohakmaaM1
namespace Go.Proofs.Ytcpefolhohakmaa

/-- What a search from r that has failed leaves: the even vertices in classes by base, and the odd ones. -/
structure Cert (adj : Nat → Nat → Prop) (m : Mt) (r : Nat) (E O : Nat → Prop) (bs : Nat → Nat) : Prop where
  rE : E r
  rx : m r = none
  dis : ∀ v, E v → ¬ O v
  nb : ∀ v w, E v → adj v w → O w ∨ (E w ∧ bs w = bs v)
  om : ∀ o, O o → ∃ b, m o = some b ∧ E b ∧ bs b = b
  em : ∀ v, E v → v ≠ bs v → ∃ x, m v = some x ∧ E x ∧ bs x = bs v
  bE : ∀ v, E v → E (bs v) ∧ bs (bs v) = bs v
  bm : ∀ b, E b → bs b = b → b = r ∨ ∃ o, m b = some o ∧ O o
  way : ∀ v, E v → ∃ l, Alt adj m (v :: l) ∧ Sim m (v :: l) ∧ ∀ x ∈ v :: l, E x

theorem Cert.congr {adj : Nat → Nat → Prop} {m m' : Mt} {r : Nat} {E O : Nat → Prop} {bs : Nat → Nat} (h : Cert adj m r E O bs) (e : ∀ v, E v ∨ O v → m' v = m v) : Cert adj m' r E O bs where
  rE := h.rE
  rx := by rw [e r (.inl h.rE)]; exact h.rx
  dis := h.dis
  nb := h.nb
  om := fun o ho => by rw [e o (.inr ho)]; exact h.om o ho
  em := fun v hv => by rw [e v (.inl hv)]; exact h.em v hv
  bE := h.bE
  bm := fun b hb => by rw [e b (.inl hb)]; exact h.bm b hb
  way := fun v hv => by
    obtain ⟨l, h1, h2, h3⟩ := h.way v hv
    exact ⟨l, h1.congr fun s hs => e s (.inl (h3 s hs)), h2.congr fun s hs => e s (.inl (h3 s hs)), h3⟩

section closed
variable {adj : Nat → Nat → Prop} {m : Mt} {r : Nat} {E O : Nat → Prop} {bs : Nat → Nat}

/-- Partners of its vertices lie in it. -/
theorem Cert.mate (h : Cert adj m r E O bs) {v x : Nat} (hv : E v ∨ O v) (hx : m v = some x) : E x ∨ O x := by
  rcases hv with hv | hv
  · by_cases e : v = bs v
    · rcases h.bm v hv e.symm with rfl | ⟨o, h1, h2⟩
      · rw [h.rx] at hx; cases hx
      · rw [hx] at h1; cases h1; exact .inr h2
    · obtain ⟨y, h1, h2, _⟩ := h.em v hv e
      rw [hx] at h1; cases h1; exact .inl h2
  · obtain ⟨b, h1, h2, _⟩ := h.om v hv
    rw [hx] at h1; cases h1; exact .inl h2
theorem Cert.exposed (h : Cert adj m r E O bs) {v : Nat} (hv : E v ∨ O v) (hx : m v = none) : E v ∧ bs v = v ∧ v = r := by
  rcases hv with hv | hv
  · by_cases e : v = bs v
    · rcases h.bm v hv e.symm with h1 | ⟨o, h1, _⟩
      · exact ⟨hv, e.symm, h1⟩
      · rw [hx] at h1; cases h1
    · obtain ⟨x, h1, _⟩ := h.em v hv e
      rw [hx] at h1; cases h1
  · obtain ⟨b, h1, _⟩ := h.om v hv
    rw [hx] at h1; cases h1
/-- An alternating way that comes in stays in, at even vertices. -/
theorem Cert.stay (h : Cert adj m r E O bs) (hM : Mat adj m) (hsym : ∀ i j, adj i j → adj j i) {l : List Nat} (ha : Alt adj m l) : Sim m l → ∀ s l', l = s :: l' → E s ∨ O s → E s ∧ bs s ∈ l := by
  induction ha with
  | one r' hr =>
    intro _ s l' e hs
    cases e
    obtain ⟨h1, h2, _⟩ := h.exposed hs hr
    exact ⟨h1, by rw [h2]; simp⟩
  | cons s o t l hso hot hal ih =>
    intro hsim s' l' e hs
    obtain ⟨rfl, -⟩ := List.cons.inj e
    have IH := ih hsim.tail t l rfl
    have hos : m o = some s := hM.inv _ _ hso
    have ho : E o ∨ O o := h.mate hs hso
    have odd : O o → E s ∧ bs s = s := fun ho => by
      obtain ⟨b, h1, h2, h3⟩ := h.om o ho
      rw [hos] at h1; cases h1; exact ⟨h2, h3⟩
    have hno : o ∉ t :: l := fun hm => hsim.no s (by simp) o (by simp [hm]) hso
    rcases ho with ho | ho
    · have ht : E t ∨ O t := by
        rcases h.nb o t ho hot with h1 | ⟨h1, _⟩
        · exact .inr h1
        · exact .inl h1
      obtain ⟨h1, h2⟩ := IH ht
      rcases h.nb t o h1 (hsym _ _ hot) with h3 | ⟨_, h3⟩
      · exact absurd h3 (h.dis o ho)
      · have hne : o ≠ bs o := fun e => hno (by rw [e, h3]; exact h2)
        obtain ⟨x, g1, g2, g3⟩ := h.em o ho hne
        rw [hos] at g1; cases g1
        exact ⟨g2, by rw [g3, h3]; exact List.mem_cons_of_mem _ h2⟩
    · obtain ⟨h1, h2⟩ := odd ho
      exact ⟨h1, by rw [h2]; simp⟩
/-- The even vertices of one certificate are not the odd ones of another. -/
theorem Cert.apart (h : Cert adj m r E O bs) {r' : Nat} {E' O' : Nat → Prop} {bs' : Nat → Nat} (h' : Cert adj m r' E' O' bs') (hM : Mat adj m) (hsym : ∀ i j, adj i j → adj j i) {v : Nat} (hv : E' v) : ¬ O v := by
  intro ho
  obtain ⟨l, ha, hs, _⟩ := h'.way v hv
  exact h.dis v (h.stay hM hsym ha hs v l rfl (.inr ho)).1 ho
theorem Cert.up (h : Cert adj m r E O bs) (hM : Mat adj m) (hsym : ∀ i j, adj i j → adj j i) {l : List Nat} (ha : Alt adj m l) : Sim m l → ∀ s l', l = s :: l' → ∀ x ∈ l, E x ∨ O x → E s ∨ O s := by
  induction ha with
  | one r' hr => intro _ s l' e x hx hT; cases e; rw [List.mem_singleton.1 hx] at hT; exact hT
  | cons s o t l hso hot hal ih =>
    intro hsim s' l' e x hx hT
    obtain ⟨rfl, -⟩ := List.cons.inj e
    rcases List.mem_cons.1 hx with rfl | hx
    · exact hT
    · have ht := ih hsim.tail t l rfl x hx hT
      obtain ⟨h1, _⟩ := h.stay hM hsym hal hsim.tail t l rfl ht
      have ho : E o ∨ O o := by
        rcases h.nb t o h1 (hsym _ _ hot) with h2 | ⟨h2, _⟩
        · exact .inr h2
        · exact .inl h2
      exact h.mate ho (hM.inv _ _ hso)
/-- A way that makes the matching greater does not meet a certificate. -/
theorem Cert.free (h : Cert adj m r E O bs) (hM : Mat adj m) (hsym : ∀ i j, adj i j → adj j i) {w s : Nat} {l : List Nat} (hw : m w = none) (hws : adj w s) (ha : Alt adj m (s :: l)) (hs : Sim m (s :: l)) (hwl : w ∉ s :: l) :
    ¬ (E w ∨ O w) ∧ (∀ x ∈ s :: l, ¬ (E x ∨ O x)) ∧ ∀ x ∈ s :: l, ∀ y, m x = some y → ¬ (E y ∨ O y) := by
  have h0 : ¬ (E s ∨ O s) := fun hT => by
    obtain ⟨h1, h2⟩ := h.stay hM hsym ha hs s l rfl hT
    rcases h.nb s w h1 (hsym _ _ hws) with h3 | ⟨h3, h4⟩
    · obtain ⟨b, h5, _⟩ := h.om w h3
      rw [hw] at h5; cases h5
    · obtain ⟨_, h6, _⟩ := h.exposed (.inl h3) hw
      rw [← h4, h6] at h2
      exact hwl h2
  have h1 : ∀ x ∈ s :: l, ¬ (E x ∨ O x) := fun x hx hT => h0 (h.up hM hsym ha hs s l rfl x hx hT)
  refine ⟨fun hT => ?_, h1, fun x hx y hxy hT => h1 x hx (h.mate hT (hM.inv _ _ hxy))⟩
  obtain ⟨h2, _⟩ := h.exposed hT hw
  rcases h.nb w s h2 hws with h3 | ⟨h3, _⟩
  · exact h0 (.inr h3)
  · exact h0 (.inl h3)
end closed

/-- A list without repetition in another one is not longer. -/
theorem nodup_len {α : Type} : ∀ (a b : List α), a.Nodup → (∀ x ∈ a, x ∈ b) → a.length ≤ b.length
  | [], b, _, _ => Nat.zero_le _
  | x :: a, b, h, hs => by
    obtain ⟨h1, h2⟩ := List.nodup_cons.1 h
    obtain ⟨b1, b2, rfl⟩ := List.append_of_mem (hs x (by simp))
    have := nodup_len a (b1 ++ b2) h2 (fun y hy => by
      have := hs y (by simp [hy])
      rcases List.mem_append.1 this with h3 | h3
      · exact List.mem_append.2 (.inl h3)
      · rcases List.mem_cons.1 h3 with rfl | h3
        · exact absurd hy h1
        · exact List.mem_append.2 (.inr h3))
    simp only [List.length_append, List.length_cons] at *
    omega
/-- A list that a map without repetition leads into another one. -/
theorem inj_len {α β : Type} (φ : α → β) : ∀ (a : List α) (b : List β), a.Nodup → (∀ x ∈ a, ∀ y ∈ a, φ x = φ y → x = y) → (∀ x ∈ a, φ x ∈ b) → a.length ≤ b.length := by
  intro a b hn hi hm
  have h1 : (a.map φ).Nodup := by
    clear hm
    induction a with
    | nil => simp
    | cons x a ih =>
      obtain ⟨h1, h2⟩ := List.nodup_cons.1 hn
      rw [List.map_cons, List.nodup_cons]
      refine ⟨fun h => ?_, ih h2 (fun x hx y hy => hi x (by simp [hx]) y (by simp [hy]))⟩
      obtain ⟨y, hy, e⟩ := List.mem_map.1 h
      have := hi y (by simp [hy]) x (by simp) e
      subst this
      exact h1 hy
  have := nodup_len (a.map φ) b h1 (fun y hy => by obtain ⟨x, hx, rfl⟩ := List.mem_map.1 hy; exact hm x hx)
  simpa using this
/-- A list that is closed under partners has an even number of elements. -/
theorem even_closed {adj : Nat → Nat → Prop} {m : Mt} (hirr : ∀ i, ¬ adj i i) (hM : Mat adj m) : ∀ (k : Nat) (l : List Nat), l.length ≤ k → l.Nodup → (∀ x ∈ l, ∃ y ∈ l, m x = some y) → l.length % 2 = 0
  | _, [], _, _, _ => rfl
  | 0, x :: l, h, _, _ => by simp at h
  | k + 1, x :: l, h, hn, hc => by
    obtain ⟨h1, h2⟩ := List.nodup_cons.1 hn
    obtain ⟨y, hy, e⟩ := hc x (by simp)
    have hxy : x ≠ y := fun he => hirr x (by have := hM.adj _ _ e; rwa [← he] at this)
    have hyl : y ∈ l := by
      rcases List.mem_cons.1 hy with rfl | hy
      · exact absurd rfl hxy
      · exact hy
    have hl : (l.erase y).length = l.length - 1 := List.length_erase_of_mem hyl
    have hpos : 0 < l.length := List.length_pos_of_mem hyl
    have := even_closed hirr hM k (l.erase y) (by rw [hl]; simp at h; omega) (h2.erase y) (fun z hz => by
      have hzl := List.mem_of_mem_erase hz
      have hzy : z ≠ y := fun he => by subst he; exact h2.not_mem_erase hz
      have hzx : z ≠ x := fun he => by subst he; exact h1 hzl
      obtain ⟨t, ht, et⟩ := hc z (by simp [hzl])
      refine ⟨t, ?_, et⟩
      have htx : t ≠ x := fun he => by subst he; have := hM.inv _ _ et; rw [e] at this; cases this; exact hzy rfl
      have hty : t ≠ y := fun he => by subst he; exact hzx (hM.inj et e)
      rcases List.mem_cons.1 ht with rfl | ht
      · exact absurd rfl htx
      · exact (List.mem_erase_of_ne hty).2 ht)
    rw [hl] at this
    simp only [List.length_cons]; omega

/-- The vertices below n that a matching leaves out. -/
def outs (m : Mt) (n : Nat) : List Nat := (List.range n).filter fun i => (m i).isNone
theorem mem_outs {m : Mt} {n i : Nat} : i ∈ outs m n ↔ i < n ∧ m i = none := by simp [outs]
theorem outs_nodup (m : Mt) (n : Nat) : (outs m n).Nodup := List.Pairwise.filter _ List.nodup_range
theorem outs_len (m : Mt) (n : Nat) : cnt m n + (outs m n).length = n := by
  induction n with
  | zero => rfl
  | succ n ih =>
    unfold outs at *
    rw [cnt, List.range_succ, List.filter_append, List.length_append]
    cases h : m n <;> simp [h] <;> omega

/-- What holds of a matching to which each exposed vertex has a certificate: E, the even vertices of all, and O, the odd ones. -/
structure Done (n : Nat) (adj : Nat → Nat → Prop) (m : Mt) (E O : Nat → Prop) : Prop where
  gr : Gr n adj
  mat : Mat adj m
  exp : ∀ r, r < n → m r = none → E r
  dis : ∀ v, E v → ¬ O v
  om : ∀ o, O o → ∃ b, m o = some b ∧ E b
  ln : ∀ v, E v ∨ O v → v < n
  /-- each even vertex lies in a class that nothing leaves but into O, of which but one vertex has its partner in it -/
  cls : ∀ v, E v → ∃ (K : Nat → Prop) (b : Nat), K v ∧ K b ∧ (∀ x, K x → E x) ∧ (∀ x y, K x → adj x y → O y ∨ K y) ∧ (∀ x, K x → x ≠ b → ∃ y, m x = some y ∧ K y)
  way : ∀ v, E v → ∃ l, Alt adj m (v :: l) ∧ Sim m (v :: l)

/-- What can be reached from a over vertices of P. -/
inductive Con (adj : Nat → Nat → Prop) (P : Nat → Prop) (a : Nat) : Nat → Prop
  | refl : Con adj P a a
  | step (b c : Nat) (h : Con adj P a b) (hb : adj b c) (hc : P c) : Con adj P a c
theorem Con.trans {adj : Nat → Nat → Prop} {P : Nat → Prop} {a b c : Nat} (h : Con adj P a b) (h' : Con adj P b c) : Con adj P a c := by
  induction h' with
  | refl => exact h
  | step x y _ hb hc ih => exact .step x y ih hb hc
theorem Con.mem {adj : Nat → Nat → Prop} {P : Nat → Prop} {a b : Nat} (h : Con adj P a b) (ha : P a) : P b := by
  cases h with
  | refl => exact ha
  | step _ _ _ _ hc => exact hc
theorem Con.symm {adj : Nat → Nat → Prop} (hsym : ∀ i j, adj i j → adj j i) {P : Nat → Prop} {a b : Nat} (ha : P a) (h : Con adj P a b) : Con adj P b a := by
  induction h with
  | refl => exact .refl
  | step x y h hb hc ih => exact (Con.step y x .refl (hsym _ _ hb) (h.mem ha)).trans ih

section count
variable {n : Nat} {adj : Nat → Nat → Prop} {m : Mt} {E O : Nat → Prop}

/-- A vertex whose class is its own. -/
def Spec (m : Mt) (E O : Nat → Prop) (b : Nat) : Prop := E b ∧ ∀ y, m b = some y → O y
theorem Done.kls (h : Done n adj m E O) {b : Nat} (hb : Spec m E O b) : ∃ K : Nat → Prop, K b ∧ (∀ x, K x → E x) ∧ (∀ x y, K x → adj x y → O y ∨ K y) ∧ (∀ x, K x → x ≠ b → ∃ y, m x = some y ∧ K y) := by
  obtain ⟨K, c, h1, h2, h3, h4, h5⟩ := h.cls b hb.1
  have e : b = c := by
    apply Classical.byContradiction
    intro hne
    obtain ⟨y, e1, e2⟩ := h5 b h1 hne
    exact h.dis y (h3 y e2) (hb.2 y e1)
  subst e
  exact ⟨K, h1, h3, h4, h5⟩
theorem Done.sub (_h : Done n adj m E O) {b : Nat} {K : Nat → Prop} (kb : K b) (k2 : ∀ x y, K x → adj x y → O y ∨ K y) {P : Nat → Prop} (hP : ∀ x, P x → ¬ O x) {x : Nat} (hx : Con adj P b x) : K x := by
  induction hx with
  | refl => exact kb
  | step y z _ hyz hz ih =>
    rcases k2 y z ih hyz with h1 | h1
    · exact absurd h1 (hP z hz)
    · exact h1
/-- Two such classes do not meet. -/
theorem Done.one (h : Done n adj m E O) {b b' x : Nat} (hb : Spec m E O b) (hb' : Spec m E O b') {P : Nat → Prop} (hP : ∀ x, P x → ¬ O x) (pb' : P b') (hx : Con adj P b x) (hx' : Con adj P b' x) : b = b' := by
  obtain ⟨K, k0, k1, k2, k3⟩ := h.kls hb
  have h1 : K b' := h.sub k0 k2 hP (hx.trans (hx'.symm h.gr.sym pb'))
  apply Classical.byContradiction
  intro hne
  obtain ⟨y, e1, e2⟩ := k3 b' h1 (fun e => hne e.symm)
  exact h.dis y (k1 y e2) (hb'.2 y e1)
theorem Con.lt {P : Nat → Prop} (G : Gr n adj) {b x : Nat} (hb : b < n) (hx : Con adj P b x) : x < n := by
  cases hx with
  | refl => exact hb
  | step _ _ _ h1 _ => exact (G.lt _ _ h1).2
open Classical in
/-- Such a class is odd: a list of its vertices. -/
theorem Done.odd (h : Done n adj m E O) {b : Nat} (hb : Spec m E O b) {P : Nat → Prop} (hP : ∀ x, P x → ¬ O x) (hE : ∀ x, E x → P x) (l : List Nat) (hn : l.Nodup) (hl : ∀ x, x ∈ l ↔ Con adj P b x) : l.length % 2 = 1 := by
  obtain ⟨K, k0, k1, k2, k3⟩ := h.kls hb
  have hbl : b ∈ l := (hl b).2 .refl
  have e := even_closed h.gr.irr h.mat (l.erase b).length (l.erase b) (Nat.le_refl _) (hn.erase b) (fun x hx => by
    have hxb : x ≠ b := fun e => by subst e; exact hn.not_mem_erase hx
    have hxc := (hl x).1 (List.mem_of_mem_erase hx)
    have hK : K x := h.sub k0 k2 hP hxc
    obtain ⟨y, e1, e2⟩ := k3 x hK hxb
    refine ⟨y, ?_, e1⟩
    have hyb : y ≠ b := fun e => by subst e; exact h.dis x (k1 x hK) (hb.2 x (h.mat.inv _ _ e1))
    exact (List.mem_erase_of_ne hyb).2 ((hl y).2 (.step x y hxc (h.mat.adj _ _ e1) (hE y (k1 y e2)))))
  rw [List.length_erase_of_mem hbl] at e
  have := List.length_pos_of_mem hbl
  omega
open Classical in
/-- Each matching leaves a vertex of such a class out, or matches it with an odd one. -/
theorem Done.hit (h : Done n adj m E O) {b : Nat} (hb : Spec m E O b) {m' : Mt} (hM : Mat adj m') : ∃ y, Con adj E b y ∧ ∀ z, m' y = some z → O z := by
  apply Classical.byContradiction
  intro hno
  have hno' : ∀ y, Con adj E b y → ∃ z, m' y = some z ∧ ¬ O z := fun y hy => by
    apply Classical.byContradiction
    intro hc
    exact hno ⟨y, hy, fun z hz => by
      apply Classical.byContradiction
      intro ho
      exact hc ⟨z, hz, ho⟩⟩
  let l := (List.range n).filter fun x => decide (Con adj E b x)
  have hl : ∀ x, x ∈ l ↔ Con adj E b x := fun x => by
    simp only [l, List.mem_filter, List.mem_range, decide_eq_true_eq]
    exact ⟨fun h => h.2, fun hx => ⟨hx.lt h.gr (h.ln b (.inl hb.1)), hx⟩⟩
  have hn : l.Nodup := List.Pairwise.filter _ List.nodup_range
  have h1 := h.odd hb (P := E) (fun x hx => h.dis x hx) (fun x hx => hx) l hn hl
  obtain ⟨K, k0, k1, k2, k3⟩ := h.kls hb
  have h2 := even_closed h.gr.irr hM l.length l (Nat.le_refl _) hn (fun x hx => by
    have hxc := (hl x).1 hx
    obtain ⟨z, e1, e2⟩ := hno' x hxc
    refine ⟨z, (hl z).2 ?_, e1⟩
    have ha := hM.adj _ _ e1
    rcases k2 x z (h.sub k0 k2 (fun x hx => h.dis x hx) hxc) ha with h3 | h3
    · exact absurd h3 e2
    · exact .step x z hxc ha (k1 z h3))
  omega
/-- The vertices whose classes are their own: the exposed ones, and the partners of the odd ones. -/
def sps (m : Mt) (n : Nat) (ol : List Nat) : List Nat := outs m n ++ ol.map fun o => (m o).getD 0
theorem Done.sps_spec (h : Done n adj m E O) {ol : List Nat} (hol : ∀ x, x ∈ ol ↔ O x) : ∀ b ∈ sps m n ol, Spec m E O b := by
  intro b hb
  rcases List.mem_append.1 hb with hb | hb
  · obtain ⟨h1, h2⟩ := mem_outs.1 hb
    exact ⟨h.exp b h1 h2, fun y hy => by rw [h2] at hy; cases hy⟩
  · obtain ⟨o, ho, rfl⟩ := List.mem_map.1 hb
    have hO := (hol o).1 ho
    obtain ⟨b, e1, e2⟩ := h.om o hO
    rw [e1]
    refine ⟨e2, fun y hy => ?_⟩
    have := h.mat.inv _ _ e1
    rw [show (some b).getD 0 = b from rfl] at hy
    rw [this] at hy; cases hy; exact hO
theorem Done.sps_nodup (h : Done n adj m E O) {ol : List Nat} (hol : ∀ x, x ∈ ol ↔ O x) (hn : ol.Nodup) : (sps m n ol).Nodup := by
  unfold sps
  rw [List.nodup_append]
  have hinj : ∀ x ∈ ol, ∀ y ∈ ol, (m x).getD 0 = (m y).getD 0 → x = y := fun x hx y hy e => by
    obtain ⟨b, e1, _⟩ := h.om x ((hol x).1 hx)
    obtain ⟨c, e2, _⟩ := h.om y ((hol y).1 hy)
    rw [e1, e2] at e
    have : b = c := e
    subst this
    exact h.mat.inj e1 e2
  refine ⟨outs_nodup m n, ?_, ?_⟩
  · clear hol
    induction ol with
    | nil => simp
    | cons x ol ih =>
      obtain ⟨h1, h2⟩ := List.nodup_cons.1 hn
      rw [List.map_cons, List.nodup_cons]
      refine ⟨fun hm => ?_, ih h2 (fun x hx y hy => hinj x (by simp [hx]) y (by simp [hy]))⟩
      obtain ⟨y, hy, e⟩ := List.mem_map.1 hm
      have := hinj y (by simp [hy]) x (by simp) e
      subst this
      exact h1 hy
  · intro a ha b hb e
    subst e
    obtain ⟨_, h2⟩ := mem_outs.1 ha
    obtain ⟨o, ho, e⟩ := List.mem_map.1 hb
    obtain ⟨b, e1, _⟩ := h.om o ((hol o).1 ho)
    rw [e1] at e
    have : b = a := e
    subst this
    rw [h.mat.inv _ _ e1] at h2
    cases h2
theorem sps_len (m : Mt) (n : Nat) (ol : List Nat) : (sps m n ol).length = (outs m n).length + ol.length := by unfold sps; simp
open Classical in
/-- Such a matching is greatest, and greatest ones leave out even vertices alone. -/
theorem Done.greatest (h : Done n adj m E O) {m' : Mt} (hM : Mat adj m') : cnt m' n ≤ cnt m n ∧ (cnt m' n = cnt m n → ∀ y, y < n → m' y = none → E y) := by
  let ol := (List.range n).filter fun x => decide (O x)
  have hol : ∀ x, x ∈ ol ↔ O x := fun x => by
    simp only [ol, List.mem_filter, List.mem_range, decide_eq_true_eq]
    exact ⟨fun h => h.2, fun hx => ⟨h.ln x (.inr hx), hx⟩⟩
  have hon : ol.Nodup := List.Pairwise.filter _ List.nodup_range
  have hsp := h.sps_spec hol
  have hsn := h.sps_nodup hol hon
  -- the vertex of each class that m' leaves out or matches with an odd one
  let y : Nat → Nat := fun b => if hb : Spec m E O b then (h.hit hb hM).choose else 0
  have hy : ∀ b, Spec m E O b → Con adj E b (y b) ∧ ∀ z, m' (y b) = some z → O z := fun b hb => by
    have e : y b = (h.hit hb hM).choose := dif_pos hb
    rw [e]; exact (h.hit hb hM).choose_spec
  let φ : Nat → Nat := fun b => match m' (y b) with | none => y b | some o => n + o
  have hylt : ∀ b, Spec m E O b → y b < n := fun b hb => (hy b hb).1.lt h.gr (h.ln b (.inl hb.1))
  have hyE : ∀ b, Spec m E O b → E (y b) := fun b hb => (hy b hb).1.mem hb.1
  have hinj : ∀ a ∈ sps m n ol, ∀ b ∈ sps m n ol, φ a = φ b → a = b := by
    intro a ha b hb e
    have sa := hsp a ha
    have sb := hsp b hb
    have : y a = y b := by
      have la := hylt a sa
      have lb := hylt b sb
      simp only [φ] at e
      cases ea : m' (y a) with
      | none =>
        cases eb : m' (y b) with
        | none => rw [ea, eb] at e; exact e
        | some o => rw [ea, eb] at e; simp only at e; omega
      | some o =>
        cases eb : m' (y b) with
        | none => rw [ea, eb] at e; simp only at e; omega
        | some o' =>
          rw [ea, eb] at e
          have : o = o' := by simp only at e; omega
          subst this
          exact hM.inj ea eb
    exact h.one sa sb (P := E) (fun x hx => h.dis x hx) sb.1 (hy a sa).1 (by rw [this]; exact (hy b sb).1)
  have hmem : ∀ a ∈ sps m n ol, φ a ∈ outs m' n ++ ol.map (n + ·) := by
    intro a ha
    have sa := hsp a ha
    have h2 := (hy a sa).2
    have la := hylt a sa
    simp only [φ]
    cases ea : m' (y a) with
    | none => exact List.mem_append.2 (.inl (mem_outs.2 ⟨la, ea⟩))
    | some o => exact List.mem_append.2 (.inr (List.mem_map.2 ⟨o, (hol o).2 (h2 o ea), rfl⟩))
  have L := inj_len φ _ _ hsn hinj hmem
  rw [sps_len, List.length_append, List.length_map] at L
  have o1 := outs_len m n
  have o2 := outs_len m' n
  refine ⟨by omega, fun e y0 hy0 hn0 => ?_⟩
  apply Classical.byContradiction
  intro hE
  have hy0m : y0 ∈ outs m' n := mem_outs.2 ⟨hy0, hn0⟩
  have L2 := inj_len φ (sps m n ol) ((outs m' n).erase y0 ++ ol.map (n + ·)) hsn hinj (fun a ha => by
    rcases List.mem_append.1 (hmem a ha) with h1 | h1
    · refine List.mem_append.2 (.inl ?_)
      have hne : φ a ≠ y0 := fun e2 => by
        have sa := hsp a ha
        have hlt : φ a < n := by rw [e2]; exact hy0
        have : φ a = y a := by
          simp only [φ] at hlt ⊢
          cases ea : m' (y a) with
          | none => rfl
          | some o => rw [ea] at hlt; simp only at hlt; omega
        rw [this] at e2
        exact hE (by rw [← e2]; exact hyE a sa)
      exact (List.mem_erase_of_ne hne).2 h1
    · exact List.mem_append.2 (.inr h1))
  rw [sps_len, List.length_append, List.length_map, List.length_erase_of_mem hy0m] at L2
  have := List.length_pos_of_mem hy0m
  omega

/-- The classes of the vertices without those of A. -/
structure Cls (n : Nat) (adj : Nat → Nat → Prop) (A : Nat → Prop) (cs : List (List Nat)) : Prop where
  nd : ∀ c ∈ cs, c.Nodup
  dj : cs.Pairwise fun a b => ∀ x ∈ a, x ∉ b
  mem : ∀ x, (∃ c ∈ cs, x ∈ c) ↔ x < n ∧ ¬ A x
  con : ∀ c ∈ cs, ∃ i ∈ c, ∀ x, x ∈ c ↔ Con adj (fun y => ¬ A y) i x
theorem Cls.same {A : Nat → Prop} {cs : List (List Nat)} (h : Cls n adj A cs) {a b : List Nat} (ha : a ∈ cs) (hb : b ∈ cs) {x : Nat} (hxa : x ∈ a) (hxb : x ∈ b) : a = b := by
  have := h.dj
  clear h
  induction cs with
  | nil => cases ha
  | cons c cs ih =>
    obtain ⟨h1, h2⟩ := List.pairwise_cons.1 this
    rcases List.mem_cons.1 ha with ea | ha'
    · rcases List.mem_cons.1 hb with eb | hb'
      · rw [ea, eb]
      · rw [ea] at hxa; exact absurd hxb (h1 b hb' x hxa)
    · rcases List.mem_cons.1 hb with eb | hb'
      · rw [eb] at hxb; exact absurd hxa (h1 a ha' x hxb)
      · exact ih ha' hb' h2
theorem Cls.nodup {A : Nat → Prop} {cs : List (List Nat)} (h : Cls n adj A cs) : cs.Nodup := by
  have hne : ∀ c ∈ cs, c ≠ [] := fun c hc e => by obtain ⟨i, hi, _⟩ := h.con c hc; rw [e] at hi; cases hi
  have := h.dj
  clear h
  induction cs with
  | nil => simp
  | cons c cs ih =>
    obtain ⟨h1, h2⟩ := List.pairwise_cons.1 this
    rw [List.nodup_cons]
    refine ⟨fun hm => ?_, ih (fun c hc => hne c (by simp [hc])) h2⟩
    obtain ⟨x, hx⟩ := List.exists_mem_of_ne_nil c (hne c (by simp))
    exact h1 c hm x hx hx
theorem Cls.all {A : Nat → Prop} (hsym : ∀ i j, adj i j → adj j i) {cs : List (List Nat)} (h : Cls n adj A cs) {c : List Nat} (hc : c ∈ cs) {b : Nat} (hb : b ∈ c) (x : Nat) : x ∈ c ↔ Con adj (fun y => ¬ A y) b x := by
  obtain ⟨i, hi, h1⟩ := h.con c hc
  have hA : ¬ A i := ((h.mem i).1 ⟨c, hc, hi⟩).2
  rw [h1]
  have hb' := (h1 b).1 hb
  exact ⟨fun hx => (hb'.symm hsym hA).trans hx, fun hx => hb'.trans hx⟩
/-- How many classes are odd. -/
def odds (cs : List (List Nat)) : Nat := (cs.filter fun c => c.length % 2 == 1).length
open Classical in
theorem Done.odds (h : Done n adj m E O) {ol : List Nat} (hol : ∀ x, x ∈ ol ↔ O x) (hon : ol.Nodup) {cs : List (List Nat)} (hc : Cls n adj O cs) : odds cs = ol.length + (outs m n).length := by
  have hsp := h.sps_spec hol
  have hsn := h.sps_nodup hol hon
  unfold Go.Proofs.Ytcpefolhohakmaa.odds
  apply Nat.le_antisymm
  · -- each odd class has a vertex that m leaves out or matches with one of O
    have hit : ∀ c, c ∈ cs.filter (fun c => c.length % 2 == 1) → ∃ y ∈ c, ∀ z, m y = some z → O z := by
      intro c hcf
      obtain ⟨hcs, hodd⟩ := List.mem_filter.1 hcf
      apply Classical.byContradiction
      intro hno
      have hno' : ∀ y ∈ c, ∃ z, m y = some z ∧ ¬ O z := fun y hy => by
        apply Classical.byContradiction
        intro hc'
        exact hno ⟨y, hy, fun z hz => by
          apply Classical.byContradiction
          intro ho
          exact hc' ⟨z, hz, ho⟩⟩
      have := even_closed h.gr.irr h.mat c.length c (Nat.le_refl _) (hc.nd c hcs) (fun x hx => by
        obtain ⟨z, e1, e2⟩ := hno' x hx
        refine ⟨z, ?_, e1⟩
        have hxa := hc.all h.gr.sym hcs hx
        exact (hxa z).2 (.step x z .refl (h.mat.adj _ _ e1) e2))
      simp at hodd
      omega
    let y : List Nat → Nat := fun c => if hb : ∃ y ∈ c, ∀ z, m y = some z → O z then hb.choose else 0
    have hy : ∀ c, c ∈ cs.filter (fun c => c.length % 2 == 1) → y c ∈ c ∧ ∀ z, m (y c) = some z → O z := fun c hb => by
      have e : y c = (hit c hb).choose := dif_pos (hit c hb)
      rw [e]; exact (hit c hb).choose_spec
    let φ : List Nat → Nat := fun c => match m (y c) with | none => y c | some o => n + o
    have L := inj_len φ (cs.filter (fun c => c.length % 2 == 1)) (outs m n ++ ol.map (n + ·)) (List.Pairwise.filter _ hc.nodup) (fun a ha b hb e => by
      have ya := hy a ha
      have yb := hy b hb
      have ca := (List.mem_filter.1 ha).1
      have cb := (List.mem_filter.1 hb).1
      have la := ((hc.mem (y a)).1 ⟨a, ca, ya.1⟩).1
      have lb := ((hc.mem (y b)).1 ⟨b, cb, yb.1⟩).1
      have : y a = y b := by
        simp only [φ] at e
        cases ea : m (y a) with
        | none =>
          cases eb : m (y b) with
          | none => rw [ea, eb] at e; exact e
          | some o => rw [ea, eb] at e; simp only at e; omega
        | some o =>
          cases eb : m (y b) with
          | none => rw [ea, eb] at e; simp only at e; omega
          | some o' =>
            rw [ea, eb] at e
            have : o = o' := by simp only at e; omega
            subst this
            exact h.mat.inj ea eb
      exact hc.same ca cb ya.1 (by rw [this]; exact yb.1)) (fun a ha => by
      have ya := hy a ha
      have ca := (List.mem_filter.1 ha).1
      have la := ((hc.mem (y a)).1 ⟨a, ca, ya.1⟩).1
      simp only [φ]
      cases ea : m (y a) with
      | none => exact List.mem_append.2 (.inl (mem_outs.2 ⟨la, ea⟩))
      | some o => exact List.mem_append.2 (.inr (List.mem_map.2 ⟨o, (hol o).2 (ya.2 o ea), rfl⟩)))
    rw [List.length_append, List.length_map] at L
    omega
  · have hcls : ∀ b, Spec m E O b → ∃ c ∈ cs, b ∈ c := fun b hb => (hc.mem b).2 ⟨h.ln b (.inl hb.1), h.dis b hb.1⟩
    let φ : Nat → List Nat := fun b => if hb : Spec m E O b then (hcls b hb).choose else []
    have hφ : ∀ b, Spec m E O b → φ b ∈ cs ∧ b ∈ φ b := fun b hb => by
      have e : φ b = (hcls b hb).choose := dif_pos hb
      rw [e]; exact (hcls b hb).choose_spec
    have L := inj_len φ (sps m n ol) (cs.filter (fun c => c.length % 2 == 1)) hsn (fun a ha b hb e => by
      have sa := hsp a ha
      have sb := hsp b hb
      obtain ⟨c1, c2⟩ := hφ a sa
      obtain ⟨d1, d2⟩ := hφ b sb
      rw [← e] at d2
      exact h.one sa sb (P := fun y => ¬ O y) (fun _ hx => hx) (h.dis b sb.1) ((hc.all h.gr.sym c1 c2 b).1 d2) .refl) (fun a ha => by
      have sa := hsp a ha
      obtain ⟨c1, c2⟩ := hφ a sa
      refine List.mem_filter.2 ⟨c1, ?_⟩
      have := h.odd sa (P := fun y => ¬ O y) (fun _ hx => hx) (fun x hx => h.dis x hx) (φ a) (hc.nd _ c1) (hc.all h.gr.sym c1 c2)
      simp [this])
    rw [sps_len] at L
    omega

end count

/-- The even and the odd vertices of all certificates. -/
def EvM (n : Nat) (adj : Nat → Nat → Prop) (m : Mt) (v : Nat) : Prop := ∃ r E O bs, Cert adj m r E O bs ∧ (∀ x, E x ∨ O x → x < n) ∧ E v
def OdM (n : Nat) (adj : Nat → Nat → Prop) (m : Mt) (v : Nat) : Prop := ∃ r E O bs, Cert adj m r E O bs ∧ (∀ x, E x ∨ O x → x < n) ∧ O v
theorem done_of {n : Nat} {adj : Nat → Nat → Prop} (G : Gr n adj) {m : Mt} (hM : Mat adj m) (h : ∀ r, r < n → m r = none → EvM n adj m r) : Done n adj m (EvM n adj m) (OdM n adj m) where
  gr := G
  mat := hM
  exp := h
  dis := by
    rintro v ⟨r, E, O, bs, h1, h2, h3⟩ ⟨r', E', O', bs', h1', h2', h3'⟩
    exact h1'.apart h1 hM G.sym h3 h3'
  om := by
    rintro o ⟨r, E, O, bs, h1, h2, h3⟩
    obtain ⟨b, e1, e2, _⟩ := h1.om o h3
    exact ⟨b, e1, r, E, O, bs, h1, h2, e2⟩
  ln := by
    rintro v (⟨r, E, O, bs, h1, h2, h3⟩ | ⟨r, E, O, bs, h1, h2, h3⟩)
    · exact h2 v (.inl h3)
    · exact h2 v (.inr h3)
  cls := by
    rintro v ⟨r, E, O, bs, h1, h2, h3⟩
    obtain ⟨h4, h5⟩ := h1.bE v h3
    refine ⟨fun x => E x ∧ bs x = bs v, bs v, ⟨h3, rfl⟩, ⟨h4, h5⟩, fun x hx => ⟨r, E, O, bs, h1, h2, hx.1⟩, fun x y hx hxy => ?_, fun x hx hne => ?_⟩
    · rcases h1.nb x y hx.1 hxy with g | ⟨g1, g2⟩
      · exact .inl ⟨r, E, O, bs, h1, h2, g⟩
      · exact .inr ⟨g1, by rw [g2, hx.2]⟩
    · obtain ⟨y, e1, e2, e3⟩ := h1.em x hx.1 (by rw [hx.2]; exact hne)
      exact ⟨y, e1, e2, by rw [e3, hx.2]⟩
  way := by
    rintro v ⟨r, E, O, bs, h1, h2, h3⟩
    obtain ⟨l, a, b, _⟩ := h1.way v h3
    exact ⟨l, a, b⟩
/-- The graph without a vertex's edges. -/
def wo (adj : Nat → Nat → Prop) (k : Nat) : Nat → Nat → Prop := fun i j => adj i j ∧ i ≠ k ∧ j ≠ k
theorem wo_gr {n : Nat} {adj : Nat → Nat → Prop} (G : Gr n adj) (k : Nat) : Gr n (wo adj k) :=
  ⟨fun i j h => ⟨G.sym i j h.1, h.2.2, h.2.1⟩, fun i h => G.irr i h.1, fun i j h => G.lt i j h.1⟩
/-- Who can be left out: the even vertices. -/
theorem left_iff {n : Nat} {adj : Nat → Nat → Prop} {m mk : Mt} (h : Done n adj m (EvM n adj m) (OdM n adj m)) {k : Nat} (hk : k < n) (h' : Done n (wo adj k) mk (EvM n (wo adj k) mk) (OdM n (wo adj k) mk)) :
    cnt mk n = cnt m n ↔ EvM n adj m k := by
  have hM : Mat adj mk := ⟨fun i j e => (h'.mat.adj i j e).1, h'.mat.inv⟩
  have g := h.greatest hM
  constructor
  · intro e
    refine g.2 e k hk ?_
    cases e2 : mk k with
    | none => rfl
    | some j => exact absurd rfl (h'.mat.adj k j e2).2.1
  · intro hE
    obtain ⟨l, a, b⟩ := h.way k hE
    obtain ⟨m', c1, c2, c3⟩ := flip_ok h.gr h.mat a b
    have hM' : Mat (wo adj k) m' := ⟨fun i j e => ⟨c1.adj i j e, fun e2 => (by rw [e2, c2] at e; cases e), fun e2 => (by rw [e2] at e; have := c1.inv _ _ e; rw [c2] at this; cases this)⟩, c1.inv⟩
    have := (h'.greatest hM').1
    omega
/-- The odd vertices: those beside even ones that are not even. -/
theorem odd_iff {n : Nat} {adj : Nat → Nat → Prop} {m : Mt} (h : Done n adj m (EvM n adj m) (OdM n adj m)) (i : Nat) : OdM n adj m i ↔ ¬ EvM n adj m i ∧ ∃ j, adj i j ∧ EvM n adj m j := by
  constructor
  · intro ho
    refine ⟨fun he => h.dis i he ho, ?_⟩
    obtain ⟨b, e1, e2⟩ := h.om i ho
    exact ⟨b, h.mat.adj _ _ e1, e2⟩
  · rintro ⟨h1, j, hij, r, E, O, bs, h2, h3, h4⟩
    rcases h2.nb j i h4 (h.gr.sym _ _ hij) with g | ⟨g, _⟩
    · exact ⟨r, E, O, bs, h2, h3, g⟩
    · exact absurd ⟨r, E, O, bs, h2, h3, g⟩ h1
/-- The law: twice the number of pairs. -/
theorem berge {n : Nat} {adj : Nat → Nat → Prop} {m : Mt} (h : Done n adj m (EvM n adj m) (OdM n adj m)) {ol : List Nat} (hol : ∀ x, x ∈ ol ↔ OdM n adj m x) (hon : ol.Nodup) {cs : List (List Nat)} (hc : Cls n adj (OdM n adj m) cs) :
    cnt m n + odds cs = n + ol.length := by
  have h1 := h.odds hol hon hc
  have h2 := outs_len m n
  omega
theorem Cls.congr {n : Nat} {adj : Nat → Nat → Prop} {A B : Nat → Prop} (e : ∀ x, A x ↔ B x) {cs : List (List Nat)} (h : Cls n adj A cs) : Cls n adj B cs := by
  have : A = B := funext fun x => propext (e x)
  rw [← this]; exact h
/-- How many are matched is even. -/
theorem cnt_even {n : Nat} {adj : Nat → Nat → Prop} {m : Mt} (G : Gr n adj) (hM : Mat adj m) : cnt m n % 2 = 0 := by
  let l := (List.range n).filter fun i => (m i).isSome
  have hn : l.Nodup := List.Pairwise.filter _ List.nodup_range
  have h1 := even_closed G.irr hM l.length l (Nat.le_refl _) hn (fun x hx => by
    obtain ⟨h1, h2⟩ := List.mem_filter.1 hx
    obtain ⟨y, hy⟩ := Option.isSome_iff_exists.1 h2
    refine ⟨y, List.mem_filter.2 ⟨List.mem_range.2 (G.lt _ _ (hM.adj _ _ hy)).2, ?_⟩, hy⟩
    rw [hM.inv _ _ hy]; rfl)
  have h2 : l.length = cnt m n := by
    have e : ∀ k, ((List.range k).filter fun i => (m i).isSome).length = cnt m k := fun k => by
      induction k with
      | zero => rfl
      | succ k ih =>
        rw [cnt, List.range_succ, List.filter_append, List.length_append, ih]
        cases h : m k <;> simp [h]
    exact e n
  omega

end Go.Proofs.Ytcpefolhohakmaa
