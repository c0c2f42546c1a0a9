/- Plain: a blossom is shrunk; the search's invariant stays. -/
import Derived.Test.YtcpefolhohakmaaM3
namespace Go.Proofs.Ytcpefolhohakmaa

theorem Seg.det {f m : Mt} {b c s : Nat} {P Q : List Nat} (h : Seg f m c s P) (h' : Seg f m b s Q) (hb : b ∉ P) : ∀ x ∈ P, x ∈ Q := by
  induction h generalizing Q with
  | one =>
    intro x hx
    obtain ⟨Q', rfl⟩ := h'.head
    rw [List.mem_singleton.1 hx]; simp
  | cons s o t P hs ho _ ih =>
    intro x hx
    cases h' with
    | one => exact absurd (by simp) hb
    | cons _ o' t' Q' hs' ho' hl' =>
      rw [hs] at hs'; cases hs'
      rw [ho] at ho'; cases ho'
      rcases List.mem_cons.1 hx with rfl | hx
      · simp
      · exact List.mem_cons_of_mem _ (ih hl' (fun hm => hb (by simp [hm])) x hx)
theorem Seg.suffix {f m : Mt} {b v : Nat} {l : List Nat} (h : Seg f m b v l) : ∀ y ∈ l, ∃ Q, Seg f m b y Q ∧ ∀ x ∈ Q, x ∈ l := by
  induction h with
  | one => intro y hy; rw [List.mem_singleton.1 hy]; exact ⟨[b], .one, fun x hx => hx⟩
  | cons s o t l hs ho hl ih =>
    intro y hy
    rcases List.mem_cons.1 hy with rfl | hy
    · exact ⟨_, .cons y o t l hs ho hl, fun x hx => hx⟩
    · obtain ⟨Q, h1, h2⟩ := ih y hy
      exact ⟨Q, h1, fun x hx => by simp [h2 x hx]⟩
theorem Seg.from {f m : Mt} {b : Nat} {R : List Nat} (hR : R ≠ []) : ∀ (l1 : List Nat) (v : Nat), Seg f m b v (l1 ++ R) → ∀ s ∈ l1, ∃ P, Seg f m b s P ∧ (∀ x ∈ R, x ∈ P) ∧ ∀ x ∈ P, x ∈ l1 ++ R := by
  intro l1
  induction l1 with
  | nil => intro v _ s hs; cases hs
  | cons a l1 ih =>
    intro v h s hs
    obtain ⟨l', e⟩ := h.head
    have ea : a = v := (List.cons.inj e).1
    subst ea
    rcases List.mem_cons.1 hs with rfl | hs
    · exact ⟨_, h, fun x hx => by simp [hx], fun x hx => hx⟩
    · generalize hl : a :: l1 ++ R = L at h
      cases h with
      | one =>
        have : l1 ++ R = [] := by simpa using hl
        exact absurd (List.append_eq_nil_iff.1 this).2 hR
      | cons _ o t l hs' ho hl' =>
        have e2 : l1 ++ R = l := by simpa using hl
        subst e2
        obtain ⟨P, g1, g2, g3⟩ := ih t hl' s hs
        exact ⟨P, g1, g2, fun x hx => by rw [← hl]; exact List.mem_cons_of_mem _ (g3 x hx)⟩
/-- A first part of a way, and another way from there. -/
theorem Seg.turn {f f' m : Mt} {b c s : Nat} {R R' : List Nat} (h' : Seg f' m b s R') : ∀ (l1 : List Nat) (v : Nat), Seg f m c v (l1 ++ s :: R) → (∀ x ∈ l1, ∀ o, m x = some o → f o ≠ none → f' o = f o) → Seg f' m b v (l1 ++ R') := by
  intro l1
  induction l1 with
  | nil =>
    intro v h _
    obtain ⟨l', e⟩ := h.head
    obtain ⟨rfl, -⟩ := List.cons.inj e
    exact h'
  | cons a l1 ih =>
    intro v h hf
    generalize hl : a :: l1 ++ s :: R = L at h
    cases h with
    | one => simp at hl
    | cons _ o t l hs ho hl' =>
      obtain ⟨rfl, e2⟩ := List.cons.inj hl
      have e3 : l1 ++ s :: R = l := by simpa using e2
      subst e3
      exact .cons a o t _ hs (by rw [hf a (by simp) o hs (by rw [ho]; simp)]; exact ho) (ih t hl' fun x hx => hf x (by simp [hx]))
theorem first_split {P : Nat → Prop} : ∀ (l : List Nat), (∃ x ∈ l, P x) → ∃ l1 s l2, l = l1 ++ s :: l2 ∧ P s ∧ ∀ x ∈ l1, ¬ P x := by
  intro l
  induction l with
  | nil => rintro ⟨x, hx, _⟩; cases hx
  | cons a l ih =>
    intro h
    by_cases ha : P a
    · exact ⟨[], a, l, rfl, ha, fun x hx => by cases hx⟩
    · obtain ⟨l1, s, l2, e, h1, h2⟩ := ih (by
        obtain ⟨x, hx, hp⟩ := h
        rcases List.mem_cons.1 hx with rfl | hx
        · exact absurd hp ha
        · exact ⟨x, hx, hp⟩)
      exact ⟨a :: l1, s, l2, by rw [e]; rfl, h1, fun x hx => by
        rcases List.mem_cons.1 hx with rfl | hx
        · exact ha
        · exact h2 x hx⟩

/-- Bases from c up to, but without, b. -/
inductive Anc (m f : Mt) (bs : Nat → Nat) (b : Nat) : Nat → List Nat → Prop
  | here : Anc m f bs b b []
  | up (c o x : Nat) (L : List Nat) (hm : m c = some o) (hf : f o = some x) (h : Anc m f bs b (bs x) L) : Anc m f bs b c (c :: L)

/-- The states from v on that are not in b's class yet (Y), and those in it (T). -/
structure Sd (m f : Mt) (bs : Nat → Nat) (ev : Nat → Bool) (lev : Nat → Nat) (b v : Nat) (L Y T : List Nat) : Prop where
  sg : Seg f m b v (Y ++ T)
  sim : Sim m (Y ++ T)
  yy : ∀ y ∈ Y, ev y = true ∧ bs y ≠ b ∧ bs y ∈ L ∧ bs y ∈ Y
  tt : ∀ y ∈ T, ev y = true ∧ bs y = b
  lv : ∀ y ∈ Y, lev (bs y) ≤ lev (bs v) ∧ lev b < lev (bs y)
  cont : ∀ c ∈ Y, bs c = c → ∃ o x R, m c = some o ∧ f o = some x ∧ Seg f m b x R ∧ Sim m R ∧ ∀ y ∈ R, ev y = true ∧ bs y ≠ c ∧ (y ∈ Y ∨ y ∈ T)
  hd : bs v = b ∨ v ∈ Y

section sh
variable {n : Nat} {adj : Nat → Nat → Prop} {m : Mt} {r : Nat} {f : Mt} {bs : Nat → Nat} {ev : Nat → Bool} {lev : Nat → Nat}

theorem SI.anc_lev (h : SI n adj m r f bs ev lev) {b c : Nat} {L : List Nat} (ha : Anc m f bs b c L) (hc : ev c = true) (hb : bs c = c) : lev b ≤ lev c ∧ (L ≠ [] → lev b < lev c) ∧ ev b = true ∧ bs b = b := by
  induction ha with
  | here => exact ⟨Nat.le_refl _, fun h => absurd rfl h, hc, hb⟩
  | up c o x L hm hf _ ih =>
    have hr : c ≠ r := fun e => by rw [e, h.rx] at hm; cases hm
    obtain ⟨o', x', g1, g2, g3, g4⟩ := h.up c hc hb hr
    rw [hm] at g1; cases g1
    rw [hf] at g3; cases g3
    obtain ⟨e1, e2⟩ := h.bev x (h.ev_of hf)
    obtain ⟨i1, i2, i3⟩ := ih e1 e2
    exact ⟨by omega, fun _ => by omega, i3⟩
theorem SI.side (h : SI n adj m r f bs ev lev) (hM : Mat adj m) {b c : Nat} {L : List Nat} (ha : Anc m f bs b c L) : b ∉ L → ∀ v, ev v = true → bs v = c → ∃ Y T, Sd m f bs ev lev b v L Y T := by
  induction ha with
  | here =>
    intro _ v hv hb
    obtain ⟨l, h1, h2, h3⟩ := h.seg v hv
    rw [hb] at h1 h3
    exact ⟨[], l, h1, h2, fun y hy => absurd hy (by simp), h3, fun y hy => absurd hy (by simp), fun c hc => absurd hc (by simp), .inl hb⟩
  | up c o x L hm hf han ih =>
    intro hbL v hv hb
    obtain ⟨l, h1, h2, h3⟩ := h.seg v hv
    obtain ⟨c1, c2⟩ := h.bev v hv
    rw [hb] at h1 h3 c1 c2
    have hbc : b ≠ c := fun e => hbL (by simp [e])
    have hr : c ≠ r := fun e => by rw [e, h.rx] at hm; cases hm
    obtain ⟨o', x', g1, g2, g3, g4⟩ := h.up c c1 c2 hr
    rw [hm] at g1; cases g1
    rw [hf] at g3; cases g3
    have hx := h.ev_of hf
    obtain ⟨Y, T, s⟩ := ih (fun hm => hbL (by simp [hm])) x hx rfl
    obtain ⟨e1, e2⟩ := h.bev x hx
    have lb := h.anc_lev han e1 e2
    have hne : ∀ y ∈ Y ++ T, ev y = true ∧ bs y ≠ c := fun y hy => by
      rcases List.mem_append.1 hy with hy | hy
      · obtain ⟨q1, q2⟩ := s.yy y hy
        obtain ⟨q3, _⟩ := s.lv y hy
        exact ⟨q1, fun e => by rw [e] at q3; omega⟩
      · obtain ⟨q1, q2⟩ := s.tt y hy
        exact ⟨q1, by rw [q2]; exact hbc⟩
    have hap : Apart m l (Y ++ T) := fun p hp q hq => by
      obtain ⟨p1, p2⟩ := h3 p hp
      obtain ⟨q1, q2⟩ := hne q hq
      refine ⟨fun e => q2 (by rw [← e, p2]), fun e => ?_⟩
      rcases h.mate_ev p1 e with ⟨_, q3, _⟩ | ⟨q3, _⟩
      · exact q2 (by rw [q3, p2])
      · rw [q1] at q3; cases q3
    refine ⟨l ++ Y, T, ?_, ?_, ?_, s.tt, ?_, ?_, .inr ?_⟩
    · rw [List.append_assoc]; exact h1.append hm hf s.sg
    · rw [List.append_assoc]; exact h2.append hM s.sim hap
    · intro y hy
      rcases List.mem_append.1 hy with hy | hy
      · obtain ⟨q1, q2⟩ := h3 y hy
        rw [q2]
        exact ⟨q1, fun e => hbc e.symm, by simp, List.mem_append.2 (.inl h1.last)⟩
      · obtain ⟨q1, q2, q3, q4⟩ := s.yy y hy
        exact ⟨q1, q2, by simp [q3], List.mem_append.2 (.inr q4)⟩
    · intro y hy
      rw [hb]
      rcases List.mem_append.1 hy with hy | hy
      · obtain ⟨q1, q2⟩ := h3 y hy
        rw [q2]; exact ⟨Nat.le_refl _, by omega⟩
      · obtain ⟨q1, q2⟩ := s.lv y hy
        exact ⟨by omega, q2⟩
    · intro c0 hc0 hcb
      rcases List.mem_append.1 hc0 with hc0 | hc0
      · obtain ⟨q1, q2⟩ := h3 c0 hc0
        rw [hcb] at q2
        subst q2
        refine ⟨o, x, Y ++ T, hm, hf, s.sg, s.sim, fun y hy => ?_⟩
        obtain ⟨t1, t2⟩ := hne y hy
        refine ⟨t1, t2, ?_⟩
        rcases List.mem_append.1 hy with hy | hy
        · exact .inl (List.mem_append.2 (.inr hy))
        · exact .inr hy
      · obtain ⟨o0, x0, R, k1, k2, k3, k4, k5⟩ := s.cont c0 hc0 hcb
        refine ⟨o0, x0, R, k1, k2, k3, k4, fun y hy => ?_⟩
        obtain ⟨t1, t2, t3⟩ := k5 y hy
        exact ⟨t1, t2, t3.imp (fun g => List.mem_append.2 (.inr g)) id⟩
    · obtain ⟨l', e⟩ := h1.head
      rw [e]; simp

/-- Which vertices a side draws into the blossom. -/
def InZ (m : Mt) (bs : Nat → Nat) (Y : List Nat) (z : Nat) : Prop := ∃ y ∈ Y, bs z = bs y ∨ ∃ o, m y = some o ∧ bs z = bs o
theorem SI.inz (h : SI n adj m r f bs ev lev) {Y : List Nat} (hY : ∀ y ∈ Y, ev y = true) {z : Nat} (hz : InZ m bs Y z) :
    (ev z = true ∧ ∃ y ∈ Y, bs z = bs y) ∨ (ev z = false ∧ bs z = z ∧ ∃ y ∈ Y, m y = some z ∧ bs y = y) := by
  obtain ⟨y, hy, h1⟩ := hz
  have hye := hY y hy
  have key : bs z = bs y → ev z = true := fun e => by
    cases hz : ev z with
    | true => rfl
    | false => rw [h.bod z hz] at e; rw [e, (h.bev y hye).1] at hz; cases hz
  rcases h1 with e | ⟨o, ho, e⟩
  · exact .inl ⟨key e, y, hy, e⟩
  · rcases h.mate_ev hye ho with ⟨_, q, _⟩ | ⟨q1, q2, _, q4, _⟩
    · rw [q] at e; exact .inl ⟨key e, y, hy, e⟩
    · rw [q4] at e
      cases hz : ev z with
      | true => have := (h.bev z hz).1; rw [e, q1] at this; cases this
      | false =>
        have := h.bod z hz
        rw [this] at e
        subst e
        exact .inr ⟨rfl, this, y, hy, ho, q2⟩
theorem SI.inz_mate (h : SI n adj m r f bs ev lev) (hM : Mat adj m) {Y : List Nat} (hY : ∀ y ∈ Y, ev y = true ∧ bs y ∈ Y) {z t : Nat} (hz : InZ m bs Y z) (ht : m z = some t) : InZ m bs Y t := by
  rcases h.inz (fun y hy => (hY y hy).1) hz with ⟨h1, y, hy, e⟩ | ⟨_, _, y, hy, e, _⟩
  · rcases h.mate_ev h1 ht with ⟨_, q, _⟩ | ⟨_, q, _⟩
    · exact ⟨y, hy, .inl (by rw [q, e])⟩
    · have : z ∈ Y := by have := (hY y hy).2; rw [← e, q] at this; exact this
      exact ⟨z, this, .inr ⟨t, ht, rfl⟩⟩
  · have := hM.inv _ _ e
    rw [ht] at this; cases this
    exact ⟨t, hy, .inl rfl⟩
theorem inz_self {Y : List Nat} {y : Nat} (hy : y ∈ Y) : InZ m bs Y y := ⟨y, hy, .inl rfl⟩

/-- What mark writes. -/
def Mk (f' m : Mt) : Nat → List Nat → Prop
  | _, [] => True
  | c, y :: Y => f' y = some c ∧ ∀ o, m y = some o → Mk f' m o Y
theorem back {f' : Mt} (hM : Mat adj m) {b : Nat} : ∀ (Y C : List Nat) (c : Nat), Mk f' m c Y → Y.Nodup → Seg f' m b c C → ∀ y ∈ Y, ∀ o, m y = some o → (∀ y ∈ Y, m y ≠ none) →
    ∃ B, Seg f' m b o (B ++ C) ∧ (∀ z ∈ B, ∃ y' ∈ Y, m y' = some z) ∧ B.Nodup := by
  intro Y
  induction Y with
  | nil => intro C c _ _ _ y hy; cases hy
  | cons y0 Y ih =>
    intro C c hk hn hC y hy o ho hall
    obtain ⟨h1, h2⟩ := hk
    obtain ⟨n1, n2⟩ := List.nodup_cons.1 hn
    cases e0 : m y0 with
    | none => exact absurd e0 (hall y0 (by simp))
    | some o0 =>
      have s0 : Seg f' m b o0 (o0 :: C) := .cons o0 y0 c C (hM.inv _ _ e0) h1 hC
      rcases List.mem_cons.1 hy with rfl | hy
      · rw [e0] at ho; cases ho
        exact ⟨[o], s0, fun z hz => ⟨y, by simp, by rw [List.mem_singleton.1 hz]; exact e0⟩, by simp⟩
      · obtain ⟨B, g1, g2, g3⟩ := ih (o0 :: C) o0 (h2 o0 e0) n2 s0 y hy o ho (fun x hx => hall x (by simp [hx]))
        refine ⟨B ++ [o0], by rw [List.append_assoc]; exact g1, fun z hz => ?_, ?_⟩
        · rcases List.mem_append.1 hz with hz | hz
          · obtain ⟨y', hy', e⟩ := g2 z hz
            exact ⟨y', by simp [hy'], e⟩
          · rw [List.mem_singleton.1 hz]; exact ⟨y0, by simp, e0⟩
        · rw [List.nodup_append]
          refine ⟨g3, by simp, fun a ha b hb e => ?_⟩
          rw [List.mem_singleton.1 hb] at e
          subst e
          obtain ⟨y', hy', e'⟩ := g2 _ ha
          have := hM.inj e' e0
          subst this
          exact n1 hy'

/-- The ways of one side's vertices in the new class. -/
theorem SI.seg_side (h : SI n adj m r f bs ev lev) (hM : Mat adj m) {b v w : Nat} {L K Y T W U : List Nat} (sv : Sd m f bs ev lev b v L Y T) (sw : Sd m f bs ev lev b w K W U)
    (hd : ∀ y ∈ Y, ∀ x ∈ W, bs y ≠ bs x) {f' : Mt} (hk : Mk f' m w Y) (hf : ∀ o, o ∉ Y → o ∉ W → f' o = f o) (hb : ev b = true) (hbb : bs b = b) {z : Nat} (hz : InZ m bs Y z) :
    ∃ l, Seg f' m b z l ∧ Sim m l ∧ ∀ y ∈ l, InZ m bs Y y ∨ InZ m bs W y ∨ (ev y = true ∧ bs y = b) := by
  have hYe : ∀ y ∈ Y, ev y = true := fun y hy => (sv.yy y hy).1
  have hWe : ∀ y ∈ W, ev y = true := fun y hy => (sw.yy y hy).1
  have hYm : ∀ y ∈ Y, ev y = true ∧ bs y ∈ Y := fun y hy => ⟨(sv.yy y hy).1, (sv.yy y hy).2.2.2⟩
  have hWm : ∀ y ∈ W, ev y = true ∧ bs y ∈ W := fun y hy => ⟨(sw.yy y hy).1, (sw.yy y hy).2.2.2⟩
  have zd : ∀ z, InZ m bs Y z → ¬ InZ m bs W z := fun z h1 h2 => by
    rcases h.inz hYe h1 with ⟨p1, y, hy, e⟩ | ⟨p1, _, y, hy, e, _⟩ <;> rcases h.inz hWe h2 with ⟨q1, x, hx, g⟩ | ⟨q1, _, x, hx, g, _⟩
    · exact hd y hy x hx (by rw [← e, g])
    · rw [p1] at q1; cases q1
    · rw [p1] at q1; cases q1
    · have := hM.inj e g
      subst this
      exact hd y hy y hx rfl
  have zb : ∀ z, InZ m bs Y z → bs z ≠ b := fun z h1 e => by
    rcases h.inz hYe h1 with ⟨p1, y, hy, g⟩ | ⟨p1, g, _⟩
    · exact (sv.yy y hy).2.1 (by rw [← g, e])
    · rw [g] at e; rw [e, hb] at p1; cases p1
  have zbW : ∀ z, InZ m bs W z → bs z ≠ b := fun z h1 e => by
    rcases h.inz hWe h1 with ⟨p1, y, hy, g⟩ | ⟨p1, g, _⟩
    · exact (sw.yy y hy).2.1 (by rw [← g, e])
    · rw [g] at e; rw [e, hb] at p1; cases p1
  -- partners of b's class are not written
  have cb : ∀ s, ev s = true → bs s = b → ∀ o, m s = some o → o ∉ Y ∧ o ∉ W := fun s hs hsb o ho => by
    rcases h.mate_ev hs ho with ⟨q1, q2, _⟩ | ⟨q1, _⟩
    · exact ⟨fun hm => (sv.yy o hm).2.1 (by rw [q2, hsb]), fun hm => (sw.yy o hm).2.1 (by rw [q2, hsb])⟩
    · exact ⟨fun hm => (by have := hYe o hm; rw [q1] at this; cases this), fun hm => (by have := hWe o hm; rw [q1] at this; cases this)⟩
  have hC : Seg f' m b w (W ++ U) := sw.sg.congr fun s hs o ho _ => by
    rcases List.mem_append.1 hs with h1 | h1
    · refine hf o (fun hm => ?_) (fun hm => sw.sim.no s hs o (by simp [hm]) ho)
      exact zd o (inz_self hm) (h.inz_mate hM hWm (inz_self h1) ho)
    · obtain ⟨q1, q2⟩ := sw.tt s h1
      obtain ⟨a1, a2⟩ := cb s q1 q2 o ho
      exact hf o a1 a2
  have hCz : ∀ x ∈ W ++ U, InZ m bs W x ∨ (ev x = true ∧ bs x = b) := fun x hx => by
    rcases List.mem_append.1 hx with hx | hx
    · exact .inl (inz_self hx)
    · exact .inr (sw.tt x hx)
  have hCe : ∀ x ∈ W ++ U, ev x = true := fun x hx => by
    rcases List.mem_append.1 hx with hx | hx
    · exact hWe x hx
    · exact (sw.tt x hx).1
  have hYn : Y.Nodup := sv.sim.left.nd
  have hYs : ∀ y ∈ Y, m y ≠ none := fun y hy e => by
    by_cases g : bs y = y
    · obtain ⟨o, _, _, k1, _⟩ := sv.cont y hy g
      rw [e] at k1; cases k1
    · obtain ⟨x, k1, _⟩ := h.em y (hYe y hy) (fun e => g e.symm)
      rw [e] at k1; cases k1
  -- the way backward
  have hback : ∀ y ∈ Y, ∀ o, m y = some o → ∃ B, Seg f' m b o (B ++ (W ++ U)) ∧ Sim m (B ++ (W ++ U)) ∧ (∀ z ∈ B, ∃ y' ∈ Y, m y' = some z) := fun y hy o ho => by
    obtain ⟨B, g1, g2, g3⟩ := back hM Y (W ++ U) w hk hYn hC y hy o ho hYs
    have hB : Sim m B := ⟨g3, fun s hs t ht e => by
      obtain ⟨y1, a1, a2⟩ := g2 s hs
      obtain ⟨y2, b1, b2⟩ := g2 t ht
      have := hM.inv _ _ a2
      rw [e] at this; cases this
      exact sv.sim.no y2 (by simp [b1]) t (by simp [a1]) b2⟩
    refine ⟨B, g1, hB.append hM sw.sim (fun s hs t ht => ?_), g2⟩
    obtain ⟨y1, a1, a2⟩ := g2 s hs
    have zs : InZ m bs Y s := h.inz_mate hM hYm (inz_self a1) a2
    have zt : ∀ t ∈ W ++ U, ¬ InZ m bs Y t := fun t ht hzt => by
      rcases hCz t ht with h1 | ⟨_, h1⟩
      · exact zd t hzt h1
      · exact zb t hzt h1
    exact ⟨fun e => zt t ht (by rw [← e]; exact zs), fun e => zt t ht (h.inz_mate hM hYm zs e)⟩
  have hBz : ∀ (B : List Nat), (∀ z ∈ B, ∃ y' ∈ Y, m y' = some z) → ∀ y ∈ B ++ (W ++ U), InZ m bs Y y ∨ InZ m bs W y ∨ (ev y = true ∧ bs y = b) := fun B g2 y hy => by
    rcases List.mem_append.1 hy with hy | hy
    · obtain ⟨y1, a1, a2⟩ := g2 y hy
      exact .inl (h.inz_mate hM hYm (inz_self a1) a2)
    · exact .inr (hCz y hy)
  rcases h.inz hYe hz with ⟨hze, y, hy, e⟩ | ⟨_, _, y, hy, e, _⟩
  · obtain ⟨l, l1, l2, l3⟩ := h.seg z hze
    have hcY : bs y ∈ Y := (sv.yy y hy).2.2.2
    rw [e] at l1 l3
    obtain ⟨c1, c2⟩ := h.bev y (hYe y hy)
    generalize bs y = c at l1 l3 hcY c1 c2
    have hcb : c ≠ b := fun e => (sv.yy c hcY).2.1 (by rw [c2, e])
    have hlz : ∀ s ∈ l, InZ m bs Y s := fun s hs => ⟨c, hcY, .inl (by rw [(l3 s hs).2, c2])⟩
    -- partners of states of l that are not partners of Y are not written
    have hun : ∀ s ∈ l, (¬ ∃ y ∈ Y, m y = some s) → ∀ o, m s = some o → f o ≠ none → f' o = f o := fun s hs hno o ho _ =>
      hf o (fun hm => hno ⟨o, hm, hM.inv _ _ ho⟩) (fun hm => zd o (h.inz_mate hM hYm (hlz s hs) ho) (inz_self hm))
    by_cases hex : ∃ s ∈ l, ∃ y ∈ Y, m y = some s
    · obtain ⟨p1, s, p2, el, ⟨yj, hyj, ej⟩, hp1⟩ := first_split l hex
      obtain ⟨B, g1, g2, g3⟩ := hback yj hyj s ej
      subst el
      refine ⟨p1 ++ (B ++ (W ++ U)), g1.turn p1 z l1 (fun x hx => hun x (by simp [hx]) (hp1 x hx)), ?_, ?_⟩
      · refine Sim.append hM l2.left g2 (fun a ha t ht => ?_)
        have hal : a ∈ p1 ++ s :: p2 := by simp [ha]
        have haY : a ∉ Y := fun haY => by
          obtain ⟨P, r1, r2, r3⟩ := Seg.from (R := s :: p2) (by simp) p1 z l1 a ha
          obtain ⟨Q, q1, q2⟩ := sv.sg.suffix a (by simp [haY])
          have hbP : b ∉ P := fun hm => hcb (by
            have := (l3 b (r3 b hm)).2
            rw [hbb] at this
            exact this.symm)
          have := Seg.det r1 q1 hbP s (r2 s (by simp))
          exact sv.sim.no yj (by simp [hyj]) s (q2 s this) ej
        rcases List.mem_append.1 ht with ht | ht
        · obtain ⟨y1, a1, a2⟩ := g3 t ht
          refine ⟨fun e => hp1 a ha ⟨y1, a1, by rw [e]; exact a2⟩, fun e => ?_⟩
          have := hM.inj e (hM.inv _ _ (hM.inv _ _ a2))
          exact haY (by rw [this]; exact a1)
        · obtain ⟨q1, q2⟩ := l3 a hal
          have zt : ¬ InZ m bs Y t := fun hzt => by
            rcases hCz t ht with h1 | ⟨_, h1⟩
            · exact zd t hzt h1
            · exact zb t hzt h1
          exact ⟨fun e => zt (by rw [← e]; exact hlz a hal), fun e => zt (h.inz_mate hM hYm (hlz a hal) e)⟩
      · intro y hy
        rcases List.mem_append.1 hy with hy | hy
        · exact .inl (hlz y (by simp [hy]))
        · exact hBz B g3 y hy
    · obtain ⟨o, x, R, k1, k2, k3, k4, k5⟩ := sv.cont c hcY c2
      have hno : ∀ s ∈ l, ¬ ∃ y ∈ Y, m y = some s := fun s hs hc => hex ⟨s, hs, hc⟩
      have s1 : Seg f' m c z l := l1.congr fun s hs => hun s hs (hno s hs)
      have ho : f' o = some x := by
        rw [hun c l1.last (hno c l1.last) o k1 (by rw [k2]; simp)]; exact k2
      have s2 : Seg f' m b x R := k3.congr fun s hs o' ho' _ => by
        rcases (k5 s hs).2.2 with h1 | h1
        · exact hf o' (fun hm => sv.sim.no s (by simp [h1]) o' (by simp [hm]) ho') (fun hm => zd o' (h.inz_mate hM hYm (inz_self h1) ho') (inz_self hm))
        · obtain ⟨a1, a2⟩ := cb s (sv.tt s h1).1 (sv.tt s h1).2 o' ho'
          exact hf o' a1 a2
      refine ⟨l ++ R, s1.append k1 ho s2, l2.append hM k4 (fun a ha t ht => ?_), fun y hy => ?_⟩
      · obtain ⟨q1, q2⟩ := l3 a ha
        obtain ⟨t1, t2, _⟩ := k5 t ht
        refine ⟨fun e => t2 (by rw [← e, q2]), fun e => ?_⟩
        rcases h.mate_ev q1 e with ⟨_, q3, _⟩ | ⟨q3, _⟩
        · exact t2 (by rw [q3, q2])
        · rw [t1] at q3; cases q3
      · rcases List.mem_append.1 hy with hy | hy
        · exact .inl (hlz y hy)
        · rcases (k5 y hy).2.2 with h1 | h1
          · exact .inl (inz_self h1)
          · exact .inr (.inr (sv.tt y h1))
  · obtain ⟨B, g1, g2, g3⟩ := hback y hy z e
    exact ⟨_, g1, g2, hBz B g3⟩

theorem mk_at {f' : Mt} {b : Nat} {T : List Nat} (hT : T ≠ []) : ∀ (Y : List Nat) (c v : Nat), Mk f' m c Y → Seg f m b v (Y ++ T) → ∀ y ∈ Y, (y = v ∧ f' y = some c) ∨ ∃ y0 ∈ Y, ∃ o, m y0 = some o ∧ f o = some y ∧ f' y = some o := by
  intro Y
  induction Y with
  | nil => intro c v _ _ y hy; cases hy
  | cons y0 Y ih =>
    intro c v hk hs y hy
    obtain ⟨h1, h2⟩ := hk
    generalize hl : y0 :: Y ++ T = l at hs
    cases hs with
    | one =>
      have : Y ++ T = [] := (List.cons.inj hl).2
      exact absurd (List.append_eq_nil_iff.1 this).2 hT
    | cons _ o t l hso hot hl' =>
      obtain ⟨rfl, e2⟩ := List.cons.inj hl
      have e3 : Y ++ T = l := by simpa using e2
      subst e3
      rcases List.mem_cons.1 hy with rfl | hy
      · exact .inl ⟨rfl, h1⟩
      · rcases ih o t (h2 o hso) hl' y hy with ⟨rfl, g⟩ | ⟨y1, g1, o1, g2, g3, g4⟩
        · exact .inr ⟨y0, by simp, o, hso, hot, g⟩
        · exact .inr ⟨y1, by simp [g1], o1, g2, g3, g4⟩

theorem SI.shrink (h : SI n adj m r f bs ev lev) (G : Gr n adj) (hM : Mat adj m) {b v w : Nat} {L K Y T W U : List Nat} (sv : Sd m f bs ev lev b v L Y T) (sw : Sd m f bs ev lev b w K W U)
    (hLK : ∀ x ∈ L, x ∉ K) (hb : ev b = true) (hbb : bs b = b) (hv : ev v = true) (hw : ev w = true) (hvw : adj v w)
    {f' : Mt} {bs' : Nat → Nat} {ev' : Nat → Bool} (hkY : Mk f' m w Y) (hkW : Mk f' m v W) (hf : ∀ o, o ∉ Y → o ∉ W → f' o = f o)
    (h1 : ∀ i, InZ m bs Y i ∨ InZ m bs W i → bs' i = b ∧ ev' i = true) (h0 : ∀ i, ¬ (InZ m bs Y i ∨ InZ m bs W i) → bs' i = bs i ∧ ev' i = ev i) :
    SI n adj m r f' bs' ev' lev ∧ bs' v = b ∧ bs' w = b ∧ (∀ x, ev x = true → ev' x = true) ∧ (∀ x, f x ≠ none → f' x ≠ none) ∧ (∀ x y, bs x = bs y → bs' x = bs' y) := by
  have hYe : ∀ y ∈ Y, ev y = true := fun y hy => (sv.yy y hy).1
  have hWe : ∀ y ∈ W, ev y = true := fun y hy => (sw.yy y hy).1
  have hYm : ∀ y ∈ Y, ev y = true ∧ bs y ∈ Y := fun y hy => ⟨(sv.yy y hy).1, (sv.yy y hy).2.2.2⟩
  have hWm : ∀ y ∈ W, ev y = true ∧ bs y ∈ W := fun y hy => ⟨(sw.yy y hy).1, (sw.yy y hy).2.2.2⟩
  have hd : ∀ y ∈ Y, ∀ x ∈ W, bs y ≠ bs x := fun y hy x hx e => hLK _ (sv.yy y hy).2.2.1 (by rw [e]; exact (sw.yy x hx).2.2.1)
  have zb : ∀ z, InZ m bs Y z ∨ InZ m bs W z → bs z ≠ b := fun z h1 e => by
    have key : ∀ Y, (∀ y ∈ Y, ev y = true) → (∀ y ∈ Y, bs y ≠ b) → ¬ InZ m bs Y z := fun Y hYe hYb h1 => by
      rcases h.inz hYe h1 with ⟨p1, y, hy, g⟩ | ⟨p1, g, _⟩
      · exact hYb y hy (by rw [← g, e])
      · rw [g] at e; rw [e, hb] at p1; cases p1
    rcases h1 with h1 | h1
    · exact key Y hYe (fun y hy => (sv.yy y hy).2.1) h1
    · exact key W hWe (fun y hy => (sw.yy y hy).2.1) h1
  have zm : ∀ z t, InZ m bs Y z ∨ InZ m bs W z → m z = some t → InZ m bs Y t ∨ InZ m bs W t := fun z t hz ht => hz.imp (fun g => h.inz_mate hM hYm g ht) (fun g => h.inz_mate hM hWm g ht)
  have zc : ∀ x y, bs x = bs y → (InZ m bs Y x ∨ InZ m bs W x) → InZ m bs Y y ∨ InZ m bs W y := fun x y e hx => by
    unfold InZ at *
    rw [← e]; exact hx
  -- a vertex that is not drawn in
  have hbn : ¬ (InZ m bs Y b ∨ InZ m bs W b) := fun g => zb b g hbb
  have bs'b : bs' b = b := by rw [(h0 b hbn).1, hbb]
  have ev'b : ev' b = true := by rw [(h0 b hbn).2, hb]
  have evm : ∀ x, ev x = true → ev' x = true := fun x hx => by
    by_cases g : InZ m bs Y x ∨ InZ m bs W x
    · exact (h1 x g).2
    · rw [(h0 x g).2, hx]
  have hT : T ≠ [] := fun e => by
    have := sv.sg.last
    rw [e, List.append_nil] at this
    exact (sv.yy b this).2.1 hbb
  have hU : U ≠ [] := fun e => by
    have := sw.sg.last
    rw [e, List.append_nil] at this
    exact (sw.yy b this).2.1 hbb
  have atY := mk_at hT Y w v hkY sv.sg
  have atW := mk_at hU W v w hkW sw.sg
  have bsc : ∀ x y, bs x = bs y → bs' x = bs' y := fun x y e => by
    by_cases g : InZ m bs Y x ∨ InZ m bs W x
    · rw [(h1 x g).1, (h1 y (zc x y e g)).1]
    · rw [(h0 x g).1, (h0 y (fun g' => g (zc y x e.symm g'))).1, e]
  have bsb : ∀ x, bs x = b → bs' x = b := fun x e => by rw [bsc x b (by rw [e, hbb])]; exact bs'b
  have bsv : bs' v = b := by
    rcases sv.hd with g | g
    · exact bsb v g
    · exact (h1 v (.inl (inz_self g))).1
  have bsw : bs' w = b := by
    rcases sw.hd with g | g
    · exact bsb w g
    · exact (h1 w (.inr (inz_self g))).1
  -- old odd vertices stay, unless they are drawn in
  have odd0 : ∀ o, ev' o = false → ev o = false ∧ ¬ (InZ m bs Y o ∨ InZ m bs W o) := fun o ho => by
    by_cases g : InZ m bs Y o ∨ InZ m bs W o
    · rw [(h1 o g).2] at ho; cases ho
    · rw [(h0 o g).2] at ho; exact ⟨ho, g⟩
  have fodd : ∀ o, ev o = false → f' o = f o := fun o ho => hf o (fun hm => by have := hYe o hm; rw [ho] at this; cases this) (fun hm => by have := hWe o hm; rw [ho] at this; cases this)
  -- a base that is left is an old one
  have base0 : ∀ c, ev' c = true → bs' c = c → c = b ∨ (ev c = true ∧ bs c = c ∧ ¬ (InZ m bs Y c ∨ InZ m bs W c)) := fun c hc hcc => by
    by_cases g : InZ m bs Y c ∨ InZ m bs W c
    · left; rw [(h1 c g).1] at hcc; exact hcc.symm
    · right
      rw [(h0 c g).1] at hcc
      rw [(h0 c g).2] at hc
      exact ⟨hc, hcc, g⟩
  have ffa : ∀ a x, f' a = some x → ev' x = true ∧ adj a x := fun a x hax => by
    have key : ∀ (Y : List Nat) (v w : Nat), (∀ y ∈ Y, ((y = v ∧ f' y = some w) ∨ ∃ y0 ∈ Y, ∃ o, m y0 = some o ∧ f o = some y ∧ f' y = some o)) → ev w = true → adj v w →
        (∀ y ∈ Y, ∀ o, m y = some o → ev' o = true) → a ∈ Y → ev' x = true ∧ adj a x := fun Y v w hat hw hvw hmo haY => by
      rcases hat a haY with ⟨e1, e2⟩ | ⟨y0, g1, o, g2, g3, g4⟩
      · subst e1
        rw [hax] at e2; cases e2
        exact ⟨evm _ hw, hvw⟩
      · rw [hax] at g4; cases g4
        exact ⟨hmo y0 g1 x g2, G.sym _ _ (h.fa x a g3).2⟩
    by_cases haY : a ∈ Y
    · exact key Y v w atY hw hvw (fun y hy o ho => (h1 o (zm y o (.inl (inz_self hy)) ho)).2) haY
    · by_cases haW : a ∈ W
      · exact key W w v atW hv (G.sym _ _ hvw) (fun y hy o ho => (h1 o (zm y o (.inr (inz_self hy)) ho)).2) haW
      · rw [hf a haY haW] at hax
        obtain ⟨g1, g2⟩ := h.fa a x hax
        exact ⟨evm x g1, g2⟩
  have cb : ∀ s, ev s = true → ¬ (InZ m bs Y s ∨ InZ m bs W s) → ∀ o, m s = some o → f' o = f o := fun s _ hs o ho =>
    hf o (fun hm => hs (zm o s (.inl (inz_self hm)) (hM.inv _ _ ho))) (fun hm => hs (zm o s (.inr (inz_self hm)) (hM.inv _ _ ho)))
  have hrn : ¬ (InZ m bs Y r ∨ InZ m bs W r) ∨ r = b := by
    by_cases g : InZ m bs Y r ∨ InZ m bs W r
    · have key : ∀ Y, (∀ y ∈ Y, ev y = true ∧ bs y ∈ Y) → (∀ c ∈ Y, bs c = c → m c ≠ none) → ¬ InZ m bs Y r := fun Y hYm hYc g => by
        rcases h.inz (fun y hy => (hYm y hy).1) g with ⟨_, y, hy, e⟩ | ⟨e, _⟩
        · rw [h.rb] at e
          exact hYc r (by rw [e]; exact (hYm y hy).2) h.rb h.rx
        · rw [h.rE] at e; cases e
      rcases g with g | g
      · exact absurd g (key Y hYm (fun c hc hcc e => by obtain ⟨o, _, _, k, _⟩ := sv.cont c hc hcc; rw [e] at k; cases k))
      · exact absurd g (key W hWm (fun c hc hcc e => by obtain ⟨o, _, _, k, _⟩ := sw.cont c hc hcc; rw [e] at k; cases k))
    · exact .inl g
  refine ⟨?_, bsv, bsw, evm, ?_, bsc⟩
  · constructor
    · exact evm r h.rE
    · exact h.rx
    · rcases hrn with g | rfl
      · rw [(h0 r g).1, h.rb]
      · exact bs'b
    · intro x hx
      by_cases g : InZ m bs Y x ∨ InZ m bs W x
      · cases hxe : ev x with
        | true => exact h.lt x hxe
        | false =>
          have key : ∀ Y, (∀ y ∈ Y, ev y = true) → InZ m bs Y x → x < n := fun Y hYe g => by
            rcases h.inz hYe g with ⟨q, _⟩ | ⟨_, _, y, hy, e, _⟩
            · rw [hxe] at q; cases q
            · exact (G.lt _ _ (hM.adj _ _ e)).2
          exact g.elim (key Y hYe) (key W hWe)
      · rw [(h0 x g).2] at hx; exact h.lt x hx
    · intro x hx
      by_cases g : InZ m bs Y x ∨ InZ m bs W x
      · rw [(h1 x g).1]; exact ⟨ev'b, bs'b⟩
      · rw [(h0 x g).2] at hx
        obtain ⟨a1, a2⟩ := h.bev x hx
        rw [(h0 x g).1]
        refine ⟨evm _ a1, ?_⟩
        have g' : ¬ (InZ m bs Y (bs x) ∨ InZ m bs W (bs x)) := fun g' => g (zc _ _ a2 g')
        rw [(h0 _ g').1, a2]
    · intro x hx
      obtain ⟨a1, a2⟩ := odd0 x hx
      rw [(h0 x a2).1]; exact h.bod x a1
    · intro c hc hcc
      rcases base0 c hc hcc with rfl | ⟨a1, a2, a3⟩
      · rw [hf c (fun hm => hbn (.inl (inz_self hm))) (fun hm => hbn (.inr (inz_self hm)))]; exact h.bn c hb hbb
      · rw [hf c (fun hm => a3 (.inl (inz_self hm))) (fun hm => a3 (.inr (inz_self hm)))]; exact h.bn c a1 a2
    · exact ffa
    · intro o ho hof
      obtain ⟨a1, a2⟩ := odd0 o ho
      rw [fodd o a1] at hof
      obtain ⟨c, g1, g2, g3⟩ := h.fo o a1 hof
      refine ⟨c, g1, evm c g2, ?_⟩
      have g' : ¬ (InZ m bs Y c ∨ InZ m bs W c) := fun g' => a2 (zm c o g' (hM.inv _ _ g1))
      rw [(h0 c g').1, g3]
    · intro x hx hxb
      by_cases g : InZ m bs Y x ∨ InZ m bs W x
      · have hxm : ∃ t, m x = some t := by
          have key : ∀ Y, (∀ y ∈ Y, ev y = true ∧ bs y ∈ Y) → (∀ c ∈ Y, bs c = c → m c ≠ none) → InZ m bs Y x → ∃ t, m x = some t := fun Y hYm hYc g => by
            rcases h.inz (fun y hy => (hYm y hy).1) g with ⟨q, y, hy, e⟩ | ⟨_, _, y, hy, e, _⟩
            · by_cases e2 : bs x = x
              · have : x ∈ Y := by rw [← e2, e]; exact (hYm y hy).2
                exact Option.ne_none_iff_exists'.1 (hYc x this e2)
              · obtain ⟨t, k, _⟩ := h.em x q (fun e => e2 e.symm)
                exact ⟨t, k⟩
            · exact ⟨y, hM.inv _ _ e⟩
          rcases g with g | g
          · exact key Y hYm (fun c hc hcc e => by obtain ⟨o, _, _, k, _⟩ := sv.cont c hc hcc; rw [e] at k; cases k) g
          · exact key W hWm (fun c hc hcc e => by obtain ⟨o, _, _, k, _⟩ := sw.cont c hc hcc; rw [e] at k; cases k) g
        obtain ⟨t, ht⟩ := hxm
        have gt := zm x t g ht
        exact ⟨t, ht, (h1 t gt).2, by rw [(h1 t gt).1, (h1 x g).1]⟩
      · rw [(h0 x g).2] at hx
        rw [(h0 x g).1] at hxb
        obtain ⟨t, a1, a2, a3⟩ := h.em x hx hxb
        exact ⟨t, a1, evm t a2, bsc t x a3⟩
    · intro x hx
      by_cases g : InZ m bs Y x ∨ InZ m bs W x
      · rw [(h1 x g).1]
        have fin : ∀ l : List Nat, (∀ y ∈ l, InZ m bs Y y ∨ InZ m bs W y ∨ (ev y = true ∧ bs y = b)) → ∀ y ∈ l, ev' y = true ∧ bs' y = b := fun l hl y hy => by
          rcases hl y hy with a | a | ⟨a1, a2⟩
          · exact ⟨(h1 y (.inl a)).2, (h1 y (.inl a)).1⟩
          · exact ⟨(h1 y (.inr a)).2, (h1 y (.inr a)).1⟩
          · exact ⟨evm y a1, bsb y a2⟩
        rcases g with g | g
        · obtain ⟨l, a1, a2, a3⟩ := h.seg_side hM sv sw hd hkY hf hb hbb g
          exact ⟨l, a1, a2, fin l a3⟩
        · obtain ⟨l, a1, a2, a3⟩ := h.seg_side hM sw sv (fun y hy x hx e => hd x hx y hy e.symm) hkW (fun o p q => hf o q p) hb hbb g
          exact ⟨l, a1, a2, fin l (fun y hy => (a3 y hy).elim (fun a => .inr (.inl a)) (fun a => a.elim .inl (fun a => .inr (.inr a))))⟩
      · rw [(h0 x g).2] at hx
        rw [(h0 x g).1]
        obtain ⟨l, a1, a2, a3⟩ := h.seg x hx
        refine ⟨l, a1.congr fun s hs o ho _ => cb s (a3 s hs).1 (fun g' => g (zc s x (a3 s hs).2 g')) o ho, a2, fun y hy => ⟨evm y (a3 y hy).1, ?_⟩⟩
        rw [(h0 y (fun g' => g (zc y x (a3 y hy).2 g'))).1]; exact (a3 y hy).2
    · intro c hc hcc hcr
      have key : ∀ c, ev c = true → bs c = c → ¬ (InZ m bs Y c ∨ InZ m bs W c) → c ≠ r → ∃ o x, m c = some o ∧ ev' o = false ∧ f' o = some x ∧ lev (bs' x) < lev c := fun c a1 a2 a3 a4 => by
        obtain ⟨o, x, g1, g2, g3, g4⟩ := h.up c a1 a2 a4
        have go : ¬ (InZ m bs Y o ∨ InZ m bs W o) := fun g' => a3 (zm o c g' (hM.inv _ _ g1))
        refine ⟨o, x, g1, by rw [(h0 o go).2]; exact g2, by rw [fodd o g2]; exact g3, ?_⟩
        by_cases g : InZ m bs Y x ∨ InZ m bs W x
        · rw [(h1 x g).1]
          have hxe := h.ev_of g3
          have lvY : ∀ Y, (∀ y ∈ Y, ev y = true) → (∀ y ∈ Y, lev b < lev (bs y)) → InZ m bs Y x → lev b < lev (bs x) := fun Y hYe hl g => by
            rcases h.inz hYe g with ⟨_, y, hy, e⟩ | ⟨e, _⟩
            · rw [e]; exact hl y hy
            · rw [hxe] at e; cases e
          have : lev b < lev (bs x) := g.elim (lvY Y hYe (fun y hy => (sv.lv y hy).2)) (lvY W hWe (fun y hy => (sw.lv y hy).2))
          omega
        · rw [(h0 x g).1]; exact g4
      rcases base0 c hc hcc with rfl | ⟨a1, a2, a3⟩
      · exact key c hb hbb hbn hcr
      · exact key c a1 a2 a3 hcr
  · intro x hx
    by_cases hxY : x ∈ Y
    · rcases atY x hxY with ⟨_, e⟩ | ⟨_, _, o, _, _, e⟩ <;> rw [e] <;> simp
    · by_cases hxW : x ∈ W
      · rcases atW x hxW with ⟨_, e⟩ | ⟨_, _, o, _, _, e⟩ <;> rw [e] <;> simp
      · rw [hf x hxY hxW]; exact hx

end sh
end Go.Proofs.Ytcpefolhohakmaa
