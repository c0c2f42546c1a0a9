/- Plain: the base where two ways meet, the queue of a search, and what a whole search proves. -/
import Derived.Test.YtcpefolhohakmaaM4
namespace Go.Proofs.Ytcpefolhohakmaa

/-- The bases from c up to the root. -/
inductive Bp (m f : Mt) (bs : Nat → Nat) (r : Nat) : Nat → List Nat → Prop
  | root : Bp m f bs r r [r]
  | up (c o x : Nat) (L : List Nat) (hm : m c = some o) (hf : f o = some x) (h : Bp m f bs r (bs x) L) : Bp m f bs r c (c :: L)
theorem Bp.head {m f : Mt} {bs : Nat → Nat} {r c : Nat} {L : List Nat} (h : Bp m f bs r c L) : ∃ L', L = c :: L' := by cases h <;> exact ⟨_, rfl⟩
theorem Bp.last {m f : Mt} {bs : Nat → Nat} {r c : Nat} {L : List Nat} (h : Bp m f bs r c L) : r ∈ L := by
  induction h with
  | root => simp
  | up c o x L _ _ _ ih => simp [ih]
theorem Bp.anc {m f : Mt} {bs : Nat → Nat} {r b : Nat} {L2 : List Nat} : ∀ (L1 : List Nat) (c : Nat), Bp m f bs r c (L1 ++ b :: L2) → Anc m f bs b c L1 := by
  intro L1
  induction L1 with
  | nil =>
    intro c h
    obtain ⟨L', e⟩ := h.head
    obtain ⟨rfl, -⟩ := List.cons.inj e
    exact .here
  | cons a L1 ih =>
    intro c h
    generalize hl : a :: L1 ++ b :: L2 = L at h
    cases h with
    | root => exact absurd (List.cons.inj hl).2 (by simp)
    | up _ o x L hm hf h' =>
      obtain ⟨rfl, e⟩ := List.cons.inj hl
      have e2 : L1 ++ b :: L2 = L := e
      subst e2
      exact .up a o x L1 hm hf (ih _ h')

/-- What mark makes of 'from' and of the set of bases. -/
def markF (m : Mt) (f : Mt) (c : Nat) : List Nat → Mt
  | [] => f
  | y :: Y => markF m (upd f y (some c)) ((m y).getD 0) Y
def setB (i : Nat → Bool) (k : Nat) : Nat → Bool := fun j => if j = k then true else i j
def markI (m : Mt) (bs : Nat → Nat) (i : Nat → Bool) : List Nat → (Nat → Bool)
  | [] => i
  | y :: Y => markI m bs (setB (setB i (bs y)) (bs ((m y).getD 0))) Y
theorem markF_out (m : Mt) : ∀ (Y : List Nat) (f : Mt) (c o : Nat), o ∉ Y → markF m f c Y o = f o := by
  intro Y
  induction Y with
  | nil => intro f c o _; rfl
  | cons y Y ih =>
    intro f c o ho
    rw [markF, ih _ _ _ (fun h => ho (by simp [h])), upd_ne _ _ (fun h => ho (by simp [h]))]
theorem markF_mk (m : Mt) : ∀ (Y : List Nat) (f : Mt) (c : Nat), Y.Nodup → Mk (markF m f c Y) m c Y := by
  intro Y
  induction Y with
  | nil => intro f c _; trivial
  | cons y Y ih =>
    intro f c hn
    obtain ⟨n1, n2⟩ := List.nodup_cons.1 hn
    refine ⟨?_, fun o ho => ?_⟩
    · rw [markF, markF_out m _ _ _ _ n1, upd_same]
    · rw [markF, ho]; exact ih _ _ n2
theorem Mk.congr {f f' m : Mt} : ∀ (Y : List Nat) (c : Nat), Mk f m c Y → (∀ y ∈ Y, f' y = f y) → Mk f' m c Y := by
  intro Y
  induction Y with
  | nil => intro c _ _; trivial
  | cons y Y ih =>
    intro c h e
    exact ⟨by rw [e y (by simp)]; exact h.1, fun o ho => ih o (h.2 o ho) (fun x hx => e x (by simp [hx]))⟩
theorem markI_iff (m : Mt) (bs : Nat → Nat) : ∀ (Y : List Nat) (i : Nat → Bool), (∀ y ∈ Y, m y ≠ none) → ∀ z, markI m bs i Y z = true ↔ i z = true ∨ ∃ y ∈ Y, z = bs y ∨ ∃ o, m y = some o ∧ z = bs o := by
  intro Y
  induction Y with
  | nil => intro i _ z; simp [markI]
  | cons y Y ih =>
    intro i hY z
    rw [markI, ih _ (fun x hx => hY x (by simp [hx]))]
    obtain ⟨o, ho⟩ := Option.ne_none_iff_exists'.1 (hY y (by simp))
    rw [ho]
    have e : setB (setB i (bs y)) (bs ((some o).getD 0)) z = true ↔ i z = true ∨ z = bs y ∨ z = bs o := by
      unfold setB
      by_cases h1 : z = bs o
      · simp [h1]
      · by_cases h2 : z = bs y
        · simp [h2]
        · simp [h1, h2]
    rw [e]
    constructor
    · rintro ((h | h | h) | ⟨x, hx, h⟩)
      · exact .inl h
      · exact .inr ⟨y, by simp, .inl h⟩
      · exact .inr ⟨y, by simp, .inr ⟨o, ho, h⟩⟩
      · exact .inr ⟨x, by simp [hx], h⟩
    · rintro (h | ⟨x, hx, h⟩)
      · exact .inl (.inl h)
      · rcases List.mem_cons.1 hx with rfl | hx
        · rcases h with h | ⟨o', ho', h⟩
          · exact .inl (.inr (.inl h))
          · rw [ho] at ho'; cases ho'; exact .inl (.inr (.inr h))
        · exact .inr ⟨x, hx, h⟩

section q
variable {n : Nat} {adj : Nat → Nat → Prop} {m : Mt} {r : Nat} {f : Mt} {bs : Nat → Nat} {ev : Nat → Bool} {lev : Nat → Nat}

theorem SI.bp (h : SI n adj m r f bs ev lev) : ∀ (k c : Nat), lev c ≤ k → ev c = true → bs c = c → ∃ L, Bp m f bs r c L ∧ ∀ x ∈ L, ev x = true ∧ bs x = x := by
  intro k
  induction k with
  | zero =>
    intro c hk hc hb
    by_cases e : c = r
    · subst e; exact ⟨[c], .root, fun x hx => by rw [List.mem_singleton.1 hx]; exact ⟨hc, hb⟩⟩
    · obtain ⟨o, x, _, _, _, g⟩ := h.up c hc hb e; omega
  | succ k ih =>
    intro c hk hc hb
    by_cases e : c = r
    · subst e; exact ⟨[c], .root, fun x hx => by rw [List.mem_singleton.1 hx]; exact ⟨hc, hb⟩⟩
    · obtain ⟨o, x, g1, g2, g3, g4⟩ := h.up c hc hb e
      obtain ⟨a1, a2⟩ := h.bev x (h.ev_of g3)
      obtain ⟨L, i1, i2⟩ := ih (bs x) (by omega) a1 a2
      refine ⟨c :: L, .up c o x L g1 g3 i1, fun y hy => ?_⟩
      rcases List.mem_cons.1 hy with rfl | hy
      · exact ⟨hc, hb⟩
      · exact i2 y hy
/-- The two sides of a blossom. -/
theorem SI.sides (h : SI n adj m r f bs ev lev) (hM : Mat adj m) {v w b : Nat} (hv : ev v = true) (hw : ev w = true) {L K1 K2 : List Nat} (hL : Bp m f bs r (bs v) L) (hK : Bp m f bs r (bs w) (K1 ++ b :: K2)) (hb : b ∈ L) (hd : ∀ x ∈ K1, x ∉ L) :
    ∃ L1 Y T W U, Sd m f bs ev lev b v L1 Y T ∧ Sd m f bs ev lev b w K1 W U ∧ (∀ x ∈ L1, x ∉ K1) ∧ ev b = true ∧ bs b = b := by
  obtain ⟨L1, s, L2, e, rfl, hp⟩ := first_split (P := fun x => x = b) L ⟨b, hb, rfl⟩
  subst e
  have aL := Bp.anc L1 _ hL
  have aK := Bp.anc K1 _ hK
  obtain ⟨a1, a2⟩ := h.bev v hv
  obtain ⟨_, _, b1, b2⟩ := h.anc_lev aL a1 a2
  obtain ⟨Y, T, s1⟩ := h.side hM aL (fun hm => hp _ hm rfl) v hv rfl
  obtain ⟨W, U, s2⟩ := h.side hM aK (fun hm => hd _ hm hb) w hw rfl
  exact ⟨L1, Y, T, W, U, s1, s2, fun x hx hk => hd x hk (by simp [hx]), b1, b2⟩
theorem SI.mates (h : SI n adj m r f bs ev lev) {b v : Nat} {L Y T : List Nat} (s : Sd m f bs ev lev b v L Y T) : ∀ y ∈ Y, m y ≠ none := by
  intro y hy e
  by_cases g : bs y = y
  · obtain ⟨o, _, _, k1, _⟩ := s.cont y hy g
    rw [e] at k1; cases k1
  · obtain ⟨x, k1, _⟩ := h.em y (s.yy y hy).1 (fun e => g e.symm)
    rw [e] at k1; cases k1
theorem SI.inz_lt (h : SI n adj m r f bs ev lev) (G : Gr n adj) (hM : Mat adj m) {Y : List Nat} (hY : ∀ y ∈ Y, ev y = true) {z : Nat} (hz : InZ m bs Y z) : z < n := by
  rcases h.inz hY hz with ⟨q, _⟩ | ⟨_, _, y, hy, e, _⟩
  · exact h.lt z q
  · exact (G.lt _ _ (hM.adj _ _ e)).2

/-- What the search has done with the vertices of P; q is the queue. -/
structure QO (adj : Nat → Nat → Prop) (f : Mt) (bs : Nat → Nat) (ev : Nat → Bool) (P : Nat → Prop) (q : List Nat) : Prop where
  sub : ∀ p, P p → ev p = true
  qe : ∀ p ∈ q, ev p = true
  eq : ∀ u p, P u → P p → adj u p → bs p = bs u
  od : ∀ u p, P u → adj u p → ev p = false → f p ≠ none
  all : ∀ p, ev p = true → P p ∨ p ∈ q
/-- The same while u is under way and the neighbours in D are done. -/
structure QU (adj : Nat → Nat → Prop) (f : Mt) (bs : Nat → Nat) (ev : Nat → Bool) (P : Nat → Prop) (q : List Nat) (u : Nat) (D : List Nat) : Prop where
  sub : ∀ p, P p → ev p = true
  qe : ∀ p ∈ q, ev p = true
  ue : ev u = true
  eq : ∀ u p, P u → P p → adj u p → bs p = bs u
  od : ∀ u p, P u → adj u p → ev p = false → f p ≠ none
  all : ∀ p, ev p = true → P p ∨ p ∈ q ∨ p = u
  dn : ∀ p ∈ D, (P p → bs p = bs u) ∧ (ev p = false → f p ≠ none)
theorem QO.start (r : Nat) : QO adj (fun _ => none) (fun i => i) (fun i => decide (i = r)) (fun _ => False) [r] :=
  ⟨fun _ h => h.elim, fun p hp => by simpa using hp, fun _ _ h => h.elim, fun _ _ h => h.elim, fun p hp => .inr (by simpa using hp)⟩
theorem QO.pop {P : Nat → Prop} {q : List Nat} {u : Nat} (h : QO adj f bs ev P (u :: q)) : QU adj f bs ev P q u [] :=
  ⟨h.sub, fun p hp => h.qe p (by simp [hp]), h.qe u (by simp), h.eq, h.od, fun p hp => (h.all p hp).imp id (fun g => (List.mem_cons.1 g).symm), fun p hp => by cases hp⟩
theorem QU.close {P : Nat → Prop} {q : List Nat} {u : Nat} {D : List Nat} (h : QU adj f bs ev P q u D) (G : Gr n adj) (hD : ∀ p, adj u p → p ∈ D) : QO adj f bs ev (fun x => P x ∨ x = u) q where
  sub := fun p hp => hp.elim (h.sub p) (fun e => by rw [e]; exact h.ue)
  qe := h.qe
  eq := by
    rintro x p (hx | rfl) (hp | rfl) hxp
    · exact h.eq x p hx hp hxp
    · exact ((h.dn x (hD x (G.sym _ _ hxp))).1 hx).symm
    · exact (h.dn p (hD p hxp)).1 hp
    · exact absurd hxp (G.irr _)
  od := by
    rintro x p (hx | rfl) hxp he
    · exact h.od x p hx hxp he
    · exact (h.dn p (hD p hxp)).2 he
  all := fun p hp => by
    rcases h.all p hp with g | g | g
    · exact .inl (.inl g)
    · exact .inr g
    · exact .inl (.inr g)
theorem QU.ext {P : Nat → Prop} {q q' : List Nat} {u : Nat} {D : List Nat} (h : QU adj f bs ev P q u D) {f' : Mt} {bs' : Nat → Nat} {ev' : Nat → Bool}
    (he : ∀ x, ev x = true → ev' x = true) (hf : ∀ x, f x ≠ none → f' x ≠ none) (hb : ∀ x y, bs x = bs y → bs' x = bs' y) (hq : ∀ x ∈ q, x ∈ q') (hq' : ∀ x ∈ q', ev' x = true) (hn : ∀ x, ev' x = true → ev x = true ∨ x ∈ q')
    {w : Nat} (hw : (P w → bs' w = bs' u) ∧ (ev' w = false → f' w ≠ none)) : QU adj f' bs' ev' P q' u (D ++ [w]) where
  sub := fun p hp => he p (h.sub p hp)
  qe := hq'
  ue := he u h.ue
  eq := fun x p hx hp hxp => hb p x (h.eq x p hx hp hxp)
  od := fun x p hx hxp hp => hf p (h.od x p hx hxp (by
    cases e : ev p with
    | false => rfl
    | true => rw [he p e] at hp; cases hp))
  all := fun p hp => by
    rcases hn p hp with g | g
    · rcases h.all p g with k | k | k
      · exact .inl k
      · exact .inr (.inl (hq p k))
      · exact .inr (.inr k)
    · exact .inr (.inl g)
  dn := fun p hp => by
    rcases List.mem_append.1 hp with hp | hp
    · obtain ⟨g1, g2⟩ := h.dn p hp
      refine ⟨fun k => hb _ _ (g1 k), fun k => hf p (g2 ?_)⟩
      cases e : ev p with
      | false => rfl
      | true => rw [he p e] at k; cases k
    · rw [List.mem_singleton.1 hp]; exact hw
theorem QU.same {P : Nat → Prop} {q : List Nat} {u : Nat} {D : List Nat} (h : QU adj f bs ev P q u D) {w : Nat} (hw : (P w → bs w = bs u) ∧ (ev w = false → f w ≠ none)) : QU adj f bs ev P q u (D ++ [w]) :=
  h.ext (fun _ k => k) (fun _ k => k) (fun _ _ k => k) (fun _ k => k) h.qe (fun _ k => .inl k) hw
theorem QU.base {P : Nat → Prop} {q : List Nat} {u : Nat} {D : List Nat} (h : QU adj f bs ev P q u D) (hS : SI n adj m r f bs ev lev) {w : Nat} (e : bs u = bs w) : QU adj f bs ev P q u (D ++ [w]) :=
  h.same ⟨fun _ => e.symm, fun k => by
    have := hS.bod w k
    rw [this] at e
    have := (hS.bev u h.ue).1
    rw [e, k] at this; cases this⟩
theorem QU.mate {P : Nat → Prop} {q : List Nat} {u : Nat} {D : List Nat} (h : QU adj f bs ev P q u D) (hS : SI n adj m r f bs ev lev) {w : Nat} (e : m u = some w) : QU adj f bs ev P q u (D ++ [w]) := by
  rcases hS.mate_ev h.ue e with ⟨g1, g2, _⟩ | ⟨g1, _, _, _, g2⟩
  · exact h.same ⟨fun _ => g2, fun k => by rw [g1] at k; cases k⟩
  · exact h.same ⟨fun k => (by have := h.sub w k; rw [g1] at this; cases this), fun _ => g2⟩
theorem QU.odd {P : Nat → Prop} {q : List Nat} {u : Nat} {D : List Nat} (h : QU adj f bs ev P q u D) {w : Nat} (e : ev w = false) (g : f w ≠ none) : QU adj f bs ev P q u (D ++ [w]) :=
  h.same ⟨fun k => (by have := h.sub w k; rw [e] at this; cases this), fun _ => g⟩
theorem QU.grow {P : Nat → Prop} {q : List Nat} {u : Nat} {D : List Nat} (h : QU adj f bs ev P q u D) {w x : Nat} (e : ev w = false) (hwx : w ≠ x) : QU adj (upd f w (some u)) bs (fun i => if i = x then true else ev i) P (q ++ [x]) u (D ++ [w]) := by
  refine h.ext (fun y k => ?_) (fun y k => ?_) (fun _ _ k => k) (fun y k => by simp [k]) (fun y k => ?_) (fun y k => ?_) ⟨fun k => ?_, fun _ => ?_⟩
  · show (if y = x then true else ev y) = true
    split
    · rfl
    · exact k
  · by_cases g : y = w
    · subst g; rw [upd_same]; simp
    · rw [upd_ne _ _ g]; exact k
  · show (if y = x then true else ev y) = true
    rcases List.mem_append.1 k with k | k
    · rw [h.qe y k]; simp
    · rw [if_pos (List.mem_singleton.1 k)]
  · by_cases g : y = x
    · exact .inr (by simp [g])
    · have k' : (if y = x then true else ev y) = true := k
      rw [if_neg g] at k'; exact .inl k'
  · have := h.sub w k; rw [e] at this; cases this
  · rw [upd_same]; simp
/-- A search that ends is a certificate. -/
theorem QO.cert {P : Nat → Prop} (h : QO adj f bs ev P []) (hS : SI n adj m r f bs ev lev) (G : Gr n adj) (hM : Mat adj m) : EvM n adj m r := by
  have hP : ∀ p, ev p = true → P p := fun p hp => (h.all p hp).elim id (fun g => by cases g)
  refine ⟨r, fun v => ev v = true, fun o => ev o = false ∧ f o ≠ none, bs, ?_, ?_, hS.rE⟩
  · constructor
    · exact hS.rE
    · exact hS.rx
    · intro v hv ho; rw [hv] at ho; cases ho.1
    · intro v w hv hvw
      cases hw : ev w with
      | true => exact .inr ⟨rfl, h.eq v w (hP v hv) (hP w hw) hvw⟩
      | false => exact .inl ⟨rfl, h.od v w (hP v hv) hvw hw⟩
    · intro o ho; exact hS.fo o ho.1 ho.2
    · intro v hv hvb; exact hS.em v hv hvb
    · intro v hv; exact hS.bev v hv
    · intro b hb hbb
      by_cases e : b = r
      · exact .inl e
      · obtain ⟨o, x, g1, g2, g3, _⟩ := hS.up b hb hbb e
        exact .inr ⟨o, g1, g2, by rw [g3]; simp⟩
    · intro v hv
      obtain ⟨l, g1, g2, g3⟩ := hS.way hM _ v (Nat.le_refl _) hv
      obtain ⟨l', rfl⟩ := g1.head
      exact ⟨l', hS.alt g1, g2, fun x hx => (g3 x hx).1⟩
  · rintro x (hx | ⟨_, hx⟩)
    · exact hS.lt x hx
    · obtain ⟨y, hy⟩ := Option.ne_none_iff_exists'.1 hx
      exact (G.lt _ _ (hS.fa x y hy).2).1
/-- Certificates outlive a way that makes the matching greater. -/
theorem evM_keep (G : Gr n adj) (hM : Mat adj m) {w s : Nat} {l : List Nat} (hw : m w = none) (hws : adj w s) (ha : Alt adj m (s :: l)) (hs : Sim m (s :: l)) (hwl : w ∉ s :: l) {x : Nat} (h : EvM n adj m x) : EvM n adj (augP m w (s :: l)) x := by
  obtain ⟨r', E, O, bs', h1, h2, h3⟩ := h
  obtain ⟨_, _, g, _⟩ := augP_ok G (s :: l) w m m hM hw (fun _ _ => rfl) s l rfl hws ha hs hwl
  obtain ⟨f1, f2, f3⟩ := h1.free hM G.sym hw hws ha hs hwl
  exact ⟨r', E, O, bs', h1.congr fun v hv => g v (fun e => f1 (by rw [← e]; exact hv)) (fun hm => f2 v hm hv) (fun t ht e => f3 t ht v e hv), h2, h3⟩

end q
end Go.Proofs.Ytcpefolhohakmaa
