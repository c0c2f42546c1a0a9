/- The law TopLedger plainly: what the calls on a journal make of a disk, and what a crash leaves. -/
import Derived.Test.YtcpefolhohakmaaW3
namespace Go.Proofs.Ytcpefolhohakmaa

def RdyD (d : Dk) (x y : Bts) (G : Nat) : Prop := Ready (d.b 0) (d.s 0) (d.b 1) (d.s 1) x y G
/-- The state of a disk and a journal between two calls: the journal holds the posts ps. -/
structure StD (d : Dk) (m g k : Nat) (s : Bts) (rs : List Bts) (ps : List (List Tr)) (G : Nat) : Prop where
  on : d.off = false
  hm : m < 2
  run : Run (d.b m) (d.s m) (d.b (1 - m)) (d.s (1 - m)) g k s rs
  tx : txt s rs = encB ps
  g : g ≤ G
theorem RdyD.of {d d' : Dk} {x y : Bts} {G : Nat} (h : RdyD d x y G) (hb : d'.b = d.b) (hs : d'.s = d.s) : RdyD d' x y G := by unfold RdyD; rw [hb, hs]; exact h
theorem RdyD.mono {d : Dk} {x y : Bts} {G G' : Nat} (h : RdyD d x y G) (hg : G ≤ G') : RdyD d x y G' := fun m0 m1 h0 h1 => (h m0 m1 h0 h1).imp (·.mono hg) (·.mono hg)
/-- The case of the journal's area. -/
theorem rdy_mk {d : Dk} {m : Nat} (hm : m < 2) {x y : Bts} {G : Nat} (h0 : m = 0 → Ready (d.b m) (d.s m) (d.b (1 - m)) (d.s (1 - m)) x y G) (h1 : m = 1 → Ready (d.b (1 - m)) (d.s (1 - m)) (d.b m) (d.s m) x y G) : RdyD d x y G := by
  obtain rfl | rfl : m = 0 ∨ m = 1 := by omega
  · exact h0 rfl
  · exact h1 rfl
theorem StD.ready {d : Dk} {m g k : Nat} {s : Bts} {rs : List Bts} {ps : List (List Tr)} {G : Nat} (h : StD d m g k s rs ps G) (y : Bts) : RdyD d (encB ps) y G := by
  rw [← h.tx]
  exact rdy_mk h.hm (fun _ => h.run.ready0 h.g y) (fun _ => h.run.ready1 h.g y)
theorem StD.of {d d' : Dk} {m g k : Nat} {s : Bts} {rs : List Bts} {ps : List (List Tr)} {G : Nat} (h : StD d m g k s rs ps G) (hb : d'.b = d.b) (hs : d'.s = d.s) (ho : d'.off = false) : StD d' m g k s rs ps G :=
  ⟨ho, h.hm, by rw [hb, hs]; exact h.run, h.tx, h.g⟩
theorem spB_true {d : Dk} (h : spB d = true) : (spD d).off = false ∧ (spD d).b = d.b ∧ (spD d).s = d.s ∧ (spD d).most = d.most := by
  unfold spB at h
  unfold spD
  cases ho : d.off with
  | true => rw [ho] at h; exact absurd h (by simp)
  | false =>
    rw [ho] at h
    rw [if_neg (by simp)] at h ⊢
    cases hf : d.fused with
    | false => exact ⟨ho, rfl, rfl, rfl⟩
    | true =>
      rw [hf] at h
      rw [if_pos rfl] at h ⊢
      have h0 : d.left ≠ 0 := of_decide_eq_true h
      rw [if_neg h0]
      exact ⟨rfl, rfl, rfl, rfl⟩
theorem pwE_zero {b : Bool} : pwE b = 0 ↔ b = true := by cases b <;> simp [pwE]
theorem pwE_ne {b : Bool} : pwE b ≠ 0 ↔ b = false := by cases b <;> simp [pwE]
theorem updN_other {α : Type} (f : Nat → α) {n : Nat} (x : α) (hn : n < 2) : updN f n x (1 - n) = f (1 - n) := updN_ne f x (by omega)

theorem add_plain {d : Dk} {m g k : Nat} {s : Bts} {rs : List Bts} {ps : List (List Tr)} {G : Nat} (h : StD d m g k s rs ps G) (l : List Tr) (hl : l.length ≤ 16) :
    (adE m (encP l) d = 0 → StD (adD m (encP l) d) m g k s (rs ++ [encP l]) (ps ++ [l]) G) ∧ (adE m (encP l) d ≠ 0 → RdyD (adD m (encP l) d) (encB ps) (encB (ps ++ [l])) G) := by
  have hp : PayOk (encP l) := by unfold PayOk; rw [encP_length]; omega
  have htx : txt s (rs ++ [encP l]) = encB (ps ++ [l]) := by rw [txt_snoc, h.tx, encB_snoc]
  have hy : encB (ps ++ [l]) = txt s rs ++ encP l := by rw [← htx, txt_snoc]
  unfold adE adD
  by_cases hf : fitD d m (frm (encP l)) = true
  · have ea : appE m (frm (encP l)) d = pwE (spB d) := by unfold appE; rw [if_pos hf]
    have ed : appD m (frm (encP l)) d = if spB d then { spD d with b := updN (spD d).b m ((spD d).b m ++ frm (encP l)) } else spD d := by unfold appD; rw [if_pos hf]
    rw [ea, ed]
    cases hs : spB d with
    | false =>
      have : pwE false ≠ 0 := by decide
      rw [if_neg this, if_neg this]
      obtain ⟨e1, e2, -⟩ := spD_b d
      exact ⟨fun h => absurd h this, fun _ => by rw [if_neg (by simp)]; exact (h.ready _).of e1 e2⟩
    | true =>
      have h0 : pwE true = 0 := rfl
      rw [if_pos h0, if_pos h0, if_pos rfl]
      obtain ⟨e0, e1, e2, e3⟩ := spB_true hs
      rw [e1]
      generalize hd1 : ({ spD d with b := updN d.b m (d.b m ++ frm (encP l)) } : Dk) = d1
      have b1 : d1.b = updN d.b m (d.b m ++ frm (encP l)) := by rw [← hd1]
      have s1 : d1.s = d.s := by rw [← hd1]; exact e2
      cases hs1 : spB d1 with
      | false =>
        refine ⟨fun h => absurd h (by decide), fun _ => ?_⟩
        have hsy : syncD m d1 = spD d1 := by unfold syncD; rw [hs1]; rfl
        rw [hsy]
        obtain ⟨f1, f2, -⟩ := spD_b d1
        rw [← h.tx, hy]
        refine RdyD.of (d := d1) (rdy_mk h.hm (fun _ => ?_) (fun _ => ?_)) f1 f2
        · rw [b1, s1, updN_same, updN_other _ _ h.hm]; exact h.run.add_ready0 h.g hp
        · rw [b1, s1, updN_same, updN_other _ _ h.hm]; exact h.run.add_ready1 h.g hp
      | true =>
        refine ⟨fun _ => ?_, fun h => absurd rfl h⟩
        obtain ⟨f0, f1, f2, f3⟩ := spB_true hs1
        have hsy : syncD m d1 = { spD d1 with s := updN (spD d1).s m ((spD d1).b m).length } := by unfold syncD; rw [hs1, if_pos rfl]
        rw [hsy]
        refine ⟨f0, h.hm, ?_, htx, h.g⟩
        show Run ((spD d1).b m) (updN (spD d1).s m ((spD d1).b m).length m) ((spD d1).b (1 - m)) (updN (spD d1).s m ((spD d1).b m).length (1 - m)) g k s (rs ++ [encP l])
        rw [updN_same, updN_other _ _ h.hm, f1, f2, b1, s1, updN_same, updN_other _ _ h.hm]
        exact h.run.added hp
  · have ea : appE m (frm (encP l)) d = 13 := by unfold appE; rw [if_neg hf]
    have ed : appD m (frm (encP l)) d = d := by unfold appD; rw [if_neg hf]
    rw [ea, ed, if_neg (by decide), if_neg (by decide)]
    exact ⟨fun h => absurd h (by decide), fun _ => h.ready _⟩

theorem rew_plain {d : Dk} {m g k : Nat} {s : Bts} {rs : List Bts} {ps : List (List Tr)} {G : Nat} (h : StD d m g k s rs ps G) (hg : g + 1 ≤ G) (hx : PayOk (encB ps)) :
    (wrE (1 - m) (rwF g (encB ps)) d = 0 → StD (wrD (1 - m) (rwF g (encB ps)) d) (1 - m) (g + 1) 0 (encB ps) [] ps G) ∧
    (wrE (1 - m) (rwF g (encB ps)) d ≠ 0 → wrE (1 - m) (rwF g (encB ps)) d ≠ 14 → StD (wrD (1 - m) (rwF g (encB ps)) d) m g k s rs ps G) ∧
    (wrE (1 - m) (rwF g (encB ps)) d = 14 → RdyD (wrD (1 - m) (rwF g (encB ps)) d) (encB ps) (encB ps) G) := by
  have hm2 : 1 - m < 2 := by omega
  have hmm : 1 - (1 - m) = m := by have := h.hm; omega
  have htx : PayOk (txt s rs) := by rw [h.tx]; exact hx
  have hF : rwF g (encB ps) = frms (lay (g + 1) 0 (txt s rs) []) := by unfold rwF; rw [h.tx]
  obtain ⟨F, hFe⟩ : ∃ F, rwF g (encB ps) = F := ⟨_, rfl⟩
  rw [hFe]
  unfold wrE wrD
  cases hs : spB d with
  | false =>
    rw [if_neg (by simp), if_neg (by simp)]
    have hc : clearD (1 - m) d = spD d := by unfold clearD; rw [hs]; rfl
    obtain ⟨e1, e2, -⟩ := spD_b d
    rw [hc]
    exact ⟨fun h => absurd h (by decide), fun _ h => absurd rfl h, fun _ => (h.ready _).of e1 e2⟩
  | true =>
    rw [if_pos rfl, if_pos rfl]
    obtain ⟨e0, e1, e2, e3⟩ := spB_true hs
    have hc : clearD (1 - m) d = { spD d with b := updN (spD d).b (1 - m) [], s := updN (spD d).s (1 - m) 0 } := by unfold clearD; rw [hs, if_pos rfl]
    obtain ⟨d1, hd1⟩ : ∃ d1, clearD (1 - m) d = d1 := ⟨_, rfl⟩
    rw [hd1] at hc ⊢
    have b1 : d1.b = updN d.b (1 - m) [] := by rw [hc, ← e1]
    have s1 : d1.s = updN d.s (1 - m) 0 := by rw [hc, ← e2]
    have o1 : d1.off = false := by rw [hc]; exact e0
    have st1 : StD d1 m g k s rs ps G := by
      refine ⟨o1, h.hm, ?_, h.tx, h.g⟩
      have f1 : d1.b m = d.b m := by rw [b1, updN_ne _ _ (by have := h.hm; omega)]
      have f2 : d1.s m = d.s m := by rw [s1, updN_ne _ _ (by have := h.hm; omega)]
      rw [f1, f2, b1, s1, updN_same, updN_same]
      exact h.run.cleared
    by_cases hf : fitD d1 (1 - m) F = true
    · have ea : appE (1 - m) F d1 = pwE (spB d1) := by unfold appE; rw [if_pos hf]
      have ed : appD (1 - m) F d1 = if spB d1 then { spD d1 with b := updN (spD d1).b (1 - m) ((spD d1).b (1 - m) ++ F) } else spD d1 := by unfold appD; rw [if_pos hf]
      rw [ea, ed]
      cases hs1 : spB d1 with
      | false =>
        have hne : pwE false ≠ 0 := by decide
        rw [if_neg hne, if_neg hne, if_neg (by simp)]
        obtain ⟨f1, f2, -⟩ := spD_b d1
        exact ⟨fun h => absurd h (by decide), fun _ h => absurd rfl h, fun _ => (st1.ready _).of f1 f2⟩
      | true =>
        have h0 : pwE true = 0 := rfl
        rw [if_pos h0, if_pos h0, if_pos rfl]
        obtain ⟨f0, f1, f2, f3⟩ := spB_true hs1
        rw [f1]
        generalize hd2 : ({ spD d1 with b := updN d1.b (1 - m) (d1.b (1 - m) ++ F) } : Dk) = d2
        have b2 : d2.b = updN d1.b (1 - m) F := by rw [← hd2, b1, updN_same]; rfl
        have s2 : d2.s = d1.s := by rw [← hd2]; exact f2
        have b2o : d2.b (1 - m) = F := by rw [b2, updN_same]
        have b2m : d2.b m = d.b m := by rw [b2, updN_ne _ _ (by have := h.hm; omega), b1, updN_ne _ _ (by have := h.hm; omega)]
        have s2m : d2.s m = d.s m := by rw [s2, s1, updN_ne _ _ (by have := h.hm; omega)]
        cases hs2 : spB d2 with
        | false =>
          refine ⟨fun h => absurd h (by decide), fun _ h => absurd rfl h, fun _ => ?_⟩
          have hsy : syncD (1 - m) d2 = spD d2 := by unfold syncD; rw [hs2]; rfl
          rw [hsy]
          obtain ⟨k1, k2, -⟩ := spD_b d2
          rw [← h.tx]
          refine RdyD.of (d := d2) (rdy_mk h.hm (fun _ => ?_) (fun _ => ?_)) k1 k2
          · rw [b2o, b2m, s2m, ← hFe, hF]; exact h.run.new_ready0 hg htx _ _
          · rw [b2o, b2m, s2m, ← hFe, hF]; exact h.run.new_ready1 hg htx _ _
        | true =>
          refine ⟨fun _ => ?_, fun h => absurd rfl h, fun h => absurd h (by decide)⟩
          obtain ⟨k0, k1, k2, k3⟩ := spB_true hs2
          have hsy : syncD (1 - m) d2 = { spD d2 with s := updN (spD d2).s (1 - m) ((spD d2).b (1 - m)).length } := by unfold syncD; rw [hs2, if_pos rfl]
          rw [hsy]
          refine ⟨k0, hm2, ?_, by simp [txt], hg⟩
          show Run ((spD d2).b (1 - m)) (updN (spD d2).s (1 - m) ((spD d2).b (1 - m)).length (1 - m)) ((spD d2).b (1 - (1 - m))) (updN (spD d2).s (1 - m) ((spD d2).b (1 - m)).length (1 - (1 - m))) (g + 1) 0 (encB ps) []
          rw [updN_same, hmm, updN_ne _ _ (by have := h.hm; omega), k1, k2, b2o, b2m, s2m, ← hFe]
          exact h.run.renewed hx
    · have ea : appE (1 - m) F d1 = 13 := by unfold appE; rw [if_neg hf]
      have ed : appD (1 - m) F d1 = d1 := by unfold appD; rw [if_neg hf]
      rw [ea, ed, if_neg (by decide), if_neg (by decide)]
      exact ⟨fun h => absurd h (by decide), fun _ _ => st1, fun h => absurd h (by decide)⟩

/-- A disk behind a crash. -/
structure HdD (d : Dk) (x y : Bts) (G : Nat) : Prop where
  on : d.off = false
  fu : d.fused = false
  safe : ∀ n, n < 2 → d.s n = (d.b n).length
  rest : Rest (d.b 0) (d.b 1) x G ∨ Rest (d.b 0) (d.b 1) y G
theorem crash_plain {d : Dk} {x y : Bts} {G : Nat} (h : RdyD d x y G) (hs : ∀ n, n < 2 → d.s n ≤ (d.b n).length) (k0 k1 : Int) : HdD (crD k0 k1 d) x y G := by
  have b0 : (crD k0 k1 d).b 0 = (d.b 0).take (crS 0 k0 d) := rfl
  have s0 : (crD k0 k1 d).s 0 = crS 0 k0 d := rfl
  have b1 : (crD k0 k1 d).b 1 = (d.b 1).take (crS 1 k1 (cr1 0 k0 d)) := rfl
  have s1 : (crD k0 k1 d).s 1 = crS 1 k1 (cr1 0 k0 d) := rfl
  have e1 : crS 1 k1 (cr1 0 k0 d) = crS 1 k1 d := rfl
  rw [e1] at b1 s1
  have l0 := crS_le k0 (hs 0 (by decide))
  have l1 := crS_le k1 (hs 1 (by decide))
  have g0 : d.s 0 ≤ crS 0 k0 d := by unfold crS; omega
  have g1 : d.s 1 ≤ crS 1 k1 d := by unfold crS; omega
  refine ⟨rfl, rfl, fun n hn => ?_, ?_⟩
  · obtain rfl | rfl : n = 0 ∨ n = 1 := by omega
    · rw [b0, s0, List.length_take]; omega
    · rw [b1, s1, List.length_take]; omega
  · rw [b0, b1]
    exact h _ _ g0 g1
theorem new_plain (most : Nat) (G : Nat) : HdD (newD most) [] [] G := ⟨rfl, rfl, fun _ _ => rfl, .inl (.none noA_nil noA_nil rfl)⟩

/-- The better area, not torn or torn, and what Open makes of it. -/
theorem open_best {d : Dk} {m g G : Nat} {s : Bts} {rs : List Bts} {t : Bts} {ps : List (List Tr)} (hm : m < 2) (hj : JI (d.b m) (d.b (1 - m)) g s rs t) (hg1 : 1 ≤ g) (hg : g ≤ G) (hx : txt s rs = encB ps) (hon : d.off = false) (hs : ∀ n, n < 2 → d.s n = (d.b n).length) :
    ∃ op k, opn d (some (m, ⟨g, s, rs, t⟩)) = op ∧ StD op.d op.m op.g k op.s op.rs ps (G + 1) ∧ txt op.s op.rs = encB ps ∧ 8 * op.rs.length ≤ (d.b m).length := by
  have hlen : 8 * rs.length ≤ (d.b m).length := by
    obtain ⟨⟨k, -, h1, -⟩, -⟩ := hj
    have h2 := frms_len (lay g k s rs)
    have h3 : (lay g k s rs).length = rs.length + 2 := rfl
    rw [h1, List.length_append]; omega
  have hmm : 1 - (1 - m) = m := by omega
  by_cases ht : 0 < t.length
  · obtain ⟨hr, -⟩ := run_of_torn hj hg1
    refine ⟨_, rs.length, if_pos ht, ⟨hon, by show 1 - m < 2; omega, ?_, hx, by show g + 1 ≤ G + 1; omega⟩, hx, hlen⟩
    show Run (updN d.b (1 - m) (frms (lay (g + 1) rs.length s rs)) (1 - m)) (updN d.s (1 - m) (frms (lay (g + 1) rs.length s rs)).length (1 - m)) (updN d.b (1 - m) (frms (lay (g + 1) rs.length s rs)) (1 - (1 - m))) (updN d.s (1 - m) (frms (lay (g + 1) rs.length s rs)).length (1 - (1 - m))) (g + 1) rs.length s rs
    rw [updN_same, updN_same, hmm, updN_ne _ _ (by omega), updN_ne _ _ (by omega), hs m hm]
    exact hr
  · have ht0 : t = [] := List.length_eq_zero_iff.1 (by omega)
    subst ht0
    obtain ⟨k, hr⟩ := run_of_whole hj hg1
    have he : opn d (some (m, ⟨g, s, rs, []⟩)) = ⟨d, g, m, s, rs⟩ := rfl
    refine ⟨⟨d, g, m, s, rs⟩, k, he, ⟨hon, hm, ?_, hx, by show g ≤ G + 1; omega⟩, hx, hlen⟩
    show Run (d.b m) (d.s m) (d.b (1 - m)) (d.s (1 - m)) g k s rs
    rw [hs m hm, hs (1 - m) (by omega)]
    exact hr
theorem po_of {b : Bts} {g G : Nat} (hG : G ≤ 1000000) (hg : g ≤ G) (h : NoA b ∨ ∃ g' s' rs' t', Are b g' s' rs' t' ∧ 1 ≤ g' ∧ g' < g) : ∃ o : Option Cn, PO b o ∧ ∀ c, o = some c → c.g < g := by
  rcases h with h | ⟨g', s', rs', t', h1, h2, h3⟩
  · exact ⟨none, h, fun c e => by cases e⟩
  · exact ⟨some ⟨g', s', rs', t'⟩, ⟨h1, h2, by show g' ≤ _; omega⟩, fun c e => by cases e; exact h3⟩
/-- What Open makes of a disk behind a crash. -/
theorem open_plain {d : Dk} {x : Bts} {G : Nat} {ps : List (List Tr)} (hx : x = encB ps) (hG : G ≤ 1000000) (hon : d.off = false) (hs : ∀ n, n < 2 → d.s n = (d.b n).length) (h : Rest (d.b 0) (d.b 1) x G) :
    ∃ o : Nat → Option Cn, (∀ n, n < 2 → PO (d.b n) (o n)) ∧ ∃ op k, opn d (bst (bst none 0 (o 0)) 1 (o 1)) = op ∧ StD op.d op.m op.g k op.s op.rs ps (G + 1) ∧ txt op.s op.rs = encB ps ∧ 8 * op.rs.length ≤ (d.b 0).length + (d.b 1).length := by
  cases h with
  | none h0 h1 h =>
    have hp : encB ps = [] := by rw [← hx, h]
    refine ⟨fun _ => none, fun n hn => ?_, _, 0, rfl, ⟨hon, by show 0 < 2; decide, ?_, by rw [hp]; rfl, by show 1 ≤ G + 1; omega⟩, by rw [hp]; rfl, Nat.zero_le _⟩
    · obtain rfl | rfl : n = 0 ∨ n = 1 := by omega
      · exact h0
      · exact h1
    · show Run (updN d.b 0 (frms (lay 1 0 [] [])) 0) (updN d.s 0 (frms (lay 1 0 [] [])).length 0) (updN d.b 0 (frms (lay 1 0 [] [])) 1) (updN d.s 0 (frms (lay 1 0 [] [])).length 1) 1 0 [] []
      rw [updN_same, updN_same, updN_ne _ _ (by decide), updN_ne _ _ (by decide), hs 1 (by decide)]
      exact run_of_none h0 h1
  | zero g s rs t hj hx2 h1 h2 =>
    obtain ⟨o1, hp1, hc1⟩ := po_of hG h2 hj.2
    obtain ⟨op, k, e1, e2, e3, e4⟩ := open_best (d := d) (m := 0) (by decide) hj h1 h2 (by rw [← hx2, hx]) hon hs
    have hb : bst (bst none 0 (some ⟨g, s, rs, t⟩)) 1 o1 = some (0, ⟨g, s, rs, t⟩) := by
      cases o1 with
      | none => rfl
      | some c =>
        have := hc1 c rfl
        show (if g < c.g then _ else _) = _
        rw [if_neg (by omega)]
    refine ⟨fun n => if n = 0 then some ⟨g, s, rs, t⟩ else o1, fun n hn => ?_, op, k, ?_, e2, e3, by omega⟩
    · obtain rfl | rfl : n = 0 ∨ n = 1 := by omega
      · exact ⟨hj.1, h1, by show g ≤ _; omega⟩
      · exact hp1
    · show opn d (bst (bst none 0 (some ⟨g, s, rs, t⟩)) 1 o1) = op
      rw [hb]; exact e1
  | one g s rs t hj hx2 h1 h2 =>
    obtain ⟨o0, hp0, hc0⟩ := po_of hG h2 hj.2
    obtain ⟨op, k, e1, e2, e3, e4⟩ := open_best (d := d) (m := 1) (by decide) hj h1 h2 (by rw [← hx2, hx]) hon hs
    have hb : bst (bst none 0 o0) 1 (some ⟨g, s, rs, t⟩) = some (1, ⟨g, s, rs, t⟩) := by
      cases o0 with
      | none => rfl
      | some c =>
        have := hc0 c rfl
        show (if c.g < g then _ else _) = _
        rw [if_pos (by omega)]
    refine ⟨fun n => if n = 0 then o0 else some ⟨g, s, rs, t⟩, fun n hn => ?_, op, k, ?_, e2, e3, by omega⟩
    · obtain rfl | rfl : n = 0 ∨ n = 1 := by omega
      · exact hp0
      · exact ⟨hj.1, h1, by show g ≤ _; omega⟩
    · show opn d (bst (bst none 0 o0) 1 (some ⟨g, s, rs, t⟩)) = op
      rw [hb]; exact e1
theorem StD.records {d : Dk} {m g k : Nat} {s : Bts} {rs : List Bts} {ps : List (List Tr)} {G : Nat} (h : StD d m g k s rs ps G) : 8 * rs.length ≤ (d.b m).length := by
  have h1 := frms_len (lay g k s rs)
  rw [← h.run.area] at h1
  have h2 : (lay g k s rs).length = rs.length + 2 := rfl
  omega

end Go.Proofs.Ytcpefolhohakmaa
