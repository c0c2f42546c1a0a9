/- Plain: matchings of a graph, how many they leave out, and how one is made greater along an alternating way. -/
namespace Go.Proofs.Ytcpefolhohakmaa

abbrev Mt := Nat → Option Nat
def upd (f : Mt) (i : Nat) (v : Option Nat) : Mt := fun j => if j = i then v else f j
theorem upd_same (f : Mt) (i : Nat) (v : Option Nat) : upd f i v i = v := if_pos rfl
theorem upd_ne (f : Mt) {i j : Nat} (v : Option Nat) (h : j ≠ i) : upd f i v j = f j := if_neg h

/-- A graph. -/
structure Gr (n : Nat) (adj : Nat → Nat → Prop) : Prop where
  sym : ∀ i j, adj i j → adj j i
  irr : ∀ i, ¬ adj i i
  lt : ∀ i j, adj i j → i < n ∧ j < n
/-- A matching. -/
structure Mat (adj : Nat → Nat → Prop) (m : Mt) : Prop where
  adj : ∀ i j, m i = some j → adj i j
  inv : ∀ i j, m i = some j → m j = some i

theorem Mat.ne {n : Nat} {adj : Nat → Nat → Prop} {m : Mt} (G : Gr n adj) (h : Mat adj m) {i j : Nat} (e : m i = some j) : i ≠ j := fun he => G.irr i (by have := h.adj i j e; rwa [← he] at this)
theorem Mat.inj {adj : Nat → Nat → Prop} {m : Mt} (h : Mat adj m) {i j k : Nat} (a : m i = some k) (b : m j = some k) : i = j := by
  have := h.inv i k a
  rw [h.inv j k b] at this
  exact (Option.some.inj this).symm

/-- How many of the first n are matched. -/
def cnt (m : Mt) : Nat → Nat
  | 0 => 0
  | n + 1 => cnt m n + if (m n).isSome then 1 else 0
theorem cnt_congr {m m' : Mt} {n : Nat} (h : ∀ i, i < n → (m i).isSome = (m' i).isSome) : cnt m n = cnt m' n := by
  induction n with
  | zero => rfl
  | succ n ih => rw [cnt, cnt, ih (fun i hi => h i (by omega)), h n (by omega)]
theorem cnt_upd (m : Mt) (i : Nat) (v : Option Nat) (n : Nat) :
    cnt (upd m i v) n + (if i < n ∧ (m i).isSome then 1 else 0) = cnt m n + if i < n ∧ v.isSome then 1 else 0 := by
  induction n with
  | zero => simp [cnt]
  | succ n ih =>
    rw [cnt, cnt]
    by_cases h : i = n
    · subst h
      rw [upd_same]
      simp only [Nat.lt_irrefl, false_and, if_false, Nat.lt_succ_self, true_and] at *
      omega
    · rw [upd_ne _ _ (fun e => h e.symm)]
      have e : i < n + 1 ↔ i < n := by omega
      simp only [e]
      omega
theorem cnt_le (m : Mt) (n : Nat) : cnt m n ≤ n := by
  induction n with
  | zero => exact Nat.le_refl _
  | succ n ih => rw [cnt]; split <;> omega

/-- The state list of an alternating way: from each state over its partner to the next one; the last one is exposed. -/
inductive Alt (adj : Nat → Nat → Prop) (m : Mt) : List Nat → Prop
  | one (r : Nat) (h : m r = none) : Alt adj m [r]
  | cons (s o t : Nat) (l : List Nat) (h : m s = some o) (ha : adj o t) (hl : Alt adj m (t :: l)) : Alt adj m (s :: t :: l)
/-- No vertex comes twice. -/
structure Sim (m : Mt) (l : List Nat) : Prop where
  nd : l.Nodup
  no : ∀ s ∈ l, ∀ t ∈ l, m s ≠ some t
theorem Sim.tail {m : Mt} {s : Nat} {l : List Nat} (h : Sim m (s :: l)) : Sim m l :=
  ⟨(List.nodup_cons.1 h.nd).2, fun a ha b hb => h.no a (by simp [ha]) b (by simp [hb])⟩
theorem Alt.congr {adj : Nat → Nat → Prop} {m m' : Mt} {l : List Nat} (h : Alt adj m l) (e : ∀ s ∈ l, m' s = m s) : Alt adj m' l := by
  induction h with
  | one r h => exact .one r (by rw [e r (by simp)]; exact h)
  | cons s o t l h ha _ ih => exact .cons s o t l (by rw [e s (by simp)]; exact h) ha (ih fun x hx => e x (by simp [hx]))
theorem Sim.congr {m m' : Mt} {l : List Nat} (h : Sim m l) (e : ∀ s ∈ l, m' s = m s) : Sim m' l :=
  ⟨h.nd, fun s hs t ht => by rw [e s hs]; exact h.no s hs t ht⟩

/-- A matching is made greater: v is matched with the first state, its partner with the next one, and so on. -/
def augP (m : Mt) (v : Nat) : List Nat → Mt
  | [] => m
  | s :: l => match m s with
    | none => upd (upd m v (some s)) s (some v)
    | some o => augP (upd (upd m v (some s)) s (some v)) o l

theorem augP_ok {n : Nat} {adj : Nat → Nat → Prop} (G : Gr n adj) (l : List Nat) : ∀ (v : Nat) (c m : Mt), Mat adj c → c v = none → (∀ x, x ≠ v → m x = c x) →
    ∀ s l', l = s :: l' → adj v s → Alt adj c l → Sim c l → v ∉ l →
    Mat adj (augP m v l) ∧ cnt (augP m v l) n = cnt c n + 2 ∧ (∀ x, x ≠ v → x ∉ l → (∀ t ∈ l, c t ≠ some x) → augP m v l x = c x) ∧ (∀ x, (augP m v l x = none) → c x = none ∧ x ≠ v ∧ x ∉ l) := by
  induction l with
  | nil => intro v c m _ _ _ s l' h; cases h
  | cons s0 l ih =>
    intro v c m hc hv hm s l' hl hadj halt hsim hvl
    obtain ⟨rfl, rfl⟩ := List.cons.inj hl
    have hsv : s0 ≠ v := fun e => hvl (by simp [e])
    have hs := hm s0 hsv
    have lts := G.lt _ _ hadj
    cases halt with
    | one _ h0 =>
      have e : augP m v [s0] = upd (upd m v (some s0)) s0 (some v) := by unfold augP; rw [hs, h0]
      have hx : ∀ x, augP m v [s0] x = if x = s0 then some v else if x = v then some s0 else c x := by
        intro x; rw [e]; unfold upd
        by_cases h1 : x = s0
        · rw [if_pos h1, if_pos h1]
        · rw [if_neg h1, if_neg h1]
          by_cases h2 : x = v
          · rw [if_pos h2, if_pos h2]
          · rw [if_neg h2, if_neg h2, hm x h2]
      have hcs : ∀ x, c x ≠ some s0 := fun x hx => by have := hc.inv _ _ hx; rw [h0] at this; cases this
      have hcv : ∀ x, c x ≠ some v := fun x hx => by have := hc.inv _ _ hx; rw [hv] at this; cases this
      refine ⟨⟨fun i j hij => ?_, fun i j hij => ?_⟩, ?_, fun x h1 h2 _ => ?_, fun x hxn => ?_⟩
      · rw [hx] at hij
        split at hij
        · cases hij; subst i; exact G.sym _ _ hadj
        · split at hij
          · cases hij; subst i; exact hadj
          · exact hc.adj _ _ hij
      · rw [hx] at hij ⊢
        split at hij
        · cases hij; subst i; rw [if_neg (fun h => hsv h.symm), if_pos rfl]
        · split at hij
          · cases hij; subst i; rw [if_pos rfl]
          · rw [if_neg (fun h => hcs i (by rw [← h]; exact hij)), if_neg (fun h => hcv i (by rw [← h]; exact hij))]
            exact hc.inv _ _ hij
      · have e2 : cnt (augP m v [s0]) n = cnt (upd (upd c v (some s0)) s0 (some v)) n := cnt_congr fun i _ => by
          rw [hx]; unfold upd; split <;> rfl
        have a1 := cnt_upd c v (some s0) n
        have a2 := cnt_upd (upd c v (some s0)) s0 (some v) n
        rw [upd_ne _ _ hsv, h0] at a2
        rw [hv] at a1
        simp [lts.1, lts.2] at a1 a2
        rw [e2]; omega
      · rw [hx, if_neg (fun h => h2 (by simp [h])), if_neg h1]
      · rw [hx] at hxn
        split at hxn
        · cases hxn
        · split at hxn
          · cases hxn
          · exact ⟨hxn, ‹_›, by simpa using ‹¬ x = s0›⟩
    | cons _ o t l2 h0 hao hl2 =>
      have e : augP m v (s0 :: t :: l2) = augP (upd (upd m v (some s0)) s0 (some v)) o (t :: l2) := by rw [augP, hs, h0]
      have hov : o ≠ v := fun h => by have := hc.inv _ _ h0; rw [h, hv] at this; cases this
      have hos : o ≠ s0 := fun h => hc.ne G h0 h.symm
      have hol : o ∉ t :: l2 := fun h => hsim.no s0 (by simp) o (by simp [h]) h0
      have hsl : s0 ∉ t :: l2 := (List.nodup_cons.1 hsim.nd).1
      have hvl2 : v ∉ t :: l2 := fun h => hvl (by simp [h])
      let c' : Mt := upd (upd (upd c v (some s0)) s0 (some v)) o none
      have hx : ∀ x, c' x = if x = o then none else if x = s0 then some v else if x = v then some s0 else c x := fun x => rfl
      have hcs : ∀ x, c x = some s0 → x = o := fun x hx => by have := hc.inv _ _ hx; rw [h0] at this; exact (Option.some.inj this).symm
      have hco : ∀ x, c x = some o → x = s0 := fun x hx => hc.inj hx h0
      have hcv : ∀ x, c x ≠ some v := fun x hx => by have := hc.inv _ _ hx; rw [hv] at this; cases this
      have hM : Mat adj c' := by
        refine ⟨fun i j hij => ?_, fun i j hij => ?_⟩
        · rw [hx] at hij
          split at hij
          · cases hij
          split at hij
          · cases hij; subst i; exact G.sym _ _ hadj
          split at hij
          · cases hij; subst i; exact hadj
          · exact hc.adj _ _ hij
        · rw [hx] at hij ⊢
          split at hij
          · cases hij
          split at hij
          · cases hij; subst i; rw [if_neg (fun h => hov h.symm), if_neg (fun h => hsv h.symm), if_pos rfl]
          split at hij
          · cases hij; subst i; rw [if_neg (fun h => hos h.symm), if_pos rfl]
          · rename_i g1 g2 g3
            rw [if_neg (fun h => g2 (hco i (by rw [← h]; exact hij))), if_neg (fun h => g1 (hcs i (by rw [← h]; exact hij))), if_neg (fun h => hcv i (by rw [← h]; exact hij))]
            exact hc.inv _ _ hij
      have hagree : ∀ x ∈ t :: l2, c' x = c x := fun x hxl => by
        rw [hx, if_neg (fun h => hol (by rw [← h]; exact hxl)), if_neg (fun h => hsl (by rw [← h]; exact hxl)), if_neg (fun h => hvl2 (by rw [← h]; exact hxl))]
      obtain ⟨r1, r2, r3, r4⟩ := ih o c' (upd (upd m v (some s0)) s0 (some v)) hM (by rw [hx, if_pos rfl]) (fun x hxo => by
        rw [hx, if_neg hxo]; unfold upd
        by_cases g1 : x = s0
        · rw [if_pos g1, if_pos g1]
        · rw [if_neg g1, if_neg g1]
          by_cases g2 : x = v
          · rw [if_pos g2, if_pos g2]
          · rw [if_neg g2, if_neg g2, hm x g2]) t l2 rfl hao (hl2.congr hagree) (hsim.tail.congr hagree) hol
      rw [e]
      refine ⟨r1, ?_, fun x g1 g2 g3 => ?_, fun x hxn => ?_⟩
      · rw [r2]
        have a1 := cnt_upd c v (some s0) n
        have a2 := cnt_upd (upd c v (some s0)) s0 (some v) n
        have a3 := cnt_upd (upd (upd c v (some s0)) s0 (some v)) o none n
        have lo : o < n := (G.lt _ _ hao).1
        rw [upd_ne _ _ hos, upd_ne _ _ hov, hc.inv _ _ h0] at a3
        rw [upd_ne _ _ hsv, h0] at a2
        rw [hv] at a1
        simp [lts.1, lts.2, lo] at a1 a2 a3
        show cnt (upd (upd (upd c v (some s0)) s0 (some v)) o none) n + 2 = _
        omega
      · have h1 : x ≠ o := fun h => g3 s0 (by simp) (by rw [h]; exact h0)
        rw [r3 x h1 (fun h => g2 (by simp [h])) (fun t' ht' => by rw [hagree t' ht']; exact g3 t' (by simp [ht']))]
        rw [hx, if_neg h1, if_neg (fun h => g2 (by simp [h])), if_neg g1]
      · obtain ⟨g1, g2, g3⟩ := r4 x hxn
        rw [hx, if_neg g2] at g1
        split at g1
        · cases g1
        split at g1
        · cases g1
        · rename_i k1 k2
          exact ⟨g1, k2, fun hm => by
            rcases List.mem_cons.1 hm with e | hm
            · exact k1 e
            · exact g3 hm⟩

/-- The first state can be left out instead of the last one. -/
theorem flip_ok {n : Nat} {adj : Nat → Nat → Prop} (G : Gr n adj) {m : Mt} (hm : Mat adj m) {v : Nat} {l : List Nat} (ha : Alt adj m (v :: l)) (hs : Sim m (v :: l)) :
    ∃ m', Mat adj m' ∧ m' v = none ∧ cnt m' n = cnt m n := by
  cases ha with
  | one _ h => exact ⟨m, hm, h, rfl⟩
  | cons _ o t l h0 hao hl =>
    have hov : o ≠ v := fun h => hm.ne G h0 h.symm
    let c : Mt := upd (upd m v none) o none
    have hx : ∀ x, c x = if x = o then none else if x = v then none else m x := fun x => rfl
    have hvl : v ∉ t :: l := (List.nodup_cons.1 hs.nd).1
    have hol : o ∉ t :: l := fun h => hs.no v (by simp) o (by simp [h]) h0
    have hc : Mat adj c := by
      refine ⟨fun i j hij => ?_, fun i j hij => ?_⟩
      · rw [hx] at hij
        split at hij
        · cases hij
        split at hij
        · cases hij
        · exact hm.adj _ _ hij
      · rw [hx] at hij ⊢
        split at hij
        · cases hij
        split at hij
        · cases hij
        · rename_i g1 g2
          rw [if_neg (fun h => g2 (hm.inj (by rw [← h]; exact hij) h0)), if_neg (fun h => g1 (by have := hm.inv _ _ hij; rw [h, h0] at this; exact (Option.some.inj this).symm))]
          exact hm.inv _ _ hij
    have hagree : ∀ x ∈ t :: l, c x = m x := fun x hxl => by
      rw [hx, if_neg (fun h => hol (by rw [← h]; exact hxl)), if_neg (fun h => hvl (by rw [← h]; exact hxl))]
    obtain ⟨r1, r2, r3, _⟩ := augP_ok G (t :: l) o c c hc (by rw [hx, if_pos rfl]) (fun _ _ => rfl) t l rfl hao (hl.congr hagree) (hs.tail.congr hagree) hol
    refine ⟨augP c o (t :: l), r1, ?_, ?_⟩
    · rw [r3 v (fun h => hov h.symm) hvl (fun x hxl => ?_), hx, if_neg (fun h => hov h.symm), if_pos rfl]
      intro he
      have := hc.inv _ _ he
      rw [hx, if_neg (fun h => hov h.symm), if_pos rfl] at this
      cases this
    · rw [r2]
      have a1 := cnt_upd m v none n
      have a2 := cnt_upd (upd m v none) o none n
      have l0 := (G.lt _ _ (hm.adj _ _ h0)).1
      have l1 := (G.lt _ _ hao).1
      rw [upd_ne _ _ hov, hm.inv _ _ h0] at a2
      rw [h0] at a1
      simp [l0, l1] at a1 a2
      show cnt (upd (upd m v none) o none) n + 2 = _
      omega

end Go.Proofs.Ytcpefolhohakmaa
