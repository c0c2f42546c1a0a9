/- Kuhn's search, plainly: as the program goes. -/
import Derived.Test.YtcpefolhohakmaaM5
import Derived.Test.YtcpefolhohakmaaI2
namespace Go.Proofs.Ytcpefolhohakmaa

/-- Who was seen, and the partners of the right gloves. -/
abbrev KSt := (Nat → Bool) × Mt
def kloop (rec : Nat → KSt → Bool × KSt) (e : Nat → Nat → Bool) (i : Nat) : List Nat → KSt → Bool × KSt
  | [], st => (false, st)
  | j :: js, st =>
    if e i j = false ∨ st.1 j = true then kloop rec e i js st
    else match st.2 j with
      | none => (true, (setB st.1 j, upd st.2 j (some i)))
      | some i' =>
        if (rec i' (setB st.1 j, st.2)).1 then (true, ((rec i' (setB st.1 j, st.2)).2.1, upd (rec i' (setB st.1 j, st.2)).2.2 j (some i)))
        else kloop rec e i js (rec i' (setB st.1 j, st.2)).2
def kfind (e : Nat → Nat → Bool) (nr : Nat) : Nat → Nat → KSt → Bool × KSt
  | 0, _, st => (false, st)
  | f + 1, i, st => kloop (kfind e nr f) e i (List.range nr) st
def kuhn (e : Nat → Nat → Bool) (nr : Nat) : Nat → Mt
  | 0 => fun _ => none
  | i + 1 => (kfind e nr (nr + 1) i (fun _ => false, kuhn e nr i)).2.2

/-- What a search does to the partners. -/
structure KOk (e : Nat → Nat → Bool) (nr : Nat) (i : Nat) (st : KSt) (R : Bool × KSt) : Prop where
  grow : ∀ j, st.1 j = true → R.2.1 j = true
  no : R.1 = false → R.2.2 = st.2
  off : ∀ j, st.1 j = true → R.2.2 j = st.2 j
  edg : (∀ j x, st.2 j = some x → e x j = true ∧ j < nr) → ∀ j x, R.2.2 j = some x → e x j = true ∧ j < nr
  val : ∀ j x, st.1 j = false → R.2.2 j = some x → x = i ∨ ∃ j', st.1 j' = false ∧ st.2 j' = some x
  inj : (∀ j j' x, st.1 j = false → st.1 j' = false → st.2 j = some x → st.2 j' = some x → j = j') → (∀ j, st.1 j = false → st.2 j ≠ some i) →
    ∀ j j' x, st.1 j = false → st.1 j' = false → R.2.2 j = some x → R.2.2 j' = some x → j = j'

theorem setB_no {s : Nat → Bool} {j k : Nat} (h : setB s j k = false) : s k = false ∧ k ≠ j := by
  unfold setB at h
  by_cases e : k = j
  · rw [if_pos e] at h; cases h
  · rw [if_neg e] at h; exact ⟨h, e⟩
theorem setB_of {s : Nat → Bool} {j k : Nat} (h : s k = false) (e : k ≠ j) : setB s j k = false := by
  unfold setB
  rw [if_neg e]; exact h
theorem setB_grow {s : Nat → Bool} {j k : Nat} (h : s k = true) : setB s j k = true := by
  unfold setB
  split
  · rfl
  · exact h
theorem setB_self (s : Nat → Bool) (j : Nat) : setB s j j = true := by unfold setB; rw [if_pos rfl]
theorem tf {b : Bool} (h : b = true) (h' : b = false) : False := by rw [h] at h'; cases h'

theorem kloop_ok {rec : Nat → KSt → Bool × KSt} {e : Nat → Nat → Bool} {nr : Nat} (hrec : ∀ i st, KOk e nr i st (rec i st)) (i : Nat) : ∀ (js : List Nat) (st : KSt), (∀ j ∈ js, j < nr) → KOk e nr i st (kloop rec e i js st)
  | [], st, _ => ⟨fun _ h => h, fun _ => rfl, fun _ _ => rfl, fun h => h, fun j _ h h' => .inr ⟨j, h, h'⟩, fun h _ => h⟩
  | j :: js, st, hj => by
    unfold kloop
    by_cases h0 : e i j = false ∨ st.1 j = true
    · rw [if_pos h0]
      exact kloop_ok hrec i js st (fun k hk => hj k (by simp [hk]))
    · rw [if_neg h0]
      have he : e i j = true := by
        cases h : e i j with
        | true => rfl
        | false => exact absurd (.inl h) h0
      have hs : st.1 j = false := by
        cases h : st.1 j with
        | false => rfl
        | true => exact absurd (.inr h) h0
      have hjn : j < nr := hj j (by simp)
      cases hm : st.2 j with
      | none =>
        refine ⟨fun k hk => setB_grow hk, fun h => (by cases h), fun k hk => upd_ne _ _ (fun ek => tf (show st.1 j = true by rw [← ek]; exact hk) hs), fun hE k x hx => ?_, fun k x hk hx => ?_, fun hI hi k k' x hk hk' hx hx' => ?_⟩
        · by_cases ek : k = j
          · subst ek
            have hx : upd st.2 k (some i) k = some x := hx
            rw [upd_same] at hx
            cases hx
            exact ⟨he, hjn⟩
          · have hx : upd st.2 j (some i) k = some x := hx
            rw [upd_ne _ _ ek] at hx
            exact hE k x hx
        · have hx : upd st.2 j (some i) k = some x := hx
          by_cases ek : k = j
          · subst ek
            rw [upd_same] at hx
            cases hx
            exact .inl rfl
          · rw [upd_ne _ _ ek] at hx
            exact .inr ⟨k, hk, hx⟩
        · have hx : upd st.2 j (some i) k = some x := hx
          have hx' : upd st.2 j (some i) k' = some x := hx'
          by_cases ek : k = j
          · by_cases ek' : k' = j
            · rw [ek, ek']
            · rw [ek, upd_same] at hx
              rw [upd_ne _ _ ek'] at hx'
              cases hx
              exact absurd hx' (hi k' hk')
          · by_cases ek' : k' = j
            · rw [ek', upd_same] at hx'
              rw [upd_ne _ _ ek] at hx
              cases hx'
              exact absurd hx (hi k hk)
            · rw [upd_ne _ _ ek] at hx
              rw [upd_ne _ _ ek'] at hx'
              exact hI k k' x hk hk' hx hx'
      | some i' =>
        have h1 := hrec i' (setB st.1 j, st.2)
        show KOk e nr i st (if (rec i' (setB st.1 j, st.2)).1 then _ else _)
        generalize rec i' (setB st.1 j, st.2) = R1 at h1 ⊢
        obtain ⟨b1, s2, m2⟩ := R1
        cases b1 with
        | true =>
          rw [if_pos rfl]
          show KOk e nr i st (true, (s2, upd m2 j (some i)))
          refine ⟨fun k hk => h1.grow k (setB_grow hk), fun h => (by cases h), fun k hk => ?_, fun hE k x hx => ?_, fun k x hk hx => ?_, fun hI hi k k' x hk hk' hx hx' => ?_⟩
          · have := h1.off k (setB_grow hk)
            show upd m2 j (some i) k = st.2 k
            rw [upd_ne _ _ (fun ek => tf (show st.1 j = true by rw [← ek]; exact hk) hs)]
            exact this
          · have hx : upd m2 j (some i) k = some x := hx
            by_cases ek : k = j
            · subst ek
              rw [upd_same] at hx
              cases hx
              exact ⟨he, hjn⟩
            · rw [upd_ne _ _ ek] at hx
              exact h1.edg hE k x hx
          · have hx : upd m2 j (some i) k = some x := hx
            by_cases ek : k = j
            · subst ek
              rw [upd_same] at hx
              cases hx
              exact .inl rfl
            · rw [upd_ne _ _ ek] at hx
              rcases h1.val k x (setB_of hk ek) hx with g | ⟨k2, g1, g2⟩
              · exact .inr ⟨j, hs, by rw [g]; exact hm⟩
              · exact .inr ⟨k2, (setB_no g1).1, g2⟩
          · have hx : upd m2 j (some i) k = some x := hx
            have hx' : upd m2 j (some i) k' = some x := hx'
            have hno : ∀ q, st.1 q = false → q ≠ j → m2 q ≠ some i := fun q hq eq h => by
              rcases h1.val q i (setB_of hq eq) h with g | ⟨k2, g1, g2⟩
              · exact hi j hs (by rw [g]; exact hm)
              · exact hi k2 (setB_no g1).1 g2
            by_cases ek : k = j
            · by_cases ek' : k' = j
              · rw [ek, ek']
              · rw [ek, upd_same] at hx
                rw [upd_ne _ _ ek'] at hx'
                cases hx
                exact absurd hx' (hno k' hk' ek')
            · by_cases ek' : k' = j
              · rw [ek', upd_same] at hx'
                rw [upd_ne _ _ ek] at hx
                cases hx'
                exact absurd hx (hno k hk ek)
              · rw [upd_ne _ _ ek] at hx
                rw [upd_ne _ _ ek'] at hx'
                refine h1.inj (fun a a' y ha ha' hy hy' => hI a a' y (setB_no ha).1 (setB_no ha').1 hy hy') (fun a ha hy => ?_) k k' x (setB_of hk ek) (setB_of hk' ek') hx hx'
                exact (setB_no ha).2 (hI a j i' (setB_no ha).1 hs hy hm)
        | false =>
          rw [if_neg (by simp)]
          show KOk e nr i st (kloop rec e i js (s2, m2))
          have hmm : m2 = st.2 := h1.no rfl
          subst hmm
          have h2 := kloop_ok hrec i js (s2, st.2) (fun k hk => hj k (by simp [hk]))
          generalize kloop rec e i js (s2, st.2) = R2 at h2
          have hgr : ∀ q, st.1 q = true → s2 q = true := fun q hq => h1.grow q (setB_grow hq)
          have hgf : ∀ q, s2 q = false → st.1 q = false := fun q hq => by
            cases h : st.1 q with
            | false => rfl
            | true => exact (tf (hgr q h) hq).elim
          refine ⟨fun k hk => h2.grow k (hgr k hk), fun h => h2.no h, fun k hk => h2.off k (hgr k hk), fun hE => h2.edg hE, fun k x hk hx => ?_, fun hI hi k k' x hk hk' hx hx' => ?_⟩
          · cases h : s2 k with
            | true => exact .inr ⟨k, hk, by rw [← hx]; exact (h2.off k h).symm⟩
            | false =>
              rcases h2.val k x h hx with g | ⟨k2, g1, g2⟩
              · exact .inl g
              · exact .inr ⟨k2, hgf k2 g1, g2⟩
          · have hI2 := h2.inj (fun a a' y ha ha' hy hy' => hI a a' y (hgf a ha) (hgf a' ha') hy hy') (fun a ha => hi a (hgf a ha))
            have hmix : ∀ a a' y, st.1 a = false → s2 a = true → s2 a' = false → R2.2.2 a = some y → R2.2.2 a' = some y → False := fun a a' y ha h3 h4 hy hy' => by
              have hy2 : st.2 a = some y := by rw [← hy]; exact (h2.off a h3).symm
              rcases h2.val a' y h4 hy' with g | ⟨k2, g1, g2⟩
              · exact hi a ha (by rw [← g]; exact hy2)
              · have := hI a k2 y ha (hgf k2 g1) hy2 g2
                rw [this] at h3
                exact tf h3 g1
            cases h3 : s2 k with
            | true =>
              cases h4 : s2 k' with
              | true => exact hI k k' x hk hk' (by rw [← hx]; exact (h2.off k h3).symm) (by rw [← hx']; exact (h2.off k' h4).symm)
              | false => exact (hmix k k' x hk h3 h4 hx hx').elim
            | false =>
              cases h4 : s2 k' with
              | true => exact (hmix k' k x hk' h4 h3 hx' hx).elim
              | false => exact hI2 k k' x h3 h4 hx hx'
theorem kfind_ok (e : Nat → Nat → Bool) (nr : Nat) : ∀ (f i : Nat) (st : KSt), KOk e nr i st (kfind e nr f i st)
  | 0, _, _ => ⟨fun _ h => h, fun _ => rfl, fun _ _ => rfl, fun h => h, fun j _ h h' => .inr ⟨j, h, h'⟩, fun h _ => h⟩
  | f + 1, i, st => kloop_ok (fun i st => kfind_ok e nr f i st) i _ st (fun _ hj => List.mem_range.1 hj)
/-- What the partners are in the end. -/
structure KuOk (e : Nat → Nat → Bool) (nr i : Nat) (m : Mt) : Prop where
  edg : ∀ j x, m j = some x → e x j = true ∧ j < nr ∧ x < i
  inj : ∀ j j' x, m j = some x → m j' = some x → j = j'
theorem kuhn_ok (e : Nat → Nat → Bool) (nr : Nat) : ∀ i, KuOk e nr i (kuhn e nr i)
  | 0 => ⟨fun _ _ h => (by cases h), fun _ _ _ h => (by cases h)⟩
  | i + 1 => by
    have ih := kuhn_ok e nr i
    have h := kfind_ok e nr (nr + 1) i (fun _ => false, kuhn e nr i)
    refine ⟨fun j x hx => ?_, fun j j' x hx hx' => ?_⟩
    · have h1 := h.edg (fun j x hx => ⟨(ih.edg j x hx).1, (ih.edg j x hx).2.1⟩) j x hx
      refine ⟨h1.1, h1.2, ?_⟩
      rcases h.val j x rfl hx with g | ⟨k, _, g⟩
      · omega
      · have := (ih.edg k x g).2.2
        omega
    · exact h.inj (fun a a' y _ _ hy hy' => ih.inj a a' y hy hy') (fun a _ hy => by have := (ih.edg a i hy).2.2; omega) j j' x rfl rfl hx hx'

theorem cnt_filter (m : Mt) : ∀ n, cnt m n = ((List.range n).filter fun i => (m i).isSome).length
  | 0 => rfl
  | n + 1 => by
    rw [cnt, cnt_filter m n, List.range_succ, List.filter_append, List.length_append]
    by_cases h : (m n).isSome = true
    · simp [h]
    · simp [h]
theorem cnt_add (m : Mt) (a : Nat) : ∀ b, cnt m (a + b) = cnt m a + cnt (fun j => m (a + j)) b
  | 0 => rfl
  | b + 1 => by
    show cnt m (a + b + 1) = _
    rw [cnt, cnt, cnt_add m a b]
    omega
/-- The matching of a heap that a pairing of its two sides is. -/
def heapM (m : Mt) (nl nr : Nat) : Mt := fun x =>
  if x < nl then ((List.range nr).find? fun j => m j == some x).map (nl + ·) else m (x - nl)
theorem heapM_left {m : Mt} {nl nr x j : Nat} (hx : x < nl) : heapM m nl nr x = some j → ∃ j', j = nl + j' ∧ j' < nr ∧ m j' = some x := by
  unfold heapM
  rw [if_pos hx]
  intro h
  obtain ⟨j', h1, rfl⟩ := Option.map_eq_some_iff.1 h
  have h2 := List.find?_some h1
  have h3 := List.mem_of_find?_eq_some h1
  exact ⟨j', rfl, List.mem_range.1 h3, by simpa using h2⟩
theorem heapM_find {m : Mt} {nl nr x j : Nat} (hx : x < nl) (hj : j < nr) (hm : m j = some x) (hi : ∀ j', m j' = some x → j' = j) : heapM m nl nr x = some (nl + j) := by
  unfold heapM
  rw [if_pos hx]
  cases h : (List.range nr).find? (fun j => m j == some x) with
  | none =>
    have := List.find?_eq_none.1 h j (List.mem_range.2 hj)
    simp [hm] at this
  | some j' =>
    have h2 := List.find?_some h
    rw [hi j' (by simpa using h2)]
    rfl
theorem heapM_mat {e : Nat → Nat → Bool} {nl nr : Nat} {m : Mt} (h : KuOk e nr nl m) {adj : Nat → Nat → Prop} (hsym : ∀ i j, adj i j → adj j i) (ha : ∀ i j, i < nl → j < nr → e i j = true → adj i (nl + j)) : Mat adj (heapM m nl nr) where
  adj i j hm := by
    by_cases hi : i < nl
    · obtain ⟨j', rfl, h1, h2⟩ := heapM_left hi hm
      exact ha i j' hi h1 (h.edg j' i h2).1
    · unfold heapM at hm
      rw [if_neg hi] at hm
      obtain ⟨h1, h2, h3⟩ := h.edg _ _ hm
      have := hsym _ _ (ha j (i - nl) h3 h2 h1)
      rwa [show nl + (i - nl) = i by omega] at this
  inv i j hm := by
    by_cases hi : i < nl
    · obtain ⟨j', rfl, h1, h2⟩ := heapM_left hi hm
      unfold heapM
      rw [if_neg (by omega), show nl + j' - nl = j' by omega]
      exact h2
    · unfold heapM at hm
      rw [if_neg hi] at hm
      obtain ⟨h1, h2, h3⟩ := h.edg _ _ hm
      rw [heapM_find h3 h2 hm (fun j' h4 => h.inj j' _ _ h4 hm), show nl + (i - nl) = i by omega]
theorem heapM_cnt {e : Nat → Nat → Bool} {nl nr : Nat} {m : Mt} (h : KuOk e nr nl m) : 2 * cnt m nr ≤ cnt (heapM m nl nr) (nl + nr) := by
  rw [cnt_add]
  have h1 : cnt (fun j => heapM m nl nr (nl + j)) nr = cnt m nr := cnt_congr fun j _ => by
    unfold heapM
    rw [if_neg (by omega), show nl + j - nl = j by omega]
  have h2 : cnt m nr ≤ cnt (heapM m nl nr) nl := by
    rw [cnt_filter, cnt_filter]
    refine inj_len (fun j => (m j).getD 0) _ _ (List.Pairwise.filter _ List.nodup_range) (fun x hx y hy e => ?_) (fun x hx => ?_)
    · obtain ⟨a, ha⟩ := Option.isSome_iff_exists.1 (List.mem_filter.1 hx).2
      obtain ⟨b, hb⟩ := Option.isSome_iff_exists.1 (List.mem_filter.1 hy).2
      have e : (m x).getD 0 = (m y).getD 0 := e
      rw [ha, hb] at e
      have e : a = b := e
      rw [e] at ha
      exact h.inj x y b ha hb
    · obtain ⟨a, ha⟩ := Option.isSome_iff_exists.1 (List.mem_filter.1 hx).2
      obtain ⟨h1, h2, h3⟩ := h.edg _ _ ha
      show (m x).getD 0 ∈ _
      rw [ha]
      refine List.mem_filter.2 ⟨List.mem_range.2 h3, ?_⟩
      show (heapM m nl nr a).isSome = true
      rw [heapM_find h3 h2 ha (fun j' h4 => h.inj j' _ _ h4 ha)]
      rfl
  omega

end Go.Proofs.Ytcpefolhohakmaa
