/- Plain: the book of transfers, and its bytes. -/
import Derived.Test.YtcpefolhohakmaaBa
namespace Go.Proofs.Ytcpefolhohakmaa

/-- A transfer. -/
structure Tr where
  item : Int
  src : Int
  dst : Int
  cnt : Int
def Tr.Ok (t : Tr) : Prop := (0 ≤ t.item ∧ t.item < 16) ∧ (0 ≤ t.src ∧ t.src < 16) ∧ (0 ≤ t.dst ∧ t.dst < 16) ∧ t.src ≠ t.dst ∧ 1 ≤ t.cnt ∧ t.cnt ≤ 1000000
instance (t : Tr) : Decidable t.Ok := by unfold Tr.Ok; exact inferInstance
/-- The slot of a place and an item. -/
def slot (p i : Int) : Nat := p.toNat * 16 + i.toNat
def addAt (c : List Int) (k : Nat) (z : Int) : List Int := c.set k (c.getD k 0 + z)
def putT (c : List Int) (t : Tr) : List Int := addAt (addAt c (slot t.src t.item) (-t.cnt)) (slot t.dst t.item) t.cnt
def putL (c : List Int) (l : List Tr) : List Int := l.foldl putT c
def PostOk (c : List Int) (l : List Tr) : Prop :=
  (1 ≤ l.length ∧ l.length ≤ 16 ∧ ∀ t ∈ l, t.Ok) ∧ (∀ k, k < 256 → 16 ≤ k → 0 ≤ (putL c l).getD k 0) ∧ (∀ k, k < 256 → -1000000000 ≤ (putL c l).getD k 0 ∧ (putL c l).getD k 0 ≤ 1000000000)
instance (c : List Int) (l : List Tr) : Decidable (PostOk c l) := by unfold PostOk; exact inferInstance
def runF (c : List Int) : List (List Tr) → Option (List Int)
  | [] => some c
  | l :: ls => if PostOk c l then runF (putL c l) ls else none
def zeroC : List Int := List.replicate 256 0
/-- The counts behind posts, if all of them may be made. -/
def run (ps : List (List Tr)) : Option (List Int) := runF zeroC ps

theorem runF_append (c : List Int) (a b : List (List Tr)) : runF c (a ++ b) = (runF c a).bind fun d => runF d b := by
  induction a generalizing c with
  | nil => rfl
  | cons l a ih =>
    simp only [List.cons_append, runF]
    split
    · exact ih _
    · rfl
theorem run_snoc {ps : List (List Tr)} {c : List Int} (h : run ps = some c) {l : List Tr} (hl : PostOk c l) : run (ps ++ [l]) = some (putL c l) := by
  unfold run at *
  rw [runF_append, h]
  show runF c [l] = _
  rw [runF, if_pos hl]; rfl
theorem run_nil : run [] = some zeroC := rfl
/-- The posts of a book can be made again, one after the other. -/
theorem run_take {ps : List (List Tr)} {c : List Int} (h : run ps = some c) {k : Nat} (hk : k < ps.length) : ∃ d, run (ps.take k) = some d ∧ PostOk d (ps.getD k []) ∧ run (ps.take (k + 1)) = some (putL d (ps.getD k [])) := by
  have e : ps = ps.take k ++ (ps.getD k [] :: ps.drop (k + 1)) := by
    rw [List.getD_eq_getElem?_getD, List.getElem?_eq_getElem hk]; simp
  unfold run at h
  rw [e, runF_append] at h
  cases hd : runF zeroC (ps.take k) with
  | none => rw [hd] at h; cases h
  | some d =>
    rw [hd] at h
    have h' : runF d (ps.getD k [] :: ps.drop (k + 1)) = some c := h
    rw [runF] at h'
    by_cases hp : PostOk d (ps.getD k [])
    · refine ⟨d, hd, hp, ?_⟩
      have e2 : ps.take (k + 1) = ps.take k ++ [ps.getD k []] := by
        rw [List.take_succ_eq_append_getElem hk, List.getD_eq_getElem?_getD, List.getElem?_eq_getElem hk]; rfl
      rw [e2]
      exact run_snoc hd hp
    · rw [if_neg hp] at h'; cases h'

theorem addAt_length (c : List Int) (k : Nat) (z : Int) : (addAt c k z).length = c.length := List.length_set
theorem putT_length (c : List Int) (t : Tr) : (putT c t).length = c.length := by unfold putT; rw [addAt_length, addAt_length]
theorem putL_length (c : List Int) (l : List Tr) : (putL c l).length = c.length := by
  unfold putL
  induction l generalizing c with
  | nil => rfl
  | cons t l ih => rw [List.foldl_cons, ih, putT_length]
theorem putL_snoc (c : List Int) (l : List Tr) (t : Tr) : putL c (l ++ [t]) = putT (putL c l) t := by unfold putL; rw [List.foldl_append]; rfl
theorem addAt_get (c : List Int) (k : Nat) (z : Int) (j : Nat) (h : k < c.length) : (addAt c k z).getD j 0 = c.getD j 0 + if j = k then z else 0 := by
  unfold addAt
  rw [List.getD_eq_getElem?_getD, List.getElem?_set]
  by_cases e : k = j
  · subst e; simp [h]
  · rw [if_neg e, if_neg (fun h => e h.symm)]; simp [List.getD_eq_getElem?_getD]
theorem slot_lt {t : Tr} (h : t.Ok) : slot t.src t.item < 256 ∧ slot t.dst t.item < 256 := by
  obtain ⟨h1, h2, h3, _⟩ := h
  unfold slot; omega
theorem slot_ne {t : Tr} (h : t.Ok) : slot t.src t.item ≠ slot t.dst t.item := by
  obtain ⟨h1, h2, h3, h4, _⟩ := h
  unfold slot; omega
/-- How far a count may lie from where it was. -/
theorem putL_bd (l : List Tr) (hl : ∀ t ∈ l, t.Ok) (c : List Int) (hc : c.length = 256) (j : Nat) :
    c.getD j 0 - 1000000 * l.length ≤ (putL c l).getD j 0 ∧ (putL c l).getD j 0 ≤ c.getD j 0 + 1000000 * l.length := by
  induction l generalizing c with
  | nil => simp [putL]
  | cons t l ih =>
    have ht := hl t (by simp)
    obtain ⟨s1, s2⟩ := slot_lt ht
    have := ih (fun x hx => hl x (by simp [hx])) (putT c t) (by rw [putT_length, hc])
    have e : putL c (t :: l) = putL (putT c t) l := rfl
    rw [e]
    have e2 : (putT c t).getD j 0 = c.getD j 0 + (if j = slot t.src t.item then -t.cnt else 0) + (if j = slot t.dst t.item then t.cnt else 0) := by
      unfold putT
      rw [addAt_get _ _ _ _ (by rw [addAt_length]; omega), addAt_get _ _ _ _ (by omega)]
    have hn := slot_ne ht
    obtain ⟨_, _, _, _, k1, k2⟩ := ht
    simp only [List.length_cons]
    rw [e2] at this
    split at this <;> split at this <;> omega
/-- The sum of an item's counts over the places. -/
def totN (c : List Int) (i : Nat) : Nat → Int
  | 0 => 0
  | p + 1 => totN c i p + c.getD (p * 16 + i) 0
def tot (c : List Int) (i : Nat) : Int := totN c i 16
theorem totN_add (c : List Int) (k : Nat) (z : Int) (hk : k < c.length) (i : Nat) (hi : i < 16) (n : Nat) :
    totN (addAt c k z) i n = totN c i n + if k % 16 = i ∧ k / 16 < n then z else 0 := by
  induction n with
  | zero => simp [totN]
  | succ n ih =>
    rw [totN, totN, ih, addAt_get _ _ _ _ hk]
    by_cases h1 : k % 16 = i ∧ k / 16 < n
    · rw [if_pos h1, if_neg (by omega), if_pos (by omega)]; omega
    · rw [if_neg h1]
      by_cases h2 : n * 16 + i = k
      · rw [if_pos h2, if_pos (by omega)]; omega
      · rw [if_neg h2, if_neg (by omega)]; omega
theorem tot_put {c : List Int} {t : Tr} (ht : t.Ok) (hc : c.length = 256) (i : Nat) (hi : i < 16) : tot (putT c t) i = tot c i := by
  obtain ⟨s1, s2⟩ := slot_lt ht
  unfold tot putT
  rw [totN_add _ _ _ (by rw [addAt_length]; omega) _ hi, totN_add _ _ _ (by omega) _ hi]
  obtain ⟨h1, h2, h3, _⟩ := ht
  have a1 : slot t.src t.item % 16 = t.item.toNat ∧ slot t.src t.item / 16 < 16 := by unfold slot; omega
  have a2 : slot t.dst t.item % 16 = t.item.toNat ∧ slot t.dst t.item / 16 < 16 := by unfold slot; omega
  rw [a1.1, a2.1]
  by_cases e : t.item.toNat = i
  · rw [if_pos ⟨e, a1.2⟩, if_pos ⟨e, a2.2⟩]; omega
  · rw [if_neg (fun h => e h.1), if_neg (fun h => e h.1)]; omega
theorem tot_putL {l : List Tr} (hl : ∀ t ∈ l, t.Ok) {c : List Int} (hc : c.length = 256) (i : Nat) (hi : i < 16) : tot (putL c l) i = tot c i := by
  induction l generalizing c with
  | nil => rfl
  | cons t l ih =>
    have e : putL c (t :: l) = putL (putT c t) l := rfl
    rw [e, ih (fun x hx => hl x (by simp [hx])) (by rw [putT_length, hc]), tot_put (hl t (by simp)) hc i hi]
/-- What holds of a book's counts. -/
structure Cnts (c : List Int) : Prop where
  len : c.length = 256
  pos : ∀ k, k < 256 → 16 ≤ k → 0 ≤ c.getD k 0
  bd : ∀ k, k < 256 → -1000000000 ≤ c.getD k 0 ∧ c.getD k 0 ≤ 1000000000
  tot : ∀ i, i < 16 → tot c i = 0
theorem zeroC_get (k : Nat) : zeroC.getD k 0 = 0 := by
  unfold zeroC
  rw [List.getD_eq_getElem?_getD, List.getElem?_replicate]; split <;> rfl
theorem totN_zero (i n : Nat) : totN zeroC i n = 0 := by
  induction n with
  | zero => rfl
  | succ n ih => rw [totN, ih, zeroC_get]; rfl
theorem cnts_zero : Cnts zeroC :=
  ⟨List.length_replicate, fun k _ _ => by rw [zeroC_get]; exact Int.le_refl 0, fun k _ => by rw [zeroC_get]; decide, fun i _ => totN_zero i 16⟩
theorem Cnts.put {c : List Int} (h : Cnts c) {l : List Tr} (hl : PostOk c l) : Cnts (putL c l) :=
  ⟨by rw [putL_length, h.len], hl.2.1, hl.2.2, fun i hi => by rw [tot_putL hl.1.2.2 h.len i hi, h.tot i hi]⟩
theorem runF_cnts {ps : List (List Tr)} {c d : List Int} (hc : Cnts c) (h : runF c ps = some d) : Cnts d := by
  induction ps generalizing c with
  | nil => cases h; exact hc
  | cons l ps ih =>
    rw [runF] at h
    split at h
    · exact ih (hc.put ‹_›) h
    · cases h
theorem run_cnts {ps : List (List Tr)} {c : List Int} (h : run ps = some c) : Cnts c := runF_cnts cnts_zero h

/-- The bytes of a transfer, of a post, of a book. -/
def encT (t : Tr) : List UInt8 := UInt8.ofNat (t.item.toNat * 16 + t.src.toNat) :: UInt8.ofNat t.dst.toNat :: putN t.cnt.toNat 4
def encL (l : List Tr) : List UInt8 := l.flatMap encT
def encP (l : List Tr) : List UInt8 := UInt8.ofNat l.length :: encL l
def encB (ps : List (List Tr)) : List UInt8 := ps.flatMap encP
/-- The transfer of six bytes. -/
def decT (b : List UInt8) : Tr := ⟨((b.getD 0 0).toNat / 16 : Nat), ((b.getD 0 0).toNat % 16 : Nat), ((b.getD 1 0).toNat : Nat), (getN (b.drop 2) : Nat)⟩
theorem encT_length (t : Tr) : (encT t).length = 6 := by simp [encT, putN_length]
theorem encL_length (l : List Tr) : (encL l).length = 6 * l.length := by
  unfold encL
  induction l with
  | nil => rfl
  | cons t l ih => rw [List.flatMap_cons, List.length_append, ih, encT_length, List.length_cons]; omega
theorem encP_length (l : List Tr) : (encP l).length = 6 * l.length + 1 := by simp [encP, encL_length]
theorem encB_snoc (ps : List (List Tr)) (l : List Tr) : encB (ps ++ [l]) = encB ps ++ encP l := by simp [encB]
theorem encB_cons (ps : List (List Tr)) (l : List Tr) : encB (l :: ps) = encP l ++ encB ps := by simp [encB]
theorem u8_toNat {n : Nat} (h : n < 256) : (UInt8.ofNat n).toNat = n := by simp; omega
theorem decT_encT {t : Tr} (h : t.Ok) : decT (encT t) = t := by
  obtain ⟨⟨a1, a2⟩, ⟨b1, b2⟩, ⟨c1, c2⟩, _, d1, d2⟩ := h
  obtain ⟨i, s, d, n⟩ := t
  simp only at *
  unfold decT encT
  simp only [List.getD_cons_zero, List.getD_cons_succ, List.drop_succ_cons, List.drop_zero]
  rw [u8_toNat (show i.toNat * 16 + s.toNat < 256 by omega), u8_toNat (show d.toNat < 256 by omega), getN_put (show n.toNat < 256 ^ 4 by omega)]
  congr 1 <;> omega
/-- The k-th six bytes of a post are its k-th transfer. -/
theorem encL_chunk (l : List Tr) (k : Nat) (h : k < l.length) : ((encL l).drop (6 * k)).take 6 = encT (l.getD k ⟨0, 0, 0, 0⟩) := by
  induction l generalizing k with
  | nil => simp at h
  | cons t l ih =>
    have e : encL (t :: l) = encT t ++ encL l := by simp [encL]
    rw [e]
    cases k with
    | zero => rw [Nat.mul_zero, List.drop_zero, List.take_append_of_le_length (by rw [encT_length]; omega), List.take_of_length_le (by rw [encT_length]; omega)]; rfl
    | succ k =>
      rw [show 6 * (k + 1) = (encT t).length + 6 * k by rw [encT_length]; omega, ← List.drop_drop, List.drop_left, ih k (by simpa using h)]
      simp
theorem encP_head (l : List Tr) (h : l.length ≤ 16) (r : List UInt8) : (encP l ++ r).getD 0 0 = UInt8.ofNat l.length ∧ (UInt8.ofNat l.length).toNat = l.length ∧ (encP l ++ r).drop 1 = encL l ++ r := by
  refine ⟨rfl, u8_toNat (by omega), rfl⟩
theorem encB_bound {ps : List (List Tr)} (h : ∀ l ∈ ps, l.length ≤ 16) : (encB ps).length ≤ 97 * ps.length := by
  induction ps with
  | nil => simp [encB]
  | cons l ps ih =>
    have := h l (by simp)
    have := ih (fun x hx => h x (by simp [hx]))
    rw [encB_cons, List.length_append, encP_length, List.length_cons]; omega

end Go.Proofs.Ytcpefolhohakmaa
