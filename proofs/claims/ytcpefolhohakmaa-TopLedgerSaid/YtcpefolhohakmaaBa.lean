/- Plain: numbers as bytes, the checksum, frames, and what a cut row of frames reads as; no program in sight. -/
namespace Go.Proofs.Ytcpefolhohakmaa

/-- The bytes of a number, the highest first. -/
def putN (n : Nat) : Nat → List UInt8
  | 0 => []
  | s + 1 => UInt8.ofNat (n / 256 ^ s) :: putN n s
def getF (n : Nat) (c : UInt8) : Nat := n * 256 + c.toNat
/-- The number of bytes. -/
def getN (b : List UInt8) : Nat := b.foldl getF 0

theorem putN_length (n s : Nat) : (putN n s).length = s := by
  induction s with
  | zero => rfl
  | succ s ih => simp [putN, ih]
theorem foldl_getF (b : List UInt8) (n : Nat) : b.foldl getF n = n * 256 ^ b.length + getN b := by
  induction b generalizing n with
  | nil => simp [getN]
  | cons c b ih =>
    have h : getN (c :: b) = b.foldl getF (getF 0 c) := rfl
    rw [h, List.foldl_cons, ih, ih (getF 0 c)]
    simp only [getF, List.length_cons, Nat.pow_succ]
    rw [Nat.add_mul, Nat.zero_mul, Nat.zero_add, Nat.mul_assoc, Nat.mul_comm 256, Nat.add_assoc]
theorem getN_cons (c : UInt8) (b : List UInt8) : getN (c :: b) = c.toNat * 256 ^ b.length + getN b := by
  have h : getN (c :: b) = b.foldl getF (getF 0 c) := rfl
  rw [h, foldl_getF]; simp [getF]
theorem getN_snoc (b : List UInt8) (c : UInt8) : getN (b ++ [c]) = getN b * 256 + c.toNat := by
  unfold getN; rw [List.foldl_append]; rfl
theorem getN_lt (b : List UInt8) : getN b < 256 ^ b.length := by
  induction b with
  | nil => simp [getN]
  | cons c b ih =>
    rw [getN_cons, List.length_cons, Nat.pow_succ]
    have hc := c.toNat_lt
    have : c.toNat * 256 ^ b.length ≤ 255 * 256 ^ b.length := Nat.mul_le_mul_right _ (by omega)
    omega
theorem getN_putN (n s : Nat) : getN (putN n s) = n % 256 ^ s := by
  induction s with
  | zero => simp [putN, getN, Nat.mod_one]
  | succ s ih =>
    rw [putN, getN_cons, putN_length, ih, Nat.pow_succ]
    rw [show (UInt8.ofNat (n / 256 ^ s)).toNat = n / 256 ^ s % 256 from by simp]
    rw [Nat.mod_mul, Nat.add_comm, Nat.mul_comm]
theorem getN_put {n s : Nat} (h : n < 256 ^ s) : getN (putN n s) = n := by rw [getN_putN, Nat.mod_eq_of_lt h]
/-- A first part of bytes is not greater as a number. -/
theorem getN_take_le (b : List UInt8) (k : Nat) : getN (b.take k) ≤ getN b := by
  have h : getN b = getN (b.take k) * 256 ^ (b.drop k).length + getN (b.drop k) := by
    conv => lhs; rw [← List.take_append_drop k b]
    unfold getN
    rw [List.foldl_append, foldl_getF]; rfl
  rw [h]
  have := Nat.pow_pos (n := (b.drop k).length) (show 0 < 256 by decide)
  have := Nat.le_mul_of_pos_right (getN (b.take k)) this
  omega

/-- One bit of the checksum. -/
def crcBit (c : Nat) : Nat := if c % 2 = 1 then (c / 2) ^^^ 3988292384 else c / 2
def crcBits (c : Nat) : Nat → Nat
  | 0 => c
  | k + 1 => crcBit (crcBits c k)
def crcByte (c : Nat) (x : UInt8) : Nat := crcBits (c ^^^ x.toNat) 8
def crcR (p : List UInt8) : Nat := p.foldl crcByte 4294967295
/-- The checksum of bytes. -/
def crc (p : List UInt8) : Nat := 4294967295 - crcR p
theorem xor_lt32 {a b : Nat} (ha : a < 4294967296) (hb : b < 4294967296) : a ^^^ b < 4294967296 := Nat.xor_lt_two_pow (n := 32) ha hb
theorem crcBit_lt {c : Nat} (h : c < 4294967296) : crcBit c < 4294967296 := by
  unfold crcBit; split
  · exact xor_lt32 (by omega) (by decide)
  · omega
theorem crcBits_lt {c : Nat} (h : c < 4294967296) (k : Nat) : crcBits c k < 4294967296 := by
  induction k with
  | zero => exact h
  | succ k ih => exact crcBit_lt ih
theorem crcByte_lt {c : Nat} (x : UInt8) (h : c < 4294967296) : crcByte c x < 4294967296 :=
  crcBits_lt (xor_lt32 h (by have := x.toNat_lt; omega)) 8
theorem crcF_lt (p : List UInt8) {c : Nat} (h : c < 4294967296) : p.foldl crcByte c < 4294967296 := by
  induction p generalizing c with
  | nil => exact h
  | cons x p ih => exact ih (crcByte_lt x h)
theorem crcR_lt (p : List UInt8) : crcR p < 4294967296 := crcF_lt p (by decide)
theorem crc_lt (p : List UInt8) : crc p < 4294967296 := by unfold crc; omega
theorem crcR_snoc (p : List UInt8) (x : UInt8) : crcR (p ++ [x]) = crcByte (crcR p) x := by unfold crcR; rw [List.foldl_append]; rfl
theorem crc_a : putN (crc [97]) 4 = [232, 183, 190, 67] := by decide +kernel

/-- The frame of a payload. -/
def frm (p : List UInt8) : List UInt8 := putN p.length 4 ++ p ++ putN (crc p) 4
def frms (ps : List (List UInt8)) : List UInt8 := ps.flatMap frm
theorem frm_length (p : List UInt8) : (frm p).length = p.length + 8 := by
  unfold frm; simp only [List.length_append, putN_length]; omega
theorem frms_nil : frms [] = [] := rfl
theorem frms_cons (p : List UInt8) (ps : List (List UInt8)) : frms (p :: ps) = frm p ++ frms ps := by simp [frms]
theorem frms_append (a b : List (List UInt8)) : frms (a ++ b) = frms a ++ frms b := by simp [frms]
theorem frms_snoc (a : List (List UInt8)) (p : List UInt8) : frms (a ++ [p]) = frms a ++ frm p := by simp [frms]
/-- A payload that may be. -/
def PayOk (p : List UInt8) : Prop := p.length ≤ 65536
/-- What may stand behind whole frames: nothing, or a frame that is cut. -/
def Torn (t : List UInt8) : Prop := t = [] ∨ ∃ q m, PayOk q ∧ t = (frm q).take m ∧ m < (frm q).length
theorem torn_nil : Torn [] := .inl rfl

/-- What the loop of Frames meets at a torn rest. -/
theorem torn_stop {t : List UInt8} (h : Torn t) : t.length < 8 ∨ t.length < getN (t.take 4) + 8 := by
  rcases h with rfl | ⟨q, m, hq, rfl, hm⟩
  · left; decide
  · by_cases h8 : ((frm q).take m).length < 8
    · exact .inl h8
    · right
      have hl : ((frm q).take m).length = m := by rw [List.length_take]; omega
      rw [hl] at h8
      have h4 : ((frm q).take m).take 4 = putN q.length 4 := by
        rw [List.take_take, show min 4 m = 4 by omega]
        unfold frm
        rw [List.append_assoc, List.take_append_of_le_length (by rw [putN_length]; omega), List.take_of_length_le (by rw [putN_length]; omega)]
      rw [hl, h4, getN_put (by unfold PayOk at hq; omega)]
      rw [frm_length] at hm
      omega
theorem frm_take4 (p r : List UInt8) : (frm p ++ r).take 4 = putN p.length 4 := by
  unfold frm
  rw [List.append_assoc, List.append_assoc, List.take_append_of_le_length (by rw [putN_length]; omega), List.take_of_length_le (by rw [putN_length]; omega)]
theorem frm_get4 {p : List UInt8} (hp : PayOk p) (r : List UInt8) : getN ((frm p ++ r).take 4) = p.length := by
  rw [frm_take4, getN_put (by unfold PayOk at hp; omega)]
theorem frm_drop4 (p r : List UInt8) : (frm p ++ r).drop 4 = p ++ (putN (crc p) 4 ++ r) := by
  unfold frm
  rw [List.append_assoc, List.append_assoc, List.drop_append_of_le_length (by rw [putN_length]; omega), List.drop_of_length_le (by rw [putN_length]; omega)]
  simp
theorem frm_pay (p r : List UInt8) : ((frm p ++ r).drop 4).take p.length = p := by
  rw [frm_drop4, List.take_append_of_le_length (Nat.le_refl _), List.take_of_length_le (Nat.le_refl _)]
theorem frm_crc (p r : List UInt8) : ((frm p ++ r).drop (4 + p.length)).take 4 = putN (crc p) 4 := by
  rw [← List.drop_drop, frm_drop4, List.drop_append_of_le_length (Nat.le_refl _), List.drop_of_length_le (Nat.le_refl _), List.nil_append,
    List.take_append_of_le_length (by rw [putN_length]; omega), List.take_of_length_le (by rw [putN_length]; omega)]
theorem frm_rest (p r : List UInt8) : (frm p ++ r).drop (8 + p.length) = r := by
  rw [List.drop_append_of_le_length (by rw [frm_length]; omega), List.drop_of_length_le (by rw [frm_length]; omega)]; rfl

/-- Bytes that are the frames of ps and a rest that is no frame. -/
def Frd (b : List UInt8) (ps : List (List UInt8)) (t : List UInt8) : Prop := b = frms ps ++ t ∧ (∀ p ∈ ps, PayOk p) ∧ Torn t
/-- A first part of frames is frames and a rest. -/
theorem frd_take (ps : List (List UInt8)) (hp : ∀ p ∈ ps, PayOk p) (m : Nat) :
    ∃ k t, k ≤ ps.length ∧ Frd ((frms ps).take m) (ps.take k) t ∧ ((frms ps).length ≤ m → k = ps.length ∧ t = []) ∧ (m < (frms ps).length → k < ps.length) := by
  induction ps generalizing m with
  | nil => exact ⟨0, [], Nat.le_refl _, ⟨by simp [frms], by simp, torn_nil⟩, fun _ => ⟨rfl, rfl⟩, fun h => absurd h (by simp [frms])⟩
  | cons p ps ih =>
    have h1 := hp p (by simp)
    by_cases hm : m < (frm p).length
    · refine ⟨0, (frm p).take m, Nat.zero_le _, ⟨?_, by simp, .inr ⟨p, m, h1, rfl, hm⟩⟩, ?_, fun _ => by simp⟩
      · rw [frms_cons, List.take_append_of_le_length (by omega)]; rfl
      · intro h; rw [frms_cons, List.length_append] at h; omega
    · obtain ⟨k, t, hk, ⟨e1, e2, e3⟩, e4, e5⟩ := ih (fun q hq => hp q (by simp [hq])) (m - (frm p).length)
      refine ⟨k + 1, t, by simpa using hk, ⟨?_, ?_, e3⟩, ?_, ?_⟩
      · rw [frms_cons, List.take_append, List.take_of_length_le (by omega), e1, List.take_succ_cons, frms_cons, List.append_assoc]
      · intro q hq
        rw [List.take_succ_cons] at hq
        rcases List.mem_cons.1 hq with rfl | hq
        · exact h1
        · exact e2 q hq
      · intro h
        rw [frms_cons, List.length_append] at h
        obtain ⟨a, b⟩ := e4 (by omega)
        exact ⟨by simp [a], b⟩
      · intro h
        rw [frms_cons, List.length_append] at h
        have := e5 (by omega)
        simpa using this

end Go.Proofs.Ytcpefolhohakmaa
