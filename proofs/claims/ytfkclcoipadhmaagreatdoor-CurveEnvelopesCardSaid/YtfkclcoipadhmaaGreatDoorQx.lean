/- Several of my texts in one: Qa, Qb, Qc, Qd, Qe, Qf, Qg, Qh, Qi, Fa, Fb, Fc. -/
import Derived.Test.YtfkclcoipadhmaaGreatDoorNx
import Derived.Deep.RegionHeld3
import Derived.Deep.RegionWith
/- Plain numbers: rationals by sign, numerator and denominator. -/
namespace Go.Proofs.YtfkclcoipadhmaaGreatDoor

/-- A whole number by its sign and its absolute value. -/
def sgn (neg : Bool) (n : Nat) : Int := if neg then -(n : Int) else n
/-- The rational number of a sign, a numerator and a denominator. -/
def qmk (neg : Bool) (n d : Nat) : Rat := mkRat (sgn neg n) d

theorem sgn_abs (neg : Bool) (n : Nat) : (sgn neg n).natAbs = n := by cases neg <;> simp [sgn]
theorem sgn_self (z : Int) : sgn (decide (z < 0)) z.natAbs = z := by
  unfold sgn
  by_cases h : z < 0
  · rw [decide_eq_true h, if_pos rfl]; omega
  · rw [decide_eq_false h]; simp; omega
theorem qmk_self (q : Rat) : qmk (decide (q.num < 0)) q.num.natAbs q.den = q := by
  unfold qmk; rw [sgn_self]; exact Rat.mkRat_self q
theorem qmk_zero (neg : Bool) (d : Nat) : qmk neg 0 d = 0 := by
  unfold qmk sgn; cases neg <;> simp [Rat.zero_mkRat]
theorem gcd_dvd_sgn (neg : Bool) (n d : Nat) : ((Nat.gcd d n : Nat) : Int) ∣ sgn neg n := by
  rw [Int.ofNat_dvd_left, sgn_abs]; exact Nat.gcd_dvd_right _ _
theorem qmk_abs (neg : Bool) {n d : Nat} (hd : d ≠ 0) : (qmk neg n d).num.natAbs = n / Nat.gcd n d := by
  unfold qmk
  rw [Rat.num_mkRat, if_neg hd, sgn_abs, Int.natAbs_ediv_of_dvd (gcd_dvd_sgn neg n d), sgn_abs, Int.natAbs_natCast, Nat.gcd_comm]
theorem qmk_den (neg : Bool) {n d : Nat} (hd : d ≠ 0) : (qmk neg n d).den = d / Nat.gcd n d := by
  unfold qmk
  rw [Rat.den_mkRat, if_neg hd, sgn_abs, Nat.gcd_comm]
theorem qmk_neg (neg : Bool) {n d : Nat} (hn : n ≠ 0) (hd : d ≠ 0) : decide ((qmk neg n d).num < 0) = neg := by
  have hg : 0 < Nat.gcd d n := Nat.gcd_pos_of_pos_right _ (by omega)
  have hle : Nat.gcd d n ≤ n := Nat.le_of_dvd (by omega) (Nat.gcd_dvd_right _ _)
  unfold qmk
  rw [Rat.num_mkRat, if_neg hd, sgn_abs]
  have hq : 0 < n / Nat.gcd d n := Nat.div_pos hle hg
  have hq2 : (0 : Int) < (n : Int) / (Nat.gcd d n : Nat) := by rw [← Int.natCast_ediv]; exact Int.natCast_pos.2 hq
  cases neg
  · simp only [sgn, Bool.false_eq_true, if_false, decide_eq_false_iff_not]
    omega
  · simp only [sgn, if_true, decide_eq_true_eq]
    rw [Int.neg_ediv_of_dvd (Int.natCast_dvd_natCast.2 (Nat.gcd_dvd_right _ _))]; omega
theorem sgn_mul (a b : Bool) (m n : Nat) : sgn (a != b) (m * n) = sgn a m * sgn b n := by
  cases a <;> cases b <;> simp [sgn, Int.neg_mul, Int.mul_neg]
theorem sgn_add (a : Bool) (m n : Nat) : sgn a (m + n) = sgn a m + sgn a n := by
  cases a <;> simp [sgn] <;> omega
theorem sgn_sub (a : Bool) {m n : Nat} (h : n ≤ m) : sgn a (m - n) = sgn a m + sgn (!a) n := by
  cases a <;> simp [sgn] <;> omega
theorem sgn_natMul (a : Bool) (m n : Nat) : sgn a (m * n) = sgn a m * (n : Int) := by
  cases a <;> simp [sgn, Int.neg_mul]
theorem add_same {a b : Rat} (h : decide (a.num < 0) = decide (b.num < 0)) :
    qmk (decide (a.num < 0)) (a.num.natAbs * b.den + b.num.natAbs * a.den) (a.den * b.den) = a + b := by
  rw [Rat.add_def', qmk, sgn_add, sgn_natMul, sgn_natMul, sgn_self]
  rw [h, sgn_self]
theorem add_diff {a b : Rat} (h : decide (a.num < 0) ≠ decide (b.num < 0)) (hle : b.num.natAbs * a.den ≤ a.num.natAbs * b.den) :
    qmk (decide (a.num < 0)) (a.num.natAbs * b.den - b.num.natAbs * a.den) (a.den * b.den) = a + b := by
  have h2 : (!decide (a.num < 0)) = decide (b.num < 0) := by
    cases ha : decide (a.num < 0) <;> cases hb : decide (b.num < 0) <;> simp_all
  rw [Rat.add_def', qmk, sgn_sub _ hle, sgn_natMul, sgn_natMul, sgn_self, h2, sgn_self]
theorem add_diff' {a b : Rat} (h : decide (a.num < 0) ≠ decide (b.num < 0)) (hle : a.num.natAbs * b.den ≤ b.num.natAbs * a.den) :
    qmk (decide (b.num < 0)) (b.num.natAbs * a.den - a.num.natAbs * b.den) (a.den * b.den) = a + b := by
  rw [Rat.add_comm, Nat.mul_comm a.den b.den]; exact add_diff (Ne.symm h) hle
theorem mul_parts (a b : Rat) : qmk (decide (a.num < 0) != decide (b.num < 0)) (a.num.natAbs * b.num.natAbs) (a.den * b.den) = a * b := by
  rw [Rat.mul_def', qmk, sgn_mul, sgn_self, sgn_self]
theorem qmk_div (neg : Bool) (n d : Nat) : qmk neg n d = (sgn neg n : Rat) / (d : Rat) := by unfold qmk; rw [Rat.mkRat_eq_div]
theorem rat_parts (a : Rat) : a = (a.num : Rat) / (a.den : Rat) := by rw [← Rat.mkRat_eq_div, Rat.mkRat_self]
theorem div_parts (a b : Rat) (hb : b ≠ 0) : qmk (decide (a.num < 0) != decide (b.num < 0)) (a.num.natAbs * b.den) (a.den * b.num.natAbs) = a / b := by
  have hb0 : b.num ≠ 0 := fun h => hb (Rat.num_eq_zero.1 h)
  have e1 : ∃ σ : Int, σ ≠ 0 ∧ sgn (decide (b.num < 0)) b.den = σ * b.den ∧ (b.num.natAbs : Int) = σ * b.num := by
    by_cases h : b.num < 0
    · exact ⟨-1, by decide, by rw [decide_eq_true h]; simp [sgn], by omega⟩
    · exact ⟨1, by decide, by rw [decide_eq_false h]; simp [sgn], by omega⟩
  obtain ⟨σ, h0, h1, h2⟩ := e1
  rw [qmk_div, sgn_mul, sgn_self, h1, Rat.natCast_mul, ← Rat.intCast_natCast b.num.natAbs, h2, Rat.intCast_mul, Rat.intCast_mul, Rat.intCast_mul]
  conv => rhs; rw [rat_parts a, rat_parts b]
  have d1 : (a.den : Rat) ≠ 0 := by simpa using a.den_nz
  have d2 : (b.den : Rat) ≠ 0 := by simpa using b.den_nz
  have d3 : (b.num : Rat) ≠ 0 := by simpa using hb0
  have d4 : (σ : Rat) ≠ 0 := by simpa using h0
  rw [Rat.intCast_natCast]
  generalize (a.den : Rat) = x at *
  generalize (b.den : Rat) = y at *
  generalize (a.num : Rat) = z at *
  generalize (b.num : Rat) = t at *
  generalize (σ : Rat) = s at *
  grind

end Go.Proofs.YtfkclcoipadhmaaGreatDoor

/- Walks of trankref01's rational numbers: made, Int, Minus. -/
namespace Go.Proofs.YtfkclcoipadhmaaGreatDoor
open Go.RowKit

/-- A rational number, its digits in blocks from lo on. -/
def QF (lo : Nat) (w : World) (v : Value) (q : Rat) : Prop :=
  ∃ n d, v = .agg #[.bool (decide (q.num < 0)), n, d] ∧ NatF lo w n q.num.natAbs ∧ NatF lo w d q.den
/-- A rational number. -/
abbrev QR (w : World) (v : Value) (q : Rat) : Prop := QF 0 w v q
/-- Its numerator and denominator have at most k digits. -/
def QS (k : Nat) (q : Rat) : Prop := (digs q.num.natAbs).length ≤ k ∧ (digs q.den).length ≤ k
theorem QF.below {lo : Nat} {w w' : World} {v : Value} {q : Rat} (h : QF lo w v q) (hb : Below w.heap.size w w') : QF lo w' v q := by
  obtain ⟨n, d, h1, h2, h3⟩ := h
  exact ⟨n, d, h1, h2.below hb, h3.below hb⟩
theorem QF.mono {lo lo' : Nat} {w : World} {v : Value} {q : Rat} (h : QF lo w v q) (hl : lo' ≤ lo) : QF lo' w v q := by
  obtain ⟨n, d, h1, h2, h3⟩ := h
  exact ⟨n, d, h1, h2.mono hl, h3.mono hl⟩
theorem QF.rat {lo : Nat} {w : World} {v : Value} {q : Rat} (h : QF lo w v q) : QR w v q := h.mono (Nat.zero_le _)
theorem QF.setCell {lo : Nat} {w : World} {v : Value} {q : Rat} (h : QF lo w v q) {p : Addr} (hp : p.block < lo) (u : Value) : QF lo (w.setCell p u) v q := by
  obtain ⟨n, d, h1, h2, h3⟩ := h
  exact ⟨n, d, h1, h2.setCell hp u, h3.setCell hp u⟩
theorem QF.drew {lo : Nat} {w : World} {v : Value} {q : Rat} (h : QF lo w v q) : QF lo w.drew v q := h.below (Below.refl _ _).drew
theorem QF.shape {lo : Nat} {w : World} {v : Value} {q : Rat} (h : QF lo w v q) : ∃ nb no nn nc do_ dn dc, v = .agg #[.bool nb, .slice no nn nc, .slice do_ dn dc] := by
  obtain ⟨n, d, rfl, ⟨_, _, rfl, _⟩, ⟨_, _, rfl, _⟩⟩ := h
  exact ⟨_, _, _, _, _, _, _, rfl⟩
theorem QS.mono {k k' : Nat} {q : Rat} (h : QS k q) (hk : k ≤ k') : QS k' q := ⟨Nat.le_trans h.1 hk, Nat.le_trans h.2 hk⟩

theorem made_rep {lo : Nat} {w : World} {neg : Bool} {n d : Nat} {v1 v2 : Value} (hn : n ≠ 0) (hd : d ≠ 0) (h1 : NatF lo w v1 (n / Nat.gcd n d)) (h2 : NatF lo w v2 (d / Nat.gcd n d)) :
    QF lo w (.agg #[.bool neg, v1, v2]) (qmk neg n d) :=
  ⟨v1, v2, by rw [qmk_neg neg hn hd], by rw [qmk_abs neg hd]; exact h1, by rw [qmk_den neg hd]; exact h2⟩
theorem made_rep0 {lo : Nat} {w : World} {neg : Bool} {d : Nat} {v1 v2 : Value} (h1 : NatF lo w v1 0) (h2 : NatF lo w v2 1) : QF lo w (.agg #[.bool false, v1, v2]) (qmk neg 0 d) := by
  rw [qmk_zero]
  exact ⟨v1, v2, rfl, h1, h2⟩
theorem DsR.setCell {lo : Nat} {w : World} {v : Value} {ds : List Nat} (h : DsR lo w v ds) {p : Addr} (hp : p.block < lo) (u : Value) : DsR lo (w.setCell p u) v ds := SlR.setCell h hp u

set_option maxHeartbeats 1000000 in
theorem made_any (neg : Bool) (n d : Nat) (u v : Value) (w : World) (hu : NatR w u n) (hv : NatR w v d) (hd : d ≠ 0) (ln : (digs n).length ≤ 1073741824) (ld : (digs d).length ≤ 1073741824) :
    Calls Tryz.prog 115 #[.bool neg, u, v] w fun e w' => ∃ v', e = .returned v' ∧ QF w.heap.size w' v' (qmk neg n d) ∧ Below w.heap.size w w' := by
  have hu0 := hu
  obtain ⟨ao, cap, rfl, hcap, hmax, hc⟩ := hu
  by_cases hn : n = 0
  · subst hn
    rw [digs_zero] at *
    go_enter Tryz.func115, Tryz.ntmps115
    go_wp2
    refine bodyPost_ret (v := .agg #[.bool false, .slice none 0 0, .slice (some ⟨w.heap.size + 1, 0, none⟩) 1 1]) (by simp [results, Tryz.results115, go_sem]) rfl ⟨_, rfl, made_rep0 ?_ ?_, ?_⟩
    · unfold NatF DsR; rw [digs_zero]; exact SlR.nil _ _
    · have := (natR_one (w.alloc (.cells #[.bool false, .slice none 0 0, .slice (some ⟨w.heap.size + 1, 0, none⟩) 1 1] 86)) 126).mono (lo' := w.heap.size) (by simp)
      simpa using this
    · exact ((Below.refl _ _).alloc (Nat.le_refl _) _).alloc (by simp) _
  · have hpos : 0 < (digs n).length := by have := @digs_len_zero n; omega
    have hg : 0 < Nat.gcd n d := Nat.gcd_pos_of_pos_left _ (by omega)
    have lg : (digs (Nat.gcd n d)).length ≤ 1073741824 := len_le_of_le (Nat.le_of_dvd (by omega) (Nat.gcd_dvd_left n d)) ln
    go_enter Tryz.func115, Tryz.ntmps115
    go_wp2_with fail
    have hb0 : Below w.heap.size w (w.alloc (.cells #[.bool false, .slice none 0 0, .slice none 0 0] 86)) := (Below.refl _ _).alloc (Nat.le_refl _) _
    have hk0 := Blk.new w #[.bool false, .slice none 0 0, .slice none 0 0] 86
    obtain ⟨w0, hw0⟩ : ∃ w0, w.alloc (.cells #[.bool false, .slice none 0 0, .slice none 0 0] 86) = w0 := ⟨_, rfl⟩
    rw [hw0] at hb0 hk0 ⊢
    clear hw0
    refine (divisor_any n d _ _ _ (hu0.below hb0) (hv.below hb0) ln ld).mono ?_
    rintro e w1 ⟨v1, rfl, hv1, hb1⟩
    have hb01 : Below w.heap.size w w1 := hb0.trans (hb1.mono hb0.size)
    go_wp2_with fail
    refine (divided_any n (Nat.gcd n d) _ _ _ (hu0.below hb01) hv1 hg ln lg).mono ?_
    rintro e w2 ⟨v2, v3, rfl, hv2, _, hb2⟩
    have hb02 : Below w.heap.size w w2 := hb01.trans (hb2.mono hb01.size)
    go_wp2_with fail
    refine (divided_any d (Nat.gcd n d) _ _ _ (hv.below hb02) (hv1.below hb2) hg ld lg).mono ?_
    rintro e w3 ⟨v4, v5, rfl, hv4, _, hb3⟩
    have hb03 : Below w.heap.size w w3 := hb02.trans (hb3.mono hb02.size)
    have hk3 := ((hk0.below hb1).below hb2).below hb3
    have f0 := hk3.frozen
    have c0 := hk3.cell 0
    have c1 := hk3.cell 1
    have c2 := hk3.cell 2
    have hv2' := (hv2.mono (lo' := w.heap.size + 1) (Nat.le_trans hk0.lt hb1.size)).below hb3
    have hv4' := hv4.mono (lo' := w.heap.size + 1) (Nat.le_trans hk0.lt (Nat.le_trans hb1.size hb2.size))
    obtain ⟨o2, cp2, rfl, _⟩ := hv2
    obtain ⟨o4, cp4, rfl, _⟩ := hv4
    go_wp2
    refine bodyPost_ret (v := .agg #[.bool neg, .slice o2 (digs (n / n.gcd d)).length cp2, .slice o4 (digs (d / n.gcd d)).length cp4]) ?_ rfl ⟨_, rfl, made_rep hn hd ((((hv2'.setCell (Nat.lt_succ_self _) _).setCell (Nat.lt_succ_self _) _).setCell (Nat.lt_succ_self _) _).mono (Nat.le_succ _)) ((((hv4'.setCell (Nat.lt_succ_self _) _).setCell (Nat.lt_succ_self _) _).setCell (Nat.lt_succ_self _) _).mono (Nat.le_succ _)), ((hb03.setCell (Nat.le_refl _) _).setCell (Nat.le_refl _) _).setCell (Nat.le_refl _) _⟩
    simp [results, Tryz.results115, go_sem, c0, c1, c2]

end Go.Proofs.YtfkclcoipadhmaaGreatDoor

/- Walks of trankref01's rational numbers: Int, Minus, Sign. -/
namespace Go.Proofs.YtfkclcoipadhmaaGreatDoor
open Go.RowKit

theorem qmk_int (z : Int) (neg : Bool) (h : sgn neg z.natAbs = z) : qmk neg z.natAbs 1 = (z : Rat) := by
  unfold qmk; rw [h, Rat.mkRat_one]
theorem int_size {z : Int} (h1 : -9223372036854775808 ≤ z) (h2 : z ≤ 9223372036854775807) : QS 2 (z : Rat) :=
  ⟨digs_len_two (by rw [Rat.num_intCast]; omega), digs_len_two (by rw [Rat.den_intCast]; omega)⟩
theorem len_one : (digs 1).length ≤ 1073741824 := Nat.le_trans (digs_len_small (by decide)) (by decide)
theorem sgn_neg' {z : Int} (h : z < 0) : sgn true z.natAbs = z := by simp [sgn]; omega
theorem sgn_pos' {z : Int} (h : 0 ≤ z) : sgn false z.natAbs = z := by simp [sgn]; omega

set_option maxHeartbeats 1000000 in
theorem Int_any (z : Int) (w : World) (h1 : -9223372036854775808 ≤ z) (h2 : z ≤ 9223372036854775807) :
    Calls Tryz.prog 120 #[.int .i64 z] w fun e w' => ∃ v', e = .returned v' ∧ QF w.heap.size w' v' (z : Rat) ∧ Below w.heap.size w w' := by
  have hlen : (digs z.natAbs).length ≤ 1073741824 := Nat.le_trans (digs_len_two (by omega)) (by decide)
  by_cases hz : z < 0
  · go_enter Tryz.func120, Tryz.ntmps120
    go_wp2_with fail
    have hb0 : Below w.heap.size w (w.alloc (.cells #[.bool false, .slice none 0 0, .slice none 0 0] 86)) := (Below.refl _ _).alloc (Nat.le_refl _) _
    have hk0 := Blk.new w #[.bool false, .slice none 0 0, .slice none 0 0] 86
    obtain ⟨w0, hw0⟩ : ∃ w0, w.alloc (.cells #[.bool false, .slice none 0 0, .slice none 0 0] 86) = w0 := ⟨_, rfl⟩
    rw [hw0] at hb0 hk0 ⊢
    clear hw0
    refine (natural_z z.natAbs _ _ (by omega) (by omega)).mono ?_
    rintro e w1 ⟨v1, rfl, hv1, hb1⟩
    go_wp2_with fail
    refine (made_any true z.natAbs 1 _ _ _ (hv1.below ((Below.refl _ _).alloc (Nat.le_refl _) _)).nat (natR_one _ _).nat (by decide) hlen len_one).mono ?_
    rintro e w2 ⟨v2, rfl, hv2, hb2⟩
    have hb12 : Below w1.heap.size w1 w2 := ((Below.refl _ _).alloc (Nat.le_refl _) _).trans (hb2.mono (by simp))
    have hb02 : Below w.heap.size w w2 := (hb0.trans (hb1.mono hb0.size)).trans (hb12.mono (Nat.le_trans hb0.size hb1.size))
    have hk2 := (hk0.below hb1).below hb12
    have f0 := hk2.frozen
    have c0 := hk2.cell 0
    have c1 := hk2.cell 1
    have c2 := hk2.cell 2
    rw [qmk_int z true (sgn_neg' hz)] at hv2
    have hv2' := hv2.mono (lo' := w.heap.size + 1) (by have := hk0.lt; have := hb1.size; simp; omega)
    obtain ⟨nb, no, nn, nc, do_, dn, dc, rfl⟩ := hv2.shape
    go_wp2
    refine bodyPost_ret (v := .agg #[.bool nb, .slice no nn nc, .slice do_ dn dc]) ?_ rfl ⟨_, rfl, (((hv2'.setCell (Nat.lt_succ_self _) _).setCell (Nat.lt_succ_self _) _).setCell (Nat.lt_succ_self _) _).mono (Nat.le_succ _), ((hb02.setCell (Nat.le_refl _) _).setCell (Nat.le_refl _) _).setCell (Nat.le_refl _) _⟩
    simp [results, Tryz.results120, go_sem, c0, c1, c2]
  · go_enter Tryz.func120, Tryz.ntmps120
    go_wp2_with fail
    have hb0 : Below w.heap.size w (w.alloc (.cells #[.bool false, .slice none 0 0, .slice none 0 0] 86)) := (Below.refl _ _).alloc (Nat.le_refl _) _
    have hk0 := Blk.new w #[.bool false, .slice none 0 0, .slice none 0 0] 86
    obtain ⟨w0, hw0⟩ : ∃ w0, w.alloc (.cells #[.bool false, .slice none 0 0, .slice none 0 0] 86) = w0 := ⟨_, rfl⟩
    rw [hw0] at hb0 hk0 ⊢
    clear hw0
    refine (natural_z z.natAbs _ _ (by omega) (by omega)).mono ?_
    rintro e w1 ⟨v1, rfl, hv1, hb1⟩
    go_wp2_with fail
    refine (made_any false z.natAbs 1 _ _ _ (hv1.below ((Below.refl _ _).alloc (Nat.le_refl _) _)).nat (natR_one _ _).nat (by decide) hlen len_one).mono ?_
    rintro e w2 ⟨v2, rfl, hv2, hb2⟩
    have hb12 : Below w1.heap.size w1 w2 := ((Below.refl _ _).alloc (Nat.le_refl _) _).trans (hb2.mono (by simp))
    have hb02 : Below w.heap.size w w2 := (hb0.trans (hb1.mono hb0.size)).trans (hb12.mono (Nat.le_trans hb0.size hb1.size))
    have hk2 := (hk0.below hb1).below hb12
    have f0 := hk2.frozen
    have c0 := hk2.cell 0
    have c1 := hk2.cell 1
    have c2 := hk2.cell 2
    rw [qmk_int z false (sgn_pos' hz)] at hv2
    have hv2' := hv2.mono (lo' := w.heap.size + 1) (by have := hk0.lt; have := hb1.size; simp; omega)
    obtain ⟨nb, no, nn, nc, do_, dn, dc, rfl⟩ := hv2.shape
    go_wp2
    refine bodyPost_ret (v := .agg #[.bool nb, .slice no nn nc, .slice do_ dn dc]) ?_ rfl ⟨_, rfl, (((hv2'.setCell (Nat.lt_succ_self _) _).setCell (Nat.lt_succ_self _) _).setCell (Nat.lt_succ_self _) _).mono (Nat.le_succ _), ((hb02.setCell (Nat.le_refl _) _).setCell (Nat.le_refl _) _).setCell (Nat.le_refl _) _⟩
    simp [results, Tryz.results120, go_sem, c0, c1, c2]

theorem neg_rep {lo : Nat} {w : World} {q : Rat} {n d : Value} (h0 : q.num ≠ 0) (h1 : NatF lo w n q.num.natAbs) (h2 : NatF lo w d q.den) : QF lo w (.agg #[.bool (!decide (q.num < 0)), n, d]) (-q) := by
  refine ⟨n, d, ?_, by rw [Rat.neg_num, Int.natAbs_neg]; exact h1, by rw [Rat.neg_den]; exact h2⟩
  have : (!decide (q.num < 0)) = decide ((-q).num < 0) := by
    rw [Rat.neg_num]
    by_cases h : q.num < 0
    · rw [decide_eq_true h, decide_eq_false (by omega)]; rfl
    · rw [decide_eq_false h, decide_eq_true (by omega)]; rfl
  rw [this]
theorem neg_zero_rat {q : Rat} (h : q.num = 0) : -q = q := by rw [Rat.num_eq_zero.1 h]; rfl

set_option maxHeartbeats 1000000 in
theorem Minus_any (lo : Nat) (q : Rat) (v : Value) (w : World) (h : QF lo w v q) :
    Calls Tryz.prog 138 #[v] w fun e w' => ∃ v', e = .returned v' ∧ QF lo w' v' (-q) ∧ Below w.heap.size w w' := by
  obtain ⟨n, d, rfl, hn, hd⟩ := h
  have hn0 := hn
  have hd0 := hd
  obtain ⟨no, nc, rfl, _⟩ := hn
  obtain ⟨do_, dc, rfl, _⟩ := hd
  obtain ⟨nb, hnb⟩ : ∃ nb, decide (q.num < 0) = nb := ⟨_, rfl⟩
  rw [hnb]
  have HNB := hid hnb
  clear hnb
  by_cases h0 : q.num = 0
  · have hl : (digs q.num.natAbs).length = 0 := by rw [digs_len_zero]; omega
    rw [hl] at hn0 ⊢
    have H0 := hid h0
    clear h0 hl
    go_enter Tryz.func138, Tryz.ntmps138
    go_wp2
    have hB : ∀ o1 o2, Below w.heap.size w ((w.alloc o1).alloc o2) := fun o1 o2 => ((Below.refl _ _).alloc (Nat.le_refl _) _).alloc (by simp) _
    refine bodyPost_ret (v := .agg #[.bool nb, .slice no 0 nc, .slice do_ (digs q.den).length dc]) ?_ rfl ⟨_, rfl, ?_, hB _ _⟩
    · simp [results, Tryz.results138, go_sem]
    · rw [neg_zero_rat H0.out, ← HNB.out]
      exact ⟨_, _, rfl, hn0.below (hB _ _), hd0.below (hB _ _)⟩
  · have hl : 0 < (digs q.num.natAbs).length := by have := @digs_len_zero q.num.natAbs; omega
    obtain ⟨k, hk⟩ : ∃ k, (digs q.num.natAbs).length = k := ⟨_, rfl⟩
    rw [hk] at hl hn0 ⊢
    have H0 := hid h0
    clear h0 hk
    go_enter Tryz.func138, Tryz.ntmps138
    go_wp2
    have hB : ∀ o1 o2, Below w.heap.size w ((w.alloc o1).alloc o2) := fun o1 o2 => ((Below.refl _ _).alloc (Nat.le_refl _) _).alloc (by simp) _
    refine bodyPost_ret (v := .agg #[.bool (!nb), .slice no k nc, .slice do_ (digs q.den).length dc]) ?_ rfl ⟨_, rfl, ?_, hB _ _⟩
    · simp [results, Tryz.results138, go_sem]
    · rw [← HNB.out]
      exact neg_rep H0.out (hn0.below (hB _ _)) (hd0.below (hB _ _))

/-- -1, 0 or 1. -/
def sgnQ (q : Rat) : Int := if q < 0 then -1 else if q = 0 then 0 else 1
theorem num_neg {q : Rat} : q.num < 0 ↔ q < 0 := by rw [Rat.lt_iff]; simp

set_option maxHeartbeats 1000000 in
theorem Sign_any (q : Rat) (v : Value) (w : World) (h : QR w v q) :
    Calls Tryz.prog 123 #[v] w fun e w' => e = .returned (.int .i64 (sgnQ q)) ∧ Below w.heap.size w w' := by
  obtain ⟨n, d, rfl, hn, hd⟩ := h
  obtain ⟨no, nc, rfl, _⟩ := hn
  obtain ⟨do_, dc, rfl, _⟩ := hd
  by_cases h0 : q.num = 0
  · have hl : (digs q.num.natAbs).length = 0 := by rw [digs_len_zero]; omega
    rw [hl]
    have hs : sgnQ q = 0 := by rw [Rat.num_eq_zero.1 h0]; rfl
    rw [hs]
    clear hl h0 hs
    generalize decide (q.num < 0) = nb
    go_enter Tryz.func123, Tryz.ntmps123
    go_wp2
    go_ret
    exact ⟨rfl, (Below.refl _ _).alloc (Nat.le_refl _) _⟩
  · have hl : 0 < (digs q.num.natAbs).length := by have := @digs_len_zero q.num.natAbs; omega
    obtain ⟨k, hk⟩ : ∃ k, (digs q.num.natAbs).length = k := ⟨_, rfl⟩
    rw [hk] at hl ⊢
    clear hk
    by_cases hq : q.num < 0
    · have hs : sgnQ q = -1 := by unfold sgnQ; rw [if_pos (num_neg.1 hq)]
      rw [hs, decide_eq_true hq]
      clear hs hq h0
      go_enter Tryz.func123, Tryz.ntmps123
      go_wp2
      go_ret
      exact ⟨rfl, (Below.refl _ _).alloc (Nat.le_refl _) _⟩
    · have hs : sgnQ q = 1 := by unfold sgnQ; rw [if_neg (fun h => hq (num_neg.2 h)), if_neg (fun h => h0 (Rat.num_eq_zero.2 h))]
      rw [hs, decide_eq_false hq]
      clear hs hq h0
      go_enter Tryz.func123, Tryz.ntmps123
      go_wp2
      go_ret
      exact ⟨rfl, (Below.refl _ _).alloc (Nat.le_refl _) _⟩

end Go.Proofs.YtfkclcoipadhmaaGreatDoor

/- Walks of trankref01's rational numbers: Times. -/
namespace Go.Proofs.YtfkclcoipadhmaaGreatDoor
open Go.RowKit

/-- Two boxed structs of three cells. -/
theorem boxes_keep {W w' : World} {b0 b1 : Nat} {x0 x1 x2 y0 y1 y2 : Value} {s t : TypeId} (h0 : Blk W b0 #[x0, x1, x2] s) (h1 : Blk W b1 #[y0, y1, y2] t) (hb : Below W.heap.size W w') :
    w'.cell? ⟨b0, 0, none⟩ = some x0 ∧ w'.cell? ⟨b0, 1, none⟩ = some x1 ∧ w'.cell? ⟨b0, 2, none⟩ = some x2 ∧
    w'.cell? ⟨b1, 0, none⟩ = some y0 ∧ w'.cell? ⟨b1, 1, none⟩ = some y1 ∧ w'.cell? ⟨b1, 2, none⟩ = some y2 :=
  ⟨(h0.below hb).cell 0, (h0.below hb).cell 1, (h0.below hb).cell 2, (h1.below hb).cell 0, (h1.below hb).cell 1, (h1.below hb).cell 2⟩

theorem boxes_keep2 {W w' : World} {B b0 b1 : Nat} {x0 x1 x2 y0 y1 y2 : Value} {s t : TypeId} (h0 : Blk W b0 #[x0, x1, x2] s) (h1 : Blk W b1 #[y0, y1, y2] t) (hb : Below B W w') (l0 : b0 < B) (l1 : b1 < B) :
    w'.cell? ⟨b0, 0, none⟩ = some x0 ∧ w'.cell? ⟨b0, 1, none⟩ = some x1 ∧ w'.cell? ⟨b0, 2, none⟩ = some x2 ∧
    w'.cell? ⟨b1, 0, none⟩ = some y0 ∧ w'.cell? ⟨b1, 1, none⟩ = some y1 ∧ w'.cell? ⟨b1, 2, none⟩ = some y2 :=
  ⟨(h0.below' hb l0).cell 0, (h0.below' hb l0).cell 1, (h0.below' hb l0).cell 2, (h1.below' hb l1).cell 0, (h1.below' hb l1).cell 1, (h1.below' hb l1).cell 2⟩
theorem three_new (w : World) (a b c : Array Value) (s t u : TypeId) :
    ∃ W, ((w.alloc (.cells a s)).alloc (.cells b t)).alloc (.cells c u) = W ∧ Blk W w.heap.size a s ∧ Blk W (w.heap.size + 1) b t ∧ Blk W (w.heap.size + 1 + 1) c u ∧ Below w.heap.size w W ∧ W.heap.size = w.heap.size + 1 + 1 + 1 := by
  refine ⟨_, rfl, ((Blk.new w a s).alloc _).alloc _, ?_, ?_, (((Below.refl _ _).alloc (Nat.le_refl _) _).alloc (by simp) _).alloc (by simp; omega) _, by simp⟩
  · have := (Blk.new (w.alloc (.cells a s)) b t).alloc (.cells c u)
    simpa using this
  · have := Blk.new ((w.alloc (.cells a s)).alloc (.cells b t)) c u
    simpa using this

theorem mul_sizes {a b : Rat} {k : Nat} (ha : QS k a) (hb : QS k b) : (digs (a.num.natAbs * b.num.natAbs)).length ≤ k + k ∧ (digs (a.den * b.den)).length ≤ k + k ∧ (digs (a.num.natAbs * b.den)).length ≤ k + k ∧ (digs (b.num.natAbs * a.den)).length ≤ k + k ∧ (digs (a.den * b.num.natAbs)).length ≤ k + k := by
  have h1 := digs_len_mul a.num.natAbs b.num.natAbs
  have h2 := digs_len_mul a.den b.den
  have h3 := digs_len_mul a.num.natAbs b.den
  have h4 := digs_len_mul b.num.natAbs a.den
  have h5 := digs_len_mul a.den b.num.natAbs
  have := ha.1; have := ha.2; have := hb.1; have := hb.2
  omega

set_option maxHeartbeats 1000000 in
theorem Times_any (a b : Rat) (u v : Value) (w : World) (ha : QR w u a) (hb : QR w v b) (sa : QS 268435456 a) (sb : QS 268435456 b) :
    Calls Tryz.prog 113 #[u, v] w fun e w' => ∃ v', e = .returned v' ∧ QF w.heap.size w' v' (a * b) ∧ Below w.heap.size w w' := by
  have hms := mul_sizes sa sb
  obtain ⟨n, d, rfl, hn, hd⟩ := ha
  obtain ⟨m, f, rfl, hm, hf⟩ := hb
  have hn0 := hn
  have hd0 := hd
  have hm0 := hm
  have hf0 := hf
  obtain ⟨no, nc, rfl, _⟩ := hn
  obtain ⟨do_, dc, rfl, _⟩ := hd
  obtain ⟨mo, mc, rfl, _⟩ := hm
  obtain ⟨fo, fc, rfl, _⟩ := hf
  have hmk := mul_parts a b
  obtain ⟨na, hna⟩ : ∃ x, decide (a.num < 0) = x := ⟨_, rfl⟩
  obtain ⟨nb, hnb⟩ : ∃ x, decide (b.num < 0) = x := ⟨_, rfl⟩
  rw [hna, hnb] at hmk
  rw [hna, hnb]
  clear hna hnb
  have HMK : Hid (qmk (!(na == nb)) (a.num.natAbs * b.num.natAbs) (a.den * b.den) = a * b) := hid hmk
  clear hmk
  go_enter Tryz.func113, Tryz.ntmps113
  go_wp2_with fail
  obtain ⟨W0, hW0, k0, k1, k2, hB, hsz⟩ := three_new w #[.bool na, .slice no (digs a.num.natAbs).length nc, .slice do_ (digs a.den).length dc] #[.bool nb, .slice mo (digs b.num.natAbs).length mc, .slice fo (digs b.den).length fc] #[.bool false, .slice none 0 0, .slice none 0 0] 86 86 86
  rw [hW0]
  clear hW0
  have hd0' := (Below.refl W0.heap.size W0).drew
  have hBd := hB.drew
  have hszle : w.heap.size + 1 + 1 ≤ W0.heap.size := by omega
  have hden : a.den * b.den ≠ 0 := Nat.mul_ne_zero a.den_nz b.den_nz
  obtain ⟨sa1, sa2⟩ := sa
  obtain ⟨sb1, sb2⟩ := sb
  go_region_held3 (fun w' => w'.cell? ⟨w.heap.size, 0, none⟩ = some (.bool na) ∧ w'.cell? ⟨w.heap.size, 1, none⟩ = some (.slice no (digs a.num.natAbs).length nc) ∧ w'.cell? ⟨w.heap.size, 2, none⟩ = some (.slice do_ (digs a.den).length dc) ∧
      w'.cell? ⟨w.heap.size + 1, 0, none⟩ = some (.bool nb) ∧ w'.cell? ⟨w.heap.size + 1, 1, none⟩ = some (.slice mo (digs b.num.natAbs).length mc) ∧ w'.cell? ⟨w.heap.size + 1, 2, none⟩ = some (.slice fo (digs b.den).length fc))
    (first | (refine boxes_keep k0 k1 ?_; assumption) | (refine boxes_keep2 (B := w.heap.size + 1 + 1) k0 k1 ?_ ?_ ?_; exact (((hW3.mono hszle).setCell (Nat.le_refl _) _).setCell (Nat.le_refl _) _).setCell (Nat.le_refl _) _; exact Nat.lt_succ_of_lt (Nat.lt_succ_self _); exact Nat.lt_succ_self _))
    (first
      | (go_at_call_of 114 no; refine (times_any a.num.natAbs b.num.natAbs _ _ _ (hn0.below hBd) (hm0.below hBd) (by omega) (by omega)).mono ?_; rintro e w1 ⟨v1, rfl, hv1, hb1⟩; have hW1 : Below W0.heap.size W0 w1 := hd0'.trans (hb1.mono hd0'.size); have hB1 : Below w.heap.size w w1 := hBd.trans (hb1.mono hBd.size))
      | (go_at_call_of 114 do_; refine (times_any a.den b.den _ _ _ (hd0.below hB1) (hf0.below hB1) (by omega) (by omega)).mono ?_; rintro e w2 ⟨v2, rfl, hv2, hb2⟩; have hW2 : Below W0.heap.size W0 w2 := hW1.trans (hb2.mono hW1.size); have hB2 : Below w.heap.size w w2 := hB1.trans (hb2.mono hB1.size))
      | (go_at_call 115; refine (made_any _ (a.num.natAbs * b.num.natAbs) (a.den * b.den) _ _ _ (hv1.below hb2).nat hv2.nat hden (by omega) (by omega)).mono ?_; rintro e w3 ⟨v3, rfl, hv3, hb3⟩; have hW3 : Below W0.heap.size W0 w3 := hW2.trans (hb3.mono hW2.size); have hB3 : Below w.heap.size w w3 := hB2.trans (hb3.mono hB2.size);
          rw [HMK.out] at hv3; have hv3' := hv3.mono (lo' := w.heap.size + 1 + 1 + 1) (Nat.le_trans (Nat.le_of_eq hsz.symm) hW2.size); obtain ⟨rb, ro, rn, rc, so, sn, sc, rfl⟩ := hv3.shape; have k3 := k2.below' hW3 (by omega); have f3 := k3.frozen; have c0 := k3.cell 0; have c1 := k3.cell 1; have c2 := k3.cell 2))
  go_wp2
  refine bodyPost_ret (v := .agg #[.bool rb, .slice ro rn rc, .slice so sn sc]) ?_ rfl ⟨_, rfl, (((hv3'.setCell (Nat.lt_succ_self _) _).setCell (Nat.lt_succ_self _) _).setCell (Nat.lt_succ_self _) _).mono (Nat.le_add_right _ 3), ((hB3.setCell (Nat.le_add_right _ 2) _).setCell (Nat.le_add_right _ 2) _).setCell (Nat.le_add_right _ 2) _⟩
  simp [results, Tryz.results113, go_sem, c0, c1, c2]

set_option maxHeartbeats 1000000 in
theorem Over_any (a b : Rat) (u v : Value) (w : World) (ha : QR w u a) (hb : QR w v b) (sa : QS 268435456 a) (sb : QS 268435456 b) (hb0 : b ≠ 0) :
    Calls Tryz.prog 119 #[u, v] w fun e w' => ∃ v', e = .returned v' ∧ QF w.heap.size w' v' (a / b) ∧ Below w.heap.size w w' := by
  have hms := mul_sizes sa sb
  obtain ⟨n, d, rfl, hn, hd⟩ := ha
  obtain ⟨m, f, rfl, hm, hf⟩ := hb
  have hn0 := hn
  have hd0 := hd
  have hm0 := hm
  have hf0 := hf
  obtain ⟨no, nc, rfl, _⟩ := hn
  obtain ⟨do_, dc, rfl, _⟩ := hd
  obtain ⟨mo, mc, rfl, _⟩ := hm
  obtain ⟨fo, fc, rfl, _⟩ := hf
  have hmk := div_parts a b hb0
  have hbn : b.num ≠ 0 := fun h => hb0 (Rat.num_eq_zero.1 h)
  obtain ⟨na, hna⟩ : ∃ x, decide (a.num < 0) = x := ⟨_, rfl⟩
  obtain ⟨nb, hnb⟩ : ∃ x, decide (b.num < 0) = x := ⟨_, rfl⟩
  rw [hna, hnb] at hmk
  rw [hna, hnb]
  clear hna hnb
  have HMK : Hid (qmk (!(na == nb)) (a.num.natAbs * b.den) (a.den * b.num.natAbs) = a / b) := hid hmk
  clear hmk
  go_enter Tryz.func119, Tryz.ntmps119
  go_wp2_with fail
  obtain ⟨W0, hW0, k0, k1, k2, hB, hsz⟩ := three_new w #[.bool na, .slice no (digs a.num.natAbs).length nc, .slice do_ (digs a.den).length dc] #[.bool nb, .slice mo (digs b.num.natAbs).length mc, .slice fo (digs b.den).length fc] #[.bool false, .slice none 0 0, .slice none 0 0] 86 86 86
  rw [hW0]
  clear hW0
  have hd0' := (Below.refl W0.heap.size W0).drew
  have hBd := hB.drew
  have hszle : w.heap.size + 1 + 1 ≤ W0.heap.size := by omega
  have hden : a.den * b.num.natAbs ≠ 0 := Nat.mul_ne_zero a.den_nz (by omega)
  obtain ⟨sa1, sa2⟩ := sa
  obtain ⟨sb1, sb2⟩ := sb
  go_region_held3 (fun w' => w'.cell? ⟨w.heap.size, 0, none⟩ = some (.bool na) ∧ w'.cell? ⟨w.heap.size, 1, none⟩ = some (.slice no (digs a.num.natAbs).length nc) ∧ w'.cell? ⟨w.heap.size, 2, none⟩ = some (.slice do_ (digs a.den).length dc) ∧
      w'.cell? ⟨w.heap.size + 1, 0, none⟩ = some (.bool nb) ∧ w'.cell? ⟨w.heap.size + 1, 1, none⟩ = some (.slice mo (digs b.num.natAbs).length mc) ∧ w'.cell? ⟨w.heap.size + 1, 2, none⟩ = some (.slice fo (digs b.den).length fc))
    (first | (refine boxes_keep k0 k1 ?_; assumption) | (refine boxes_keep2 (B := w.heap.size + 1 + 1) k0 k1 ?_ ?_ ?_; exact (((hW3.mono hszle).setCell (Nat.le_refl _) _).setCell (Nat.le_refl _) _).setCell (Nat.le_refl _) _; exact Nat.lt_succ_of_lt (Nat.lt_succ_self _); exact Nat.lt_succ_self _))
    (first
      | (go_at_call_of 114 no; refine (times_any a.num.natAbs b.den _ _ _ (hn0.below hBd) (hf0.below hBd) (by omega) (by omega)).mono ?_; rintro e w1 ⟨v1, rfl, hv1, hb1⟩; have hW1 : Below W0.heap.size W0 w1 := hd0'.trans (hb1.mono hd0'.size); have hB1 : Below w.heap.size w w1 := hBd.trans (hb1.mono hBd.size))
      | (go_at_call_of 114 do_; refine (times_any a.den b.num.natAbs _ _ _ (hd0.below hB1) (hm0.below hB1) (by omega) (by omega)).mono ?_; rintro e w2 ⟨v2, rfl, hv2, hb2⟩; have hW2 : Below W0.heap.size W0 w2 := hW1.trans (hb2.mono hW1.size); have hB2 : Below w.heap.size w w2 := hB1.trans (hb2.mono hB1.size))
      | (go_at_call 115; refine (made_any _ (a.num.natAbs * b.den) (a.den * b.num.natAbs) _ _ _ (hv1.below hb2).nat hv2.nat hden (by omega) (by omega)).mono ?_; rintro e w3 ⟨v3, rfl, hv3, hb3⟩; have hW3 : Below W0.heap.size W0 w3 := hW2.trans (hb3.mono hW2.size); have hB3 : Below w.heap.size w w3 := hB2.trans (hb3.mono hB2.size);
          rw [HMK.out] at hv3; have hv3' := hv3.mono (lo' := w.heap.size + 1 + 1 + 1) (Nat.le_trans (Nat.le_of_eq hsz.symm) hW2.size); obtain ⟨rb, ro, rn, rc, so, sn, sc, rfl⟩ := hv3.shape; have k3 := k2.below' hW3 (by omega); have f3 := k3.frozen; have c0 := k3.cell 0; have c1 := k3.cell 1; have c2 := k3.cell 2))
  go_wp2
  refine bodyPost_ret (v := .agg #[.bool rb, .slice ro rn rc, .slice so sn sc]) ?_ rfl ⟨_, rfl, (((hv3'.setCell (Nat.lt_succ_self _) _).setCell (Nat.lt_succ_self _) _).setCell (Nat.lt_succ_self _) _).mono (Nat.le_add_right _ 3), ((hB3.setCell (Nat.le_add_right _ 2) _).setCell (Nat.le_add_right _ 2) _).setCell (Nat.le_add_right _ 2) _⟩
  simp [results, Tryz.results119, go_sem, c0, c1, c2]

end Go.Proofs.YtfkclcoipadhmaaGreatDoor

/- Walks of trankref01's rational numbers: Plus. -/
namespace Go.Proofs.YtfkclcoipadhmaaGreatDoor
open Go.RowKit

theorem keep1 {W w' : World} {b : Nat} {x0 x1 x2 : Value} {s : TypeId} (h0 : Blk W b #[x0, x1, x2] s) (hb : Below W.heap.size W w') : w'.cell? ⟨b, 0, none⟩ = some x0 := (h0.below hb).cell 0
theorem keep2 {W w' : World} {B b : Nat} {x0 x1 x2 : Value} {s : TypeId} (h0 : Blk W b #[x0, x1, x2] s) (hb : Below B W w') (l : b < B) : w'.cell? ⟨b, 0, none⟩ = some x0 := (h0.below' hb l).cell 0

set_option maxHeartbeats 2000000 in
theorem Plus_any (a b : Rat) (u v : Value) (w : World) (ha : QR w u a) (hb : QR w v b) (sa : QS 268435456 a) (sb : QS 268435456 b) :
    Calls Tryz.prog 89 #[u, v] w fun e w' => ∃ v', e = .returned v' ∧ QF w.heap.size w' v' (a + b) ∧ Below w.heap.size w w' := by
  have hms := mul_sizes sa sb
  obtain ⟨n, d, rfl, hn, hd⟩ := ha
  obtain ⟨m, f, rfl, hm, hf⟩ := hb
  have hn0 := hn
  have hd0 := hd
  have hm0 := hm
  have hf0 := hf
  obtain ⟨no, nc, rfl, _⟩ := hn
  obtain ⟨do_, dc, rfl, _⟩ := hd
  obtain ⟨mo, mc, rfl, _⟩ := hm
  obtain ⟨fo, fc, rfl, _⟩ := hf
  have hps := digs_len_add (a.num.natAbs * b.den) (b.num.natAbs * a.den)
  have hden : a.den * b.den ≠ 0 := Nat.mul_ne_zero a.den_nz b.den_nz
  obtain ⟨X, hX⟩ : ∃ X, a.num.natAbs * b.den = X := ⟨_, rfl⟩
  obtain ⟨Y, hY⟩ : ∃ X, b.num.natAbs * a.den = X := ⟨_, rfl⟩
  obtain ⟨D, hD⟩ : ∃ X, a.den * b.den = X := ⟨_, rfl⟩
  obtain ⟨na, hna⟩ : ∃ x, decide (a.num < 0) = x := ⟨_, rfl⟩
  obtain ⟨nb, hnb⟩ : ∃ x, decide (b.num < 0) = x := ⟨_, rfl⟩
  have key : (na = nb → qmk na (X + Y) D = a + b) ∧ (na ≠ nb → Y ≤ X → qmk na (X - Y) D = a + b) ∧ (na ≠ nb → X ≤ Y → qmk nb (Y - X) D = a + b) := by
    rw [← hX, ← hY, ← hD, ← hna, ← hnb]
    exact ⟨add_same, add_diff, add_diff'⟩
  have KEY := hid key
  have hXl : (digs X).length ≤ 536870912 := by rw [← hX]; omega
  have hYl : (digs Y).length ≤ 536870912 := by rw [← hY]; omega
  have hDl : (digs D).length ≤ 536870912 := by rw [← hD]; omega
  have hSl : (digs (X + Y)).length ≤ 536870913 := by rw [hX, hY] at hps; omega
  have hD0 : D ≠ 0 := by rw [← hD]; exact hden
  have hT1 : ∀ w' x y, NatR w' x a.num.natAbs → NatR w' y b.den → Calls Tryz.prog 114 #[x, y] w' fun e w'' => ∃ v', e = .returned v' ∧ NatF w'.heap.size w'' v' X ∧ Below w'.heap.size w' w'' := by
    intro w' x y h1 h2; rw [← hX]; exact times_any _ _ _ _ _ h1 h2 (by have := sa.1; omega) (by have := sb.2; omega)
  have hT2 : ∀ w' x y, NatR w' x b.num.natAbs → NatR w' y a.den → Calls Tryz.prog 114 #[x, y] w' fun e w'' => ∃ v', e = .returned v' ∧ NatF w'.heap.size w'' v' Y ∧ Below w'.heap.size w' w'' := by
    intro w' x y h1 h2; rw [← hY]; exact times_any _ _ _ _ _ h1 h2 (by have := sb.1; omega) (by have := sa.2; omega)
  have hT3 : ∀ w' x y, NatR w' x a.den → NatR w' y b.den → Calls Tryz.prog 114 #[x, y] w' fun e w'' => ∃ v', e = .returned v' ∧ NatF w'.heap.size w'' v' D ∧ Below w'.heap.size w' w'' := by
    intro w' x y h1 h2; rw [← hD]; exact times_any _ _ _ _ _ h1 h2 (by have := sa.2; omega) (by have := sb.2; omega)
  rw [hna, hnb]
  have T1 := hid hT1
  have T2 := hid hT2
  have T3 := hid hT3
  clear hna hnb key hT1 hT2 hT3 hms hps hden hX hY hD sa sb
  go_enter Tryz.func89, Tryz.ntmps89
  go_wp2_with fail
  obtain ⟨W0, hW0, k0, k1, k2, hB, hsz⟩ := three_new w #[.bool na, .slice no (digs a.num.natAbs).length nc, .slice do_ (digs a.den).length dc] #[.bool nb, .slice mo (digs b.num.natAbs).length mc, .slice fo (digs b.den).length fc] #[.bool false, .slice none 0 0, .slice none 0 0] 86 86 86
  rw [hW0]
  clear hW0
  have hd0' := (Below.refl W0.heap.size W0).drew
  have hBd := hB.drew
  have hszle : w.heap.size + 1 + 1 ≤ W0.heap.size := by omega
  go_region_held3 (fun w' => w'.cell? ⟨w.heap.size, 0, none⟩ = some (.bool na) ∧ w'.cell? ⟨w.heap.size, 1, none⟩ = some (.slice no (digs a.num.natAbs).length nc) ∧ w'.cell? ⟨w.heap.size, 2, none⟩ = some (.slice do_ (digs a.den).length dc) ∧
      w'.cell? ⟨w.heap.size + 1, 0, none⟩ = some (.bool nb) ∧ w'.cell? ⟨w.heap.size + 1, 1, none⟩ = some (.slice mo (digs b.num.natAbs).length mc) ∧ w'.cell? ⟨w.heap.size + 1, 2, none⟩ = some (.slice fo (digs b.den).length fc))
    (first | (refine boxes_keep k0 k1 ?_; assumption))
    (first
      | (go_at_call_of 114 no; refine (T1.out _ _ _ (hn0.below hBd) (hf0.below hBd)).mono ?_; rintro e w1 ⟨v1, rfl, hv1, hb1⟩; have hW1 : Below W0.heap.size W0 w1 := hd0'.trans (hb1.mono hd0'.size); have hB1 : Below w.heap.size w w1 := hBd.trans (hb1.mono hBd.size))
      | (go_at_call_of 114 mo; refine (T2.out _ _ _ (hm0.below hB1) (hd0.below hB1)).mono ?_; rintro e w2 ⟨v2, rfl, hv2, hb2⟩; have hW2 : Below W0.heap.size W0 w2 := hW1.trans (hb2.mono hW1.size); have hB2 : Below w.heap.size w w2 := hB1.trans (hb2.mono hB1.size))
      | (go_at_call_of 114 do_; refine (T3.out _ _ _ (hd0.below hB2) (hf0.below hB2)).mono ?_; rintro e w3 ⟨v3, rfl, hv3, hb3⟩; have hW3 : Below W0.heap.size W0 w3 := hW2.trans (hb3.mono hW2.size); have hB3 : Below w.heap.size w w3 := hB2.trans (hb3.mono hB2.size)))
  have kk0 := k0.below hW3
  have kk1 := k1.below hW3
  have kk2 := k2.below hW3
  have q0 := kk0.cell 0
  have q1 := kk1.cell 0
  have hx := ((hv1.below hb2).below hb3).nat
  have hy := (hv2.below hb3).nat
  have hz := hv3.nat
  have hs3 : w.heap.size + 1 + 1 + 1 ≤ w3.heap.size := by have := hW3.size; omega
  clear hv1 hv2 hv3 hb1 hb2 hb3 hW1 hW2 hB1 hB2 hn0 hd0 hm0 hf0 k0 k1 k2 hd0' hBd hszle
  have hs3' : w.heap.size + 1 + 1 ≤ w3.heap.size := by omega
  by_cases hab : na = nb
  · have htest : (na == nb) = true := by rw [hab]; exact beq_self_eq_true _
    have HAB := hid hab
    clear hab
    go_wp2_with fail
    have dd := (Below.refl w3.heap.size w3).drew
    have hBd := hB3.drew
    go_region_held3 (fun w' => w'.cell? ⟨w.heap.size, 0, none⟩ = some (.bool na))
      (first | (refine keep1 kk0 ?_; assumption) | (refine keep2 (B := w.heap.size + 1 + 1) kk0 ?_ ?_; exact (((hW5.mono hs3').setCell (Nat.le_refl _) _).setCell (Nat.le_refl _) _).setCell (Nat.le_refl _) _; exact Nat.lt_succ_of_lt (Nat.lt_succ_self _)))
      (first
        | (go_at_call 116; refine (plus_any X Y _ _ _ (hx.below dd) (hy.below dd) (by omega) (by omega)).mono ?_; rintro e w4 ⟨v4, rfl, hv4, hb4⟩; have hW4 : Below w3.heap.size w3 w4 := dd.trans (hb4.mono dd.size); have hB4 : Below w.heap.size w w4 := hBd.trans (hb4.mono hBd.size))
        | (go_at_call 115; refine (made_any _ (X + Y) D _ _ _ hv4.nat (hz.below hW4) hD0 (by omega) (by omega)).mono ?_; rintro e w5 ⟨v5, rfl, hv5, hb5⟩; have hW5 : Below w3.heap.size w3 w5 := hW4.trans (hb5.mono hW4.size); have hB5 : Below w.heap.size w w5 := hB4.trans (hb5.mono hB4.size); rw [KEY.out.1 HAB.out] at hv5; have hv5' := hv5.mono (lo' := w.heap.size + 1 + 1 + 1) (Nat.le_trans hs3 hW4.size); obtain ⟨rb, ro, rn, rc, so, sn, sc, rfl⟩ := hv5.shape; have k5 := kk2.below hW5; have f3 := k5.frozen; have c0 := k5.cell 0; have c1 := k5.cell 1; have c2 := k5.cell 2))
    go_wp2
    refine bodyPost_ret (v := .agg #[.bool rb, .slice ro rn rc, .slice so sn sc]) ?_ rfl ⟨_, rfl, (((hv5'.setCell (Nat.lt_succ_self _) _).setCell (Nat.lt_succ_self _) _).setCell (Nat.lt_succ_self _) _).mono (Nat.le_add_right _ 3), ((hB5.setCell (Nat.le_add_right _ 2) _).setCell (Nat.le_add_right _ 2) _).setCell (Nat.le_add_right _ 2) _⟩
    simp [results, Tryz.results89, go_sem, c0, c1, c2]
  · have htest : (na == nb) = false := by simpa using hab
    have HAB := hid hab
    clear hab
    by_cases hle : Y ≤ X
    · go_wp2_with fail
      refine (compare_ge X Y _ _ _ hx hy hle).mono ?_
      rintro e w3' ⟨z, rfl, hz0, nd, rfl⟩
      have d3 := below_drewN0 (Below.refl w3.heap.size w3) nd
      go_wp2_with fail
      obtain ⟨w6, hw6⟩ : ∃ w6, w3.drewN nd = w6 := ⟨_, rfl⟩
      rw [hw6] at d3 ⊢
      have hB6 := hB3.trans (d3.mono hB3.size)
      have hx6 := hx.below d3
      have hy6 := hy.below d3
      have hz6 := hz.below d3
      have r0 := kk0.below d3
      have r1 := kk1.below d3
      have r2 := kk2.below d3
      have s6 : w.heap.size + 1 + 1 + 1 ≤ w6.heap.size := Nat.le_trans hs3 d3.size
      clear hx hy hz kk0 kk1 kk2 hB3 hs3 hs3' q0 q1 hw6 d3
      obtain ⟨w3, rfl⟩ : ∃ w3, w3 = w6 := ⟨_, rfl⟩
      have hs3' : w.heap.size + 1 + 1 ≤ w3.heap.size := by omega
      have dd := (Below.refl w3.heap.size w3).drew
      have hBd := hB6.drew
      go_region_held3 (fun w' => w'.cell? ⟨w.heap.size, 0, none⟩ = some (.bool na))
        (first | (refine keep1 r0 ?_; assumption) | (refine keep2 (B := w.heap.size + 1 + 1) r0 ?_ ?_; exact (((hW5.mono hs3').setCell (Nat.le_refl _) _).setCell (Nat.le_refl _) _).setCell (Nat.le_refl _) _; exact Nat.lt_succ_of_lt (Nat.lt_succ_self _)))
        (first
          | (go_at_call 118; refine (less_any X Y _ _ _ (hx6.below dd) (hy6.below dd) hle (by omega)).mono ?_; rintro e w4 ⟨v4, rfl, hv4, hb4⟩; have hW4 : Below w3.heap.size w3 w4 := dd.trans (hb4.mono dd.size); have hB4 : Below w.heap.size w w4 := hBd.trans (hb4.mono hBd.size))
          | (go_at_call 115; refine (made_any _ (X - Y) D _ _ _ hv4.nat (hz6.below hW4) hD0 (len_le_of_le (Nat.sub_le _ _) (by omega)) (by omega)).mono ?_; rintro e w5 ⟨v5, rfl, hv5, hb5⟩; have hW5 : Below w3.heap.size w3 w5 := hW4.trans (hb5.mono hW4.size); have hB5 : Below w.heap.size w w5 := hB4.trans (hb5.mono hB4.size); rw [KEY.out.2.1 HAB.out hle] at hv5; have hv5' := hv5.mono (lo' := w.heap.size + 1 + 1 + 1) (Nat.le_trans s6 hW4.size); obtain ⟨rb, ro, rn, rc, so, sn, sc, rfl⟩ := hv5.shape; have k5 := r2.below hW5; have f3 := k5.frozen; have c0 := k5.cell 0; have c1 := k5.cell 1; have c2 := k5.cell 2))
      go_wp2
      refine bodyPost_ret (v := .agg #[.bool rb, .slice ro rn rc, .slice so sn sc]) ?_ rfl ⟨_, rfl, (((hv5'.setCell (Nat.lt_succ_self _) _).setCell (Nat.lt_succ_self _) _).setCell (Nat.lt_succ_self _) _).mono (Nat.le_add_right _ 3), ((hB5.setCell (Nat.le_add_right _ 2) _).setCell (Nat.le_add_right _ 2) _).setCell (Nat.le_add_right _ 2) _⟩
      simp [results, Tryz.results89, go_sem, c0, c1, c2]
    · go_wp2_with fail
      refine (compare_lt X Y _ _ _ hx hy (by omega)).mono ?_
      rintro e w3' ⟨rfl, nd, rfl⟩
      have d3 := below_drewN0 (Below.refl w3.heap.size w3) nd
      go_wp2_with fail
      obtain ⟨w6, hw6⟩ : ∃ w6, w3.drewN nd = w6 := ⟨_, rfl⟩
      rw [hw6] at d3 ⊢
      have hB6 := hB3.trans (d3.mono hB3.size)
      have hx6 := hx.below d3
      have hy6 := hy.below d3
      have hz6 := hz.below d3
      have r0 := kk0.below d3
      have r1 := kk1.below d3
      have r2 := kk2.below d3
      have s6 : w.heap.size + 1 + 1 + 1 ≤ w6.heap.size := Nat.le_trans hs3 d3.size
      clear hx hy hz kk0 kk1 kk2 hB3 hs3 hs3' q0 q1 hw6 d3
      obtain ⟨w3, rfl⟩ : ∃ w3, w3 = w6 := ⟨_, rfl⟩
      have hs3' : w.heap.size + 1 + 1 ≤ w3.heap.size := by omega
      have dd := (Below.refl w3.heap.size w3).drew
      have hBd := hB6.drew
      go_region_held3 (fun w' => w'.cell? ⟨w.heap.size + 1, 0, none⟩ = some (.bool nb))
        (first | (refine keep1 r1 ?_; assumption) | (refine keep2 (B := w.heap.size + 1 + 1) r1 ?_ ?_; exact (((hW5.mono hs3').setCell (Nat.le_refl _) _).setCell (Nat.le_refl _) _).setCell (Nat.le_refl _) _; exact Nat.lt_succ_self _))
        (first
          | (go_at_call 118; refine (less_any Y X _ _ _ (hy6.below dd) (hx6.below dd) (by omega) (by omega)).mono ?_; rintro e w4 ⟨v4, rfl, hv4, hb4⟩; have hW4 : Below w3.heap.size w3 w4 := dd.trans (hb4.mono dd.size); have hB4 : Below w.heap.size w w4 := hBd.trans (hb4.mono hBd.size))
          | (go_at_call 115; refine (made_any _ (Y - X) D _ _ _ hv4.nat (hz6.below hW4) hD0 (len_le_of_le (Nat.sub_le _ _) (by omega)) (by omega)).mono ?_; rintro e w5 ⟨v5, rfl, hv5, hb5⟩; have hW5 : Below w3.heap.size w3 w5 := hW4.trans (hb5.mono hW4.size); have hB5 : Below w.heap.size w w5 := hB4.trans (hb5.mono hB4.size); rw [KEY.out.2.2 HAB.out (by omega)] at hv5; have hv5' := hv5.mono (lo' := w.heap.size + 1 + 1 + 1) (Nat.le_trans s6 hW4.size); obtain ⟨rb, ro, rn, rc, so, sn, sc, rfl⟩ := hv5.shape; have k5 := r2.below hW5; have f3 := k5.frozen; have c0 := k5.cell 0; have c1 := k5.cell 1; have c2 := k5.cell 2))
      go_wp2
      refine bodyPost_ret (v := .agg #[.bool rb, .slice ro rn rc, .slice so sn sc]) ?_ rfl ⟨_, rfl, (((hv5'.setCell (Nat.lt_succ_self _) _).setCell (Nat.lt_succ_self _) _).setCell (Nat.lt_succ_self _) _).mono (Nat.le_add_right _ 3), ((hB5.setCell (Nat.le_add_right _ 2) _).setCell (Nat.le_add_right _ 2) _).setCell (Nat.le_add_right _ 2) _⟩
      simp [results, Tryz.results89, go_sem, c0, c1, c2]

end Go.Proofs.YtfkclcoipadhmaaGreatDoor

/- Sizes of rational numbers; walks of trankref01's Less, Order, Of. -/
namespace Go.Proofs.YtfkclcoipadhmaaGreatDoor
open Go.RowKit

theorem QS_qmk {k : Nat} {neg : Bool} {n d : Nat} (hd : d ≠ 0) (h1 : (digs n).length ≤ k) (h2 : (digs d).length ≤ k) : QS k (qmk neg n d) :=
  ⟨by rw [qmk_abs neg hd]; exact len_le_of_le (Nat.div_le_self _ _) h1, by rw [qmk_den neg hd]; exact len_le_of_le (Nat.div_le_self _ _) h2⟩
theorem QS_neg {k : Nat} {q : Rat} (h : QS k q) : QS k (-q) := ⟨by rw [Rat.neg_num, Int.natAbs_neg]; exact h.1, by rw [Rat.neg_den]; exact h.2⟩
theorem QS_mul {k : Nat} {a b : Rat} (ha : QS k a) (hb : QS k b) : QS (k + k) (a * b) := by
  have hms := mul_sizes ha hb
  rw [← mul_parts a b]
  exact QS_qmk (Nat.mul_ne_zero a.den_nz b.den_nz) hms.1 hms.2.1
theorem QS_div {k : Nat} {a b : Rat} (ha : QS k a) (hb : QS k b) (h0 : b ≠ 0) : QS (k + k) (a / b) := by
  have hms := mul_sizes ha hb
  have hbn : b.num ≠ 0 := fun h => h0 (Rat.num_eq_zero.1 h)
  rw [← div_parts a b h0]
  exact QS_qmk (Nat.mul_ne_zero a.den_nz (by omega)) hms.2.2.1 hms.2.2.2.2
theorem QS_add {k : Nat} {a b : Rat} (ha : QS k a) (hb : QS k b) : QS (k + k + 1) (a + b) := by
  have hms := mul_sizes ha hb
  have hps := digs_len_add (a.num.natAbs * b.den) (b.num.natAbs * a.den)
  have hd := Nat.mul_ne_zero a.den_nz b.den_nz
  by_cases h : decide (a.num < 0) = decide (b.num < 0)
  · rw [← add_same h]
    exact QS_qmk hd (by omega) (by omega)
  · rcases Nat.le_total (b.num.natAbs * a.den) (a.num.natAbs * b.den) with hle | hle
    · rw [← add_diff h hle]
      exact QS_qmk hd (len_le_of_le (Nat.sub_le _ _) (by omega)) (by omega)
    · rw [← add_diff' h hle]
      exact QS_qmk hd (len_le_of_le (Nat.sub_le _ _) (by omega)) (by omega)
theorem QS_sub {k : Nat} {a b : Rat} (ha : QS k a) (hb : QS k b) : QS (k + k + 1) (a - b) := by
  rw [Rat.sub_eq_add_neg]; exact QS_add ha (QS_neg hb)
theorem QS_of {n d : Int} (hn1 : -9223372036854775808 ≤ n) (hn2 : n ≤ 9223372036854775807) (hd1 : -9223372036854775808 ≤ d) (hd2 : d ≤ 9223372036854775807) (h0 : d ≠ 0) : QS 4 ((n : Rat) / (d : Rat)) :=
  QS_div (int_size hn1 hn2) (int_size hd1 hd2) (by simpa using h0)

theorem QF.shape3 {lo : Nat} {w : World} {v : Value} {q : Rat} (h : QF lo w v q) : ∃ x y z, v = .agg #[x, y, z] := by
  obtain ⟨n, d, rfl, _⟩ := h
  exact ⟨_, _, _, rfl⟩
/-- One boxed struct stands; the result's variable is filled. -/
theorem one_new (w : World) (a c : Array Value) (s u : TypeId) :
    ∃ W, (w.alloc (.cells a s)).alloc (.cells c u) = W ∧ Blk W w.heap.size a s ∧ Blk W (w.heap.size + 1) c u ∧ Below w.heap.size w W ∧ W.heap.size = w.heap.size + 1 + 1 := by
  refine ⟨_, rfl, (Blk.new w a s).alloc _, ?_, ((Below.refl _ _).alloc (Nat.le_refl _) _).alloc (by simp) _, by simp⟩
  have := Blk.new (w.alloc (.cells a s)) c u
  simpa using this

set_option maxHeartbeats 1000000 in
theorem Less_any (a b : Rat) (u v : Value) (w : World) (ha : QR w u a) (hb : QR w v b) (sa : QS 268435456 a) (sb : QS 268435456 b) :
    Calls Tryz.prog 112 #[u, v] w fun e w' => ∃ v', e = .returned v' ∧ QF w.heap.size w' v' (a - b) ∧ Below w.heap.size w w' := by
  have ha0 := ha
  have hb0 := hb
  have sb' := QS_neg sb
  obtain ⟨x0, x1, x2, rfl⟩ := ha.shape3
  obtain ⟨y0, y1, y2, rfl⟩ := hb.shape3
  go_enter Tryz.func112, Tryz.ntmps112
  go_wp2_with fail
  obtain ⟨W0, hW0, k0, k1, k2, hB, hsz⟩ := three_new w #[x0, x1, x2] #[y0, y1, y2] #[.bool false, .slice none 0 0, .slice none 0 0] 86 86 86
  rw [hW0]
  clear hW0
  have hd0' := (Below.refl W0.heap.size W0).drew
  have hBd := hB.drew
  have hszle : w.heap.size + 1 + 1 ≤ W0.heap.size := by omega
  go_region_held3 (fun w' => w'.cell? ⟨w.heap.size, 0, none⟩ = some x0 ∧ w'.cell? ⟨w.heap.size, 1, none⟩ = some x1 ∧ w'.cell? ⟨w.heap.size, 2, none⟩ = some x2 ∧
      w'.cell? ⟨w.heap.size + 1, 0, none⟩ = some y0 ∧ w'.cell? ⟨w.heap.size + 1, 1, none⟩ = some y1 ∧ w'.cell? ⟨w.heap.size + 1, 2, none⟩ = some y2)
    (first | (refine boxes_keep k0 k1 ?_; assumption) | (refine boxes_keep2 (B := w.heap.size + 1 + 1) k0 k1 ?_ ?_ ?_; exact (((hW3.mono hszle).setCell (Nat.le_refl _) _).setCell (Nat.le_refl _) _).setCell (Nat.le_refl _) _; exact Nat.lt_succ_of_lt (Nat.lt_succ_self _); exact Nat.lt_succ_self _))
    (first
      | (go_at_call 138; refine (Minus_any 0 b _ _ (hb0.below hBd)).mono ?_; rintro e w1 ⟨v1, rfl, hv1, hb1⟩; have hW1 : Below W0.heap.size W0 w1 := hd0'.trans (hb1.mono hd0'.size); have hB1 : Below w.heap.size w w1 := hBd.trans (hb1.mono hBd.size))
      | (go_at_call 89; refine (Plus_any a (-b) _ _ _ (ha0.below hB1) hv1 sa sb').mono ?_; rintro e w3 ⟨v3, rfl, hv3, hb3⟩; have hW3 : Below W0.heap.size W0 w3 := hW1.trans (hb3.mono hW1.size); have hB3 : Below w.heap.size w w3 := hB1.trans (hb3.mono hB1.size); rw [← Rat.sub_eq_add_neg] at hv3; have hv3' := hv3.mono (lo' := w.heap.size + 1 + 1 + 1) (Nat.le_trans (Nat.le_of_eq hsz.symm) hW1.size); obtain ⟨rb, ro, rn, rc, so, sn, sc, rfl⟩ := hv3.shape; have k3 := k2.below' hW3 (by omega); have f3 := k3.frozen; have c0 := k3.cell 0; have c1 := k3.cell 1; have c2 := k3.cell 2))
  go_wp2
  refine bodyPost_ret (v := .agg #[.bool rb, .slice ro rn rc, .slice so sn sc]) ?_ rfl ⟨_, rfl, (((hv3'.setCell (Nat.lt_succ_self _) _).setCell (Nat.lt_succ_self _) _).setCell (Nat.lt_succ_self _) _).mono (Nat.le_add_right _ 3), ((hB3.setCell (Nat.le_add_right _ 2) _).setCell (Nat.le_add_right _ 2) _).setCell (Nat.le_add_right _ 2) _⟩
  simp [results, Tryz.results112, go_sem, c0, c1, c2]

set_option maxHeartbeats 1000000 in
theorem Order_any (a b : Rat) (u v : Value) (w : World) (ha : QR w u a) (hb : QR w v b) (sa : QS 268435456 a) (sb : QS 268435456 b) :
    Calls Tryz.prog 96 #[u, v] w fun e w' => e = .returned (.int .i64 (sgnQ (a - b))) ∧ Below w.heap.size w w' := by
  have ha0 := ha
  have hb0 := hb
  obtain ⟨x0, x1, x2, rfl⟩ := ha.shape3
  obtain ⟨y0, y1, y2, rfl⟩ := hb.shape3
  have hB : ∀ o1 o2, Below w.heap.size w ((w.alloc o1).alloc o2) := fun o1 o2 => ((Below.refl _ _).alloc (Nat.le_refl _) _).alloc (by simp) _
  have HB := hid hB
  clear hB
  go_enter Tryz.func96, Tryz.ntmps96
  go_wp2_with fail
  refine (Less_any a b _ _ _ (ha0.below (HB.out _ _)) (hb0.below (HB.out _ _)) sa sb).mono ?_
  rintro e w1 ⟨v1, rfl, hv1, hb1⟩
  go_wp2_with fail
  refine (Sign_any (a - b) _ _ hv1.rat).mono ?_
  rintro e w2 ⟨rfl, hb2⟩
  go_wp2_with fail
  go_ret
  exact ⟨rfl, ((HB.out _ _).trans (hb1.mono (HB.out _ _).size)).trans (hb2.mono (Nat.le_trans (HB.out _ _).size hb1.size))⟩

/-- The value of a fraction. -/
abbrev frV (n d : Int) : Value := .agg #[.int .i64 n, .int .i64 d]
theorem keep2c {W w' : World} {b : Nat} {x0 x1 : Value} {s : TypeId} (h0 : Blk W b #[x0, x1] s) (hb : Below W.heap.size W w') : w'.cell? ⟨b, 0, none⟩ = some x0 ∧ w'.cell? ⟨b, 1, none⟩ = some x1 := ⟨(h0.below hb).cell 0, (h0.below hb).cell 1⟩
theorem keep2d {W w' : World} {B b : Nat} {x0 x1 : Value} {s : TypeId} (h0 : Blk W b #[x0, x1] s) (hb : Below B W w') (l : b < B) : w'.cell? ⟨b, 0, none⟩ = some x0 ∧ w'.cell? ⟨b, 1, none⟩ = some x1 := ⟨(h0.below' hb l).cell 0, (h0.below' hb l).cell 1⟩

set_option maxHeartbeats 1000000 in
theorem Of_any (n d : Int) (w : World) (hn1 : -9223372036854775808 ≤ n) (hn2 : n ≤ 9223372036854775807) (hd1 : -9223372036854775808 ≤ d) (hd2 : d ≤ 9223372036854775807) (h0 : d ≠ 0) :
    Calls Tryz.prog 90 #[.agg #[.int .i64 n, .int .i64 d]] w fun e w' => ∃ v', e = .returned v' ∧ QF w.heap.size w' v' ((n : Rat) / (d : Rat)) ∧ Below w.heap.size w w' := by
  have sn := (int_size hn1 hn2).mono (k' := 268435456) (by decide)
  have sd := (int_size hd1 hd2).mono (k' := 268435456) (by decide)
  have hdr : (d : Rat) ≠ 0 := by simpa using h0
  have SN := hid sn
  have SD := hid sd
  have HDR := hid hdr
  clear sn sd hdr
  go_enter Tryz.func90, Tryz.ntmps90
  go_wp2_with fail
  obtain ⟨W0, hW0, k0, k2, hB, hsz⟩ := one_new w #[.int .i64 n, .int .i64 d] #[.bool false, .slice none 0 0, .slice none 0 0] 31 86
  rw [hW0]
  clear hW0
  have hd0' := (Below.refl W0.heap.size W0).drew
  have hBd := hB.drew
  have hszle : w.heap.size + 1 ≤ W0.heap.size := by omega
  go_region_held3 (fun w' => w'.cell? ⟨w.heap.size, 0, none⟩ = some (.int .i64 n) ∧ w'.cell? ⟨w.heap.size, 1, none⟩ = some (.int .i64 d))
    (first | (refine keep2c k0 ?_; assumption) | (refine keep2d (B := w.heap.size + 1) k0 ?_ ?_; exact (((hW3.mono hszle).setCell (Nat.le_refl _) _).setCell (Nat.le_refl _) _).setCell (Nat.le_refl _) _; exact Nat.lt_succ_self _))
    (first
      | (go_at_call_of 120 n; refine (Int_any n _ hn1 hn2).mono ?_; rintro e w1 ⟨v1, rfl, hv1, hb1⟩; have hW1 : Below W0.heap.size W0 w1 := hd0'.trans (hb1.mono hd0'.size); have hB1 : Below w.heap.size w w1 := hBd.trans (hb1.mono hBd.size))
      | (go_at_call_of 120 d; refine (Int_any d _ hd1 hd2).mono ?_; rintro e w2 ⟨v2, rfl, hv2, hb2⟩; have hW2 : Below W0.heap.size W0 w2 := hW1.trans (hb2.mono hW1.size); have hB2 : Below w.heap.size w w2 := hB1.trans (hb2.mono hB1.size))
      | (go_at_call 119; refine (Over_any n d _ _ _ (hv1.below hb2).rat hv2.rat SN.out SD.out HDR.out).mono ?_; rintro e w3 ⟨v3, rfl, hv3, hb3⟩; have hW3 : Below W0.heap.size W0 w3 := hW2.trans (hb3.mono hW2.size); have hB3 : Below w.heap.size w w3 := hB2.trans (hb3.mono hB2.size); have hv3' := hv3.mono (lo' := w.heap.size + 1 + 1) (Nat.le_trans (Nat.le_of_eq hsz.symm) hW2.size); obtain ⟨rb, ro, rn, rc, so, sn, sc, rfl⟩ := hv3.shape; have k3 := k2.below' hW3 (by omega); have f3 := k3.frozen; have c0 := k3.cell 0; have c1 := k3.cell 1; have c2 := k3.cell 2))
  go_wp2
  refine bodyPost_ret (v := .agg #[.bool rb, .slice ro rn rc, .slice so sn sc]) ?_ rfl ⟨_, rfl, (((hv3'.setCell (Nat.lt_succ_self _) _).setCell (Nat.lt_succ_self _) _).setCell (Nat.lt_succ_self _) _).mono (Nat.le_add_right _ 2), ((hB3.setCell (Nat.le_add_right _ 1) _).setCell (Nat.le_add_right _ 1) _).setCell (Nat.le_add_right _ 1) _⟩
  simp [results, Tryz.results90, go_sem, c0, c1, c2]

end Go.Proofs.YtfkclcoipadhmaaGreatDoor

/- Walks of trankref01's small, Frac, answer, New. -/
namespace Go.Proofs.YtfkclcoipadhmaaGreatDoor
open Go.RowKit

/-- The number is below 2^62 and one more. -/
def smallB (n : Nat) : Bool := decide (n ≤ 4611686018427387904)

set_option maxHeartbeats 400000 in
theorem small_yes (n : Nat) (v : Value) (w : World) (h : NatR w v n) (hn : n ≤ 4611686018427387904) :
    Calls Tryz.prog 124 #[v] w fun e w' => e = .returned (.tuple #[.int .i64 n, .bool true]) ∧ w = w' := by
  have hlt : n < 18446744073709551616 := by omega
  have hl := digs_len_two hlt
  have h0 := h
  obtain ⟨ao, cap, rfl, _⟩ := h
  obtain ⟨L, hL⟩ : ∃ L, (digs n).length = L := ⟨_, rfl⟩
  rw [hL] at hl h0 ⊢
  clear hL
  go_enter Tryz.func124, Tryz.ntmps124
  go_wp2_with (go_at_call 143; refine (short_any n _ _ hlt h0).mono ?_; rintro e w' ⟨rfl, rfl⟩)
  go_ret2
  exact ⟨rfl, rfl⟩
set_option maxHeartbeats 400000 in
theorem small_no (n : Nat) (v : Value) (w : World) (h : NatR w v n) (hn : 4611686018427387904 < n) :
    Calls Tryz.prog 124 #[v] w fun e w' => e = .returned (.tuple #[.int .i64 0, .bool false]) ∧ w = w' := by
  have h0 := h
  obtain ⟨ao, cap, rfl, _⟩ := h
  by_cases hl : (digs n).length ≤ 2
  · have hlt := small_lt hl
    obtain ⟨L, hL⟩ : ∃ L, (digs n).length = L := ⟨_, rfl⟩
    rw [hL] at hl h0 ⊢
    clear hL
    go_enter Tryz.func124, Tryz.ntmps124
    go_wp2_with (go_at_call 143; refine (short_any n _ _ hlt h0).mono ?_; rintro e w' ⟨rfl, rfl⟩)
    go_ret2
    exact ⟨rfl, rfl⟩
  · obtain ⟨L, hL⟩ : ∃ L, (digs n).length = L := ⟨_, rfl⟩
    rw [hL] at hl h0 ⊢
    clear hL hn h0
    go_enter Tryz.func124, Tryz.ntmps124
    go_wp2
    go_ret2
    exact ⟨rfl, rfl⟩
theorem small_any (n : Nat) (v : Value) (w : World) (h : NatR w v n) :
    Calls Tryz.prog 124 #[v] w fun e w' => e = .returned (.tuple #[.int .i64 (if smallB n then (n : Int) else 0), .bool (smallB n)]) ∧ w = w' := by
  by_cases hn : n ≤ 4611686018427387904
  · rw [show smallB n = true from decide_eq_true hn, if_pos rfl]; exact small_yes n v w h hn
  · rw [show smallB n = false from decide_eq_false hn, if_neg (by decide)]; exact small_no n v w h (by omega)

/-- The rational number is a fraction within the limits. -/
def fits (q : Rat) : Prop := q.num.natAbs ≤ 1000000000 ∧ q.den ≤ 1000000000

set_option maxHeartbeats 1000000 in
theorem Frac_yes (q : Rat) (v : Value) (w : World) (h : QR w v q) (hf : fits q) :
    Calls Tryz.prog 100 #[v] w fun e w' => e = .returned (.tuple #[frV q.num q.den, .bool true]) ∧ Below w.heap.size w w' := by
  obtain ⟨hf1, hf2⟩ := hf
  obtain ⟨n, d, rfl, hn, hd⟩ := h
  have hn0 := hn
  have hd0 := hd
  obtain ⟨no, nc, rfl, _⟩ := hn
  obtain ⟨do_, dc, rfl, _⟩ := hd
  obtain ⟨A, hA⟩ : ∃ A, q.num.natAbs = A := ⟨_, rfl⟩
  obtain ⟨D, hD⟩ : ∃ A, q.den = A := ⟨_, rfl⟩
  obtain ⟨nb, hnb⟩ : ∃ A, decide (q.num < 0) = A := ⟨_, rfl⟩
  have hz : q.num = if nb then -(A : Int) else A := by
    rw [← hnb, ← hA]; by_cases h : q.num < 0
    · rw [decide_eq_true h, if_pos rfl]; omega
    · rw [decide_eq_false h, if_neg (by decide)]; omega
  rw [hnb, hA, hz, hD]
  rw [hA] at hn0 hf1
  rw [hD] at hd0 hf2
  clear hA hD hnb hz
  have hB : ∀ o1 o2, Below w.heap.size w ((w.alloc o1).alloc o2) := fun o1 o2 => ((Below.refl _ _).alloc (Nat.le_refl _) _).alloc (by simp) _
  have HB := hid hB
  clear hB
  cases nb
  all_goals
    go_enter Tryz.func100, Tryz.ntmps100
    go_wp2_with fail
    refine (small_yes A _ _ (hn0.below (HB.out _ _)) (by omega)).mono ?_
    rintro e w1 ⟨rfl, rfl⟩
    go_wp2_with fail
    refine (small_yes D _ _ (hd0.below (HB.out _ _)) (by omega)).mono ?_
    rintro e w1 ⟨rfl, rfl⟩
    go_wp2
  · exact bodyPost_ret (v := .tuple #[frV (A : Int) (D : Int), .bool true]) (by simp [results, Tryz.results100, go_sem, frV]) rfl ⟨rfl, HB.out _ _⟩
  · exact bodyPost_ret (v := .tuple #[frV (-(A : Int)) (D : Int), .bool true]) (by simp [results, Tryz.results100, go_sem, frV]) rfl ⟨rfl, HB.out _ _⟩

set_option maxHeartbeats 1000000 in
theorem Frac_no (q : Rat) (v : Value) (w : World) (h : QR w v q) (hf : ¬ fits q) :
    Calls Tryz.prog 100 #[v] w fun e w' => e = .returned (.tuple #[frV 0 0, .bool false]) ∧ Below w.heap.size w w' := by
  have hf' : ¬ (q.num.natAbs ≤ 1000000000 ∧ q.den ≤ 1000000000) := hf
  clear hf
  obtain ⟨n, d, rfl, hn, hd⟩ := h
  have hn0 := hn
  have hd0 := hd
  obtain ⟨no, nc, rfl, _⟩ := hn
  obtain ⟨do_, dc, rfl, _⟩ := hd
  obtain ⟨A, hA⟩ : ∃ A, q.num.natAbs = A := ⟨_, rfl⟩
  obtain ⟨D, hD⟩ : ∃ A, q.den = A := ⟨_, rfl⟩
  obtain ⟨nb, hnb⟩ : ∃ A, decide (q.num < 0) = A := ⟨_, rfl⟩
  rw [hnb, hA, hD]
  rw [hA] at hn0 hf'
  rw [hD] at hd0 hf'
  clear hA hD hnb
  have hB : ∀ o1 o2, Below w.heap.size w ((w.alloc o1).alloc o2) := fun o1 o2 => ((Below.refl _ _).alloc (Nat.le_refl _) _).alloc (by simp) _
  have HB := hid hB
  clear hB
  have hcase : (4611686018427387904 < A) ∨ (A ≤ 4611686018427387904 ∧ 4611686018427387904 < D) ∨ (A ≤ 4611686018427387904 ∧ D ≤ 4611686018427387904 ∧ 1000000000 < A) ∨ (A ≤ 4611686018427387904 ∧ D ≤ 4611686018427387904 ∧ A ≤ 1000000000 ∧ 1000000000 < D) := by omega
  clear hf'
  rcases hcase with h1 | ⟨h1, h2⟩ | ⟨h1, h2, h3⟩ | ⟨h1, h2, h3, h4⟩
  · go_enter Tryz.func100, Tryz.ntmps100
    go_wp2_with fail
    refine (small_no A _ _ (hn0.below (HB.out _ _)) h1).mono ?_
    rintro e w1 ⟨rfl, rfl⟩
    go_wp2_with fail
    refine (small_any D _ _ (hd0.below (HB.out _ _))).mono ?_
    rintro e w1 ⟨rfl, rfl⟩
    generalize (if smallB D = true then (D : Int) else 0) = z
    generalize smallB D = sb
    go_wp2
    exact bodyPost_ret (v := .tuple #[frV 0 0, .bool false]) (by simp [results, Tryz.results100, go_sem, frV]) rfl ⟨rfl, HB.out _ _⟩
  · go_enter Tryz.func100, Tryz.ntmps100
    go_wp2_with fail
    refine (small_yes A _ _ (hn0.below (HB.out _ _)) h1).mono ?_
    rintro e w1 ⟨rfl, rfl⟩
    go_wp2_with fail
    refine (small_no D _ _ (hd0.below (HB.out _ _)) h2).mono ?_
    rintro e w1 ⟨rfl, rfl⟩
    go_wp2
    exact bodyPost_ret (v := .tuple #[frV 0 0, .bool false]) (by simp [results, Tryz.results100, go_sem, frV]) rfl ⟨rfl, HB.out _ _⟩
  all_goals
    go_enter Tryz.func100, Tryz.ntmps100
    go_wp2_with fail
    refine (small_yes A _ _ (hn0.below (HB.out _ _)) h1).mono ?_
    rintro e w1 ⟨rfl, rfl⟩
    go_wp2_with fail
    refine (small_yes D _ _ (hd0.below (HB.out _ _)) h2).mono ?_
    rintro e w1 ⟨rfl, rfl⟩
    go_wp2
    exact bodyPost_ret (v := .tuple #[frV 0 0, .bool false]) (by simp [results, Tryz.results100, go_sem, frV]) rfl ⟨rfl, HB.out _ _⟩

instance (q : Rat) : Decidable (fits q) := inferInstanceAs (Decidable (_ ∧ _))
/-- What a rational number comes to as a fraction: its numerator, its denominator. -/
def fitN (q : Rat) : Int := if fits q then q.num else 0
def fitD (q : Rat) : Int := if fits q then (q.den : Int) else 0
def fitE (q : Rat) : Int := if fits q then 0 else 5
theorem Frac_any (q : Rat) (v : Value) (w : World) (h : QR w v q) :
    Calls Tryz.prog 100 #[v] w fun e w' => e = .returned (.tuple #[frV (fitN q) (fitD q), .bool (decide (fits q))]) ∧ Below w.heap.size w w' := by
  unfold fitN fitD
  by_cases hf : fits q
  · rw [if_pos hf, if_pos hf, decide_eq_true hf]; exact Frac_yes q v w h hf
  · rw [if_neg hf, if_neg hf, decide_eq_false hf]; exact Frac_no q v w h hf

set_option maxHeartbeats 1000000 in
theorem answer_any (q : Rat) (v : Value) (w : World) (h : QR w v q) :
    Calls Tryz.prog 88 #[v] w fun e w' => e = .returned (.tuple #[frV (fitN q) (fitD q), .int .i64 (fitE q)]) ∧ Below w.heap.size w w' := by
  have h0 := h
  obtain ⟨x0, x1, x2, rfl⟩ := h.shape3
  by_cases hf : fits q
  · rw [show fitE q = 0 from if_pos hf, show fitN q = q.num from if_pos hf, show fitD q = (q.den : Int) from if_pos hf]
    go_enter Tryz.func88, Tryz.ntmps88
    go_wp2_with fail
    obtain ⟨W0, hW0, k0, k2, hB, hsz⟩ := one_new w #[x0, x1, x2] #[.int .i64 0, .int .i64 0] 86 31
    rw [hW0]
    clear hW0
    refine (Frac_yes q _ _ (h0.below hB) hf).mono ?_
    rintro e w1 ⟨rfl, hb1⟩
    have hB1 := hB.trans (hb1.mono hB.size)
    have k1 := k2.below hb1
    have f1 := k1.frozen
    have c0 := k1.cell 0
    have c1 := k1.cell 1
    have hlt := k1.lt
    go_wp2
    refine bodyPost_ret (v := .tuple #[frV q.num (q.den : Int), .int .i64 0]) ?_ rfl ⟨rfl, ?_⟩
    · have kf := ((k1.set 0 (.int .i64 (q.num))).set 1 (.int .i64 ((q.den : Int)))).alloc (.cells #[.int .i64 (q.num), .int .i64 ((q.den : Int))] 31)
      have d0 := kf.cell 0
      have d1 := kf.cell 1
      simp only [Array.getElem?_setIfInBounds] at d0 d1
      simp [results, Tryz.results88, go_sem, d0, d1]
    · exact ((hB1.setCell (Nat.le_add_right _ 1) _).setCell (Nat.le_add_right _ 1) _).alloc (by simp; omega) _
  · rw [show fitE q = 5 from if_neg hf, show fitN q = 0 from if_neg hf, show fitD q = 0 from if_neg hf]
    go_enter Tryz.func88, Tryz.ntmps88
    go_wp2_with fail
    obtain ⟨W0, hW0, k0, k2, hB, hsz⟩ := one_new w #[x0, x1, x2] #[.int .i64 0, .int .i64 0] 86 31
    rw [hW0]
    clear hW0
    refine (Frac_no q _ _ (h0.below hB) hf).mono ?_
    rintro e w1 ⟨rfl, hb1⟩
    have hB1 := hB.trans (hb1.mono hB.size)
    have k1 := k2.below hb1
    have f1 := k1.frozen
    have c0 := k1.cell 0
    have c1 := k1.cell 1
    have hlt := k1.lt
    go_wp2
    refine bodyPost_ret (v := .tuple #[frV 0 0, .int .i64 5]) ?_ rfl ⟨rfl, ?_⟩
    · have kf := ((k1.set 0 (.int .i64 (0))).set 1 (.int .i64 (0))).alloc (.cells #[.int .i64 (0), .int .i64 (0)] 31)
      have d0 := kf.cell 0
      have d1 := kf.cell 1
      simp only [Array.getElem?_setIfInBounds] at d0 d1
      simp [results, Tryz.results88, go_sem, d0, d1]
    · exact ((hB1.setCell (Nat.le_add_right _ 1) _).setCell (Nat.le_add_right _ 1) _).alloc (by simp; omega) _

end Go.Proofs.YtfkclcoipadhmaaGreatDoor

/- Walks of trankref01's New, Valid, All, Sub. -/
namespace Go.Proofs.YtfkclcoipadhmaaGreatDoor
open Go.RowKit

theorem div_mk (n : Int) {d : Int} (hd : 0 < d) : (n : Rat) / (d : Rat) = mkRat n d.natAbs := by
  rw [Rat.mkRat_eq_div]
  have : (d : Rat) = ((d.natAbs : Nat) : Rat) := by rw [← Rat.intCast_natCast, Int.natAbs_of_nonneg (by omega)]
  rw [this]
theorem div_num (n : Int) {d : Int} (hd : 0 < d) : ((n : Rat) / (d : Rat)).num = n / ((Nat.gcd d.natAbs n.natAbs : Nat) : Int) := by
  rw [div_mk n hd, Rat.num_mkRat, if_neg (by omega)]
theorem div_den (n : Int) {d : Int} (hd : 0 < d) : ((n : Rat) / (d : Rat)).den = d.natAbs / Nat.gcd d.natAbs n.natAbs := by
  rw [div_mk n hd, Rat.den_mkRat, if_neg (by omega)]
/-- A fraction within the limits, in lowest terms. -/
def FV (n d : Int) : Prop := 1 ≤ d ∧ d ≤ 1000000000 ∧ -1000000000 ≤ n ∧ n ≤ 1000000000 ∧ Nat.gcd n.natAbs d.natAbs = 1
instance (n d : Int) : Decidable (FV n d) := inferInstanceAs (Decidable (_ ∧ _))
theorem fits_of {n d : Int} (h1 : 1 ≤ d) (h2 : d ≤ 1000000000) (h3 : -1000000000 ≤ n) (h4 : n ≤ 1000000000) : fits ((n : Rat) / (d : Rat)) := by
  have hg : Nat.gcd d.natAbs n.natAbs ∣ n.natAbs := Nat.gcd_dvd_right _ _
  refine ⟨?_, ?_⟩
  · rw [div_num n (by omega), Int.natAbs_ediv_of_dvd (Int.ofNat_dvd_left.2 hg)]
    exact Nat.le_trans (Nat.div_le_self _ _) (by omega)
  · rw [div_den n (by omega)]
    exact Nat.le_trans (Nat.div_le_self _ _) (by omega)
theorem div_self_iff {n d : Int} (h1 : 1 ≤ d) : (((n : Rat) / (d : Rat)).num = n ∧ (((n : Rat) / (d : Rat)).den : Int) = d) ↔ Nat.gcd n.natAbs d.natAbs = 1 := by
  rw [div_num n (by omega), div_den n (by omega), Nat.gcd_comm]
  have hg : 0 < Nat.gcd n.natAbs d.natAbs := Nat.gcd_pos_of_pos_right _ (by omega)
  constructor
  · rintro ⟨_, h⟩
    have hd : d.natAbs / Nat.gcd n.natAbs d.natAbs = d.natAbs := by omega
    have := Nat.div_mul_cancel (Nat.gcd_dvd_right n.natAbs d.natAbs)
    rw [hd] at this
    have h3 : 0 < d.natAbs := by omega
    exact Nat.eq_of_mul_eq_mul_left h3 (by rw [this, Nat.mul_one])
  · intro h
    rw [h]
    simp
    omega
theorem FV.num {n d : Int} (h : FV n d) : ((n : Rat) / (d : Rat)).num = n := ((div_self_iff h.1).2 h.2.2.2.2).1
theorem FV.den {n d : Int} (h : FV n d) : (((n : Rat) / (d : Rat)).den : Int) = d := ((div_self_iff h.1).2 h.2.2.2.2).2

/-- What New(n, d) hands back. -/
def newN (n d : Int) : Int := if d = 0 then 0 else fitN ((n : Rat) / (d : Rat))
def newD (n d : Int) : Int := if d = 0 then 0 else fitD ((n : Rat) / (d : Rat))
def newE (n d : Int) : Int := if d = 0 then 4 else fitE ((n : Rat) / (d : Rat))

end Go.Proofs.YtfkclcoipadhmaaGreatDoor

/- Walks of trankref01's Valid, All. -/
namespace Go.Proofs.YtfkclcoipadhmaaGreatDoor
open Go.RowKit

set_option maxHeartbeats 1000000 in
theorem Valid_any (n d : Int) (w : World) :
    Calls Tryz.prog 63 #[.agg #[.int .i64 n, .int .i64 d]] w fun e w' => e = .returned (.bool (decide (FV n d))) ∧ Below w.heap.size w w' := by
  by_cases hb : 1 ≤ d ∧ d ≤ 1000000000 ∧ -1000000000 ≤ n ∧ n ≤ 1000000000
  · obtain ⟨h1, h2, h3, h4⟩ := hb
    have hfit := fits_of h1 h2 h3 h4
    obtain ⟨q, hq⟩ : ∃ q, (n : Rat) / (d : Rat) = q := ⟨_, rfl⟩
    have hiff := div_self_iff (n := n) h1
    rw [hq] at hfit hiff
    have hdec : decide (FV n d) = decide (q.num = n ∧ (q.den : Int) = d) := by
      apply decide_eq_decide.2
      constructor
      · intro h; exact hiff.2 h.2.2.2.2
      · intro h; exact ⟨h1, h2, h3, h4, hiff.1 h⟩
    have HQ := hid hq
    have HF := hid hfit
    rw [hdec]
    clear hq hfit hiff hdec
    obtain ⟨N, hN⟩ : ∃ N, q.num = N := ⟨_, rfl⟩
    obtain ⟨D, hD⟩ : ∃ D, (q.den : Int) = D := ⟨_, rfl⟩
    have FY : Hid (∀ v w, QR w v q → Calls Tryz.prog 100 #[v] w fun e w' => e = .returned (.tuple #[frV N D, .bool true]) ∧ Below w.heap.size w w') := by
      rw [← hN, ← hD]; exact fun v w h => Frac_yes q v w h HF.out
    rw [hN, hD]
    clear hN hD
    go_enter Tryz.func63, Tryz.ntmps63
    go_wp2_with fail
    have hb0 : Below w.heap.size w (w.alloc (.cells #[.int .i64 n, .int .i64 d] 31)) := (Below.refl _ _).alloc (Nat.le_refl _) _
    have hk0 := Blk.new w #[.int .i64 n, .int .i64 d] 31
    obtain ⟨w0, hw0⟩ : ∃ w0, w.alloc (.cells #[.int .i64 n, .int .i64 d] 31) = w0 := ⟨_, rfl⟩
    rw [hw0] at hb0 hk0 ⊢
    clear hw0
    refine (Of_any n d _ (by omega) (by omega) (by omega) (by omega) (by omega)).mono ?_
    rintro e w1 ⟨v1, rfl, hv1, hb1⟩
    rw [HQ.out] at hv1
    go_wp2_with fail
    refine (FY.out _ _ hv1.rat).mono ?_
    rintro e w2 ⟨rfl, hb2⟩
    have hk2 := (hk0.below hb1).below hb2
    have hB2 : Below w.heap.size w w2 := (hb0.trans (hb1.mono hb0.size)).trans (hb2.mono (Nat.le_trans hb0.size hb1.size))
    have c0 := hk2.cell 0
    have c1 := hk2.cell 1
    have hlt := hk2.lt
    go_wp2
    all_goals
      go_ret
      refine ⟨ret_bool ?_, hB2.alloc (by omega) _⟩
      symm
      first | (rw [decide_eq_true_eq]; omega) | (rw [decide_eq_false_iff_not]; omega)
  · have hdec : decide (FV n d) = false := decide_eq_false (fun h => hb ⟨h.1, h.2.1, h.2.2.1, h.2.2.2.1⟩)
    rw [hdec]
    clear hdec
    have hc : d < 1 ∨ (1 ≤ d ∧ 1000000000 < d) ∨ (1 ≤ d ∧ d ≤ 1000000000 ∧ n < -1000000000) ∨ (1 ≤ d ∧ d ≤ 1000000000 ∧ -1000000000 ≤ n ∧ 1000000000 < n) := by omega
    clear hb
    rcases hc with h1 | ⟨h1, h2⟩ | ⟨h1, h2, h3⟩ | ⟨h1, h2, h3, h4⟩
    all_goals
      go_enter Tryz.func63, Tryz.ntmps63
      go_wp2
      go_ret
      exact ⟨rfl, (Below.refl _ _).alloc (Nat.le_refl _) _⟩

/-- The cells of fractions. -/
def frCells (l : List (Int × Int)) : List Value := l.flatMap fun f => [.int .i64 f.1, .int .i64 f.2]
theorem frCells_len (l : List (Int × Int)) : (frCells l).length = l.length * 2 := by
  induction l with
  | nil => rfl
  | cons x xs ih => simp only [frCells, List.flatMap_cons, List.length_append, List.length_cons, List.length_nil] at *; omega
theorem frCells_append (a b : List (Int × Int)) : frCells (a ++ b) = frCells a ++ frCells b := by unfold frCells; exact List.flatMap_append
theorem frCells_get (l : List (Int × Int)) (i : Nat) (h : i < l.length) : (frCells l).getD (i * 2) undef = .int .i64 (l.getD i (0, 0)).1 ∧ (frCells l).getD (i * 2 + 1) undef = .int .i64 (l.getD i (0, 0)).2 := by
  induction l generalizing i with
  | nil => simp at h
  | cons x xs ih =>
    cases i with
    | zero => simp [frCells]
    | succ i =>
      have := ih i (by simpa using h)
      rw [show (i + 1) * 2 = i * 2 + 1 + 1 by omega]
      simpa [frCells] using this
/-- A slice of fractions. -/
def FrsR (lo : Nat) (w : World) (v : Value) (l : List (Int × Int)) : Prop := SlR lo w v l.length (frCells l)
theorem FrsR.below {lo : Nat} {w w' : World} {v : Value} {l : List (Int × Int)} (h : FrsR lo w v l) (hb : Below w.heap.size w w') : FrsR lo w' v l := SlR.below h hb
theorem fr_cell {lo : Nat} {w : World} {ao : Option Addr} {l : List (Int × Int)} (h : CellsOf lo w ao (frCells l)) {i : Nat} (hi : i < l.length) :
    ∃ b off, ao = some ⟨b, off, none⟩ ∧ b < w.heap.size ∧ w.cell? ⟨b, off + i * 2, none⟩ = some (.int .i64 (l.getD i (0, 0)).1) ∧ w.cell? ⟨b, off + i * 2 + 1, none⟩ = some (.int .i64 (l.getD i (0, 0)).2) := by
  have hl := frCells_len l
  obtain ⟨b, off, h1, _, h2, h3⟩ := h (by intro h0; rw [h0, List.length_nil] at hl; omega)
  obtain ⟨g1, g2⟩ := frCells_get l i hi
  refine ⟨b, off, h1, h2, ?_, ?_⟩
  · rw [h3 (i * 2) (by omega), g1]
  · rw [Nat.add_assoc, h3 (i * 2 + 1) (by omega), g2]

theorem all_take {l : List (Int × Int)} {i : Nat} (hi : i < l.length) (h : ∀ f ∈ l.take i, FV f.1 f.2) (hf : FV (l.getD i (0, 0)).1 (l.getD i (0, 0)).2) : ∀ f ∈ l.take (i + 1), FV f.1 f.2 := by
  intro f hm
  rw [List.take_succ_eq_append_getElem hi] at hm
  rcases List.mem_append.1 hm with hm | hm
  · exact h f hm
  · have : f = l.getD i (0, 0) := by rw [List.getD_eq_getElem?_getD, List.getElem?_eq_getElem hi]; simpa using hm
    rw [this]; exact hf
theorem getD_mem' {l : List (Int × Int)} {i : Nat} (hi : i < l.length) : l.getD i (0, 0) ∈ l := by
  rw [List.getD_eq_getElem?_getD, List.getElem?_eq_getElem hi]; exact List.getElem_mem _

end Go.Proofs.YtfkclcoipadhmaaGreatDoor

/- Walks of trank/frac: size, gcd, lowest, New. -/
namespace Go.Proofs.YtfkclcoipadhmaaGreatDoor
open Go.RowKit

set_option maxHeartbeats 400000 in
theorem size_any (z : Int) (w : World) (h1 : -9223372036854775808 ≤ z) (h2 : z ≤ 9223372036854775807) :
    Calls Tryz.prog 99 #[.int .i64 z] w fun e w' => e = .returned (.int .u64 ((z.natAbs : Nat) : Int)) ∧ w = w' := by
  by_cases hz : z < 0
  · go_enter Tryz.func99, Tryz.ntmps99
    go_wp2
    go_ret
    exact ⟨ret_int (by rw [IntKind.wrap_u64, IntKind.wrap_u64]; omega), rfl⟩
  · go_enter Tryz.func99, Tryz.ntmps99
    go_wp2
    go_ret
    exact ⟨ret_int (by omega), rfl⟩

set_option maxHeartbeats 400000 in
theorem gcd_any (a b : Nat) (w : World) (ha : a < 18446744073709551616) (hb : b < 18446744073709551616) :
    Calls Tryz.prog 98 #[.int .u64 a, .int .u64 b] w fun e w' => e = .returned (.int .u64 (Nat.gcd a b)) ∧ ∃ n, w' = w.drewN n := by
  go_enter Tryz.func98, Tryz.ntmps98
  go_wp2
  go_loopg [0, 1] b (fun j x y wr => ∃ i : Nat, x = .int .u64 i ∧ y = .int .u64 j ∧ i < 18446744073709551616 ∧ j < 18446744073709551616 ∧ Nat.gcd i j = Nat.gcd a b ∧ ∃ n, wr = w.drewN n)
  case atStart => exact ⟨a, rfl, rfl, ha, hb, rfl, dr0 w⟩
  case round =>
    obtain ⟨i, rfl, rfl, hi, hj, hg, n, rfl⟩ := hrel
    have HG := hid hg
    clear hg
    by_cases h0 : gk = 0
    · subst h0
      go_wp2
      go_ret
      exact ⟨ret_int (by rw [← HG.out, Nat.gcd_zero_right]), dr1 _ _⟩
    · go_wp2
      go_quiet (fail)
      go_wp2
      go_roundg (i % gk)
      case measure => exact Nat.mod_lt _ (by omega)
      case rel => exact ⟨gk, rfl, congrArg (Value.int .u64) (Int.natCast_emod _ _).symm, hj, Nat.lt_trans (Nat.mod_lt _ (by omega)) hj, gcd_step HG.out, by first | exact dr1 _ _ | exact dr2 _ _ _⟩

theorem fits_qmk {neg : Bool} {n d : Nat} (hd : d ≠ 0) : fits (qmk neg n d) ↔ (n / Nat.gcd n d ≤ 1000000000 ∧ d / Nat.gcd n d ≤ 1000000000) := by
  unfold fits; rw [qmk_abs neg hd, qmk_den neg hd]
theorem qmk_num {neg : Bool} {n d : Nat} (hd : d ≠ 0) : (qmk neg n d).num = sgn neg (n / Nat.gcd n d) := by
  by_cases hn : n = 0
  · subst hn; rw [qmk_zero]; cases neg <;> simp [sgn]
  · have h1 := qmk_abs neg (n := n) hd
    have h2 := qmk_neg neg hn hd
    have h3 := sgn_self (qmk neg n d).num
    rw [h1, h2] at h3
    exact h3.symm
theorem cells2 (w : World) (b : Nat) (x y : Value) (t : TypeId) (h : Blk w b #[x, y] t) : w.cell? ⟨b, 0, none⟩ = some x ∧ w.cell? ⟨b, 1, none⟩ = some y := ⟨h.cell 0, h.cell 1⟩

set_option maxHeartbeats 1000000 in
theorem lowest_any (neg : Bool) (n d : Nat) (w : World) (hn : n < 18446744073709551616) (hd : d < 18446744073709551616) (h0 : d ≠ 0) :
    Calls Tryz.prog 137 #[.bool neg, .int .u64 n, .int .u64 d] w fun e w' => e = .returned (.tuple #[frV (fitN (qmk neg n d)) (fitD (qmk neg n d)), .int .i64 (fitE (qmk neg n d))]) ∧ Below w.heap.size w w' := by
  have hf := fits_qmk (neg := neg) (n := n) h0
  have hnum := qmk_num (neg := neg) (n := n) h0
  have hden := qmk_den neg (n := n) h0
  have hg0 : 0 < Nat.gcd n d := Nat.gcd_pos_of_pos_right _ (by omega)
  have hgd : Nat.gcd n d ≤ d := Nat.le_of_dvd (by omega) (Nat.gcd_dvd_right _ _)
  have G := fun w => gcd_any n d w hn hd
  obtain ⟨g, hg⟩ : ∃ g, Nat.gcd n d = g := ⟨_, rfl⟩
  rw [hg] at hf hnum hden hg0 hgd G
  obtain ⟨q, hq⟩ : ∃ q, qmk neg n d = q := ⟨_, rfl⟩
  rw [hq] at hf hnum hden ⊢
  clear hg hq
  obtain ⟨A, hA⟩ : ∃ A, n / g = A := ⟨_, rfl⟩
  obtain ⟨D, hD⟩ : ∃ A, d / g = A := ⟨_, rfl⟩
  rw [hA] at hf hnum
  rw [hD] at hf hden
  have hAn : A ≤ n := by rw [← hA]; exact Nat.div_le_self _ _
  have hDd : D ≤ d := by rw [← hD]; exact Nat.div_le_self _ _
  have wA : IntKind.u64.wrap ((n : Int) / (g : Int)) = (A : Int) := by rw [← Int.natCast_ediv, hA]; exact wrap_nat (by omega)
  have wD : IntKind.u64.wrap ((d : Int) / (g : Int)) = (D : Int) := by rw [← Int.natCast_ediv, hD]; exact wrap_nat (by omega)
  have hA1 : g = 1 → A = n := by intro h; rw [← hA, h, Nat.div_one]
  have hD1 : g = 1 → D = d := by intro h; rw [← hD, h, Nat.div_one]
  have HG := hid G
  have HA1 := hid hA1
  have HD1 := hid hD1
  have HF := hid hf
  have HN := hid hnum
  have HDN := hid hden
  clear G hA hD hA1 hD1 hf hnum hden h0
  have hbl : ∀ o (k : Nat), Below w.heap.size w ((w.alloc o).drewN k) := fun o k => below_drewN0 ((Below.refl _ _).alloc (Nat.le_refl _) _) k
  have HB := hid hbl
  clear hbl
  by_cases hg1 : 1 < g
  · by_cases hfit : fits q
    · rw [show fitE q = 0 from if_pos hfit, show fitN q = q.num from if_pos hfit, show fitD q = q.den from if_pos hfit, HN.out, HDN.out]
      obtain ⟨hf1, hf2⟩ := HF.out.1 hfit
      clear hfit
      cases neg
      · go_enter Tryz.func137, Tryz.ntmps137
        go_wp2_with fail
        refine (HG.out _).mono ?_
        rintro e w1 ⟨rfl, k, rfl⟩
        go_wp2
        go_quiet (fail)
        go_wp2
        exact bodyPost_ret (v := .tuple #[frV (sgn false A) (D : Int), .int .i64 0]) (by simp [results, Tryz.results137, go_sem, sgn]) rfl ⟨rfl, by (repeat' (first | exact Below.refl _ _ | assumption | (refine Below.setCell ?_ ?_ _) | (refine Below.alloc ?_ ?_ _) | (refine below_drewN0 ?_ _) | (refine Below.drew ?_))) <;> (first | exact Nat.le_refl _ | (simp; done) | (simp; omega) | omega)⟩
      · go_enter Tryz.func137, Tryz.ntmps137
        go_wp2_with fail
        refine (HG.out _).mono ?_
        rintro e w1 ⟨rfl, k, rfl⟩
        go_wp2
        go_quiet (fail)
        go_wp2
        exact bodyPost_ret (v := .tuple #[frV (sgn true A) (D : Int), .int .i64 0]) (by simp [results, Tryz.results137, go_sem, sgn]) rfl ⟨rfl, by (repeat' (first | exact Below.refl _ _ | assumption | (refine Below.setCell ?_ ?_ _) | (refine Below.alloc ?_ ?_ _) | (refine below_drewN0 ?_ _) | (refine Below.drew ?_))) <;> (first | exact Nat.le_refl _ | (simp; done) | (simp; omega) | omega)⟩
    · rw [show fitE q = 5 from if_neg hfit, show fitN q = 0 from if_neg hfit, show fitD q = 0 from if_neg hfit]
      have hno : 1000000000 < A ∨ (A ≤ 1000000000 ∧ 1000000000 < D) := by
        by_cases h1 : A ≤ 1000000000
        · by_cases h2 : D ≤ 1000000000
          · exact absurd (HF.out.2 ⟨h1, h2⟩) hfit
          · exact .inr ⟨h1, by omega⟩
        · exact .inl (by omega)
      clear hfit
      rcases hno with h1 | ⟨h1, h2⟩
      · go_enter Tryz.func137, Tryz.ntmps137
        go_wp2_with fail
        refine (HG.out _).mono ?_
        rintro e w1 ⟨rfl, k, rfl⟩
        go_wp2
        go_quiet (fail)
        go_wp2
        exact bodyPost_ret (v := .tuple #[frV 0 0, .int .i64 5]) (by simp [results, Tryz.results137, go_sem]) rfl ⟨rfl, by (repeat' (first | exact Below.refl _ _ | assumption | (refine Below.setCell ?_ ?_ _) | (refine Below.alloc ?_ ?_ _) | (refine below_drewN0 ?_ _) | (refine Below.drew ?_))) <;> (first | exact Nat.le_refl _ | (simp; done) | (simp; omega) | omega)⟩
      · go_enter Tryz.func137, Tryz.ntmps137
        go_wp2_with fail
        refine (HG.out _).mono ?_
        rintro e w1 ⟨rfl, k, rfl⟩
        go_wp2
        go_quiet (fail)
        go_wp2
        exact bodyPost_ret (v := .tuple #[frV 0 0, .int .i64 5]) (by simp [results, Tryz.results137, go_sem]) rfl ⟨rfl, by (repeat' (first | exact Below.refl _ _ | assumption | (refine Below.setCell ?_ ?_ _) | (refine Below.alloc ?_ ?_ _) | (refine below_drewN0 ?_ _) | (refine Below.drew ?_))) <;> (first | exact Nat.le_refl _ | (simp; done) | (simp; omega) | omega)⟩
  · obtain rfl : g = 1 := by omega
    obtain rfl := HA1.out rfl
    obtain rfl := HD1.out rfl
    clear wA wD hAn hDd
    by_cases hfit : fits q
    · rw [show fitE q = 0 from if_pos hfit, show fitN q = q.num from if_pos hfit, show fitD q = q.den from if_pos hfit, HN.out, HDN.out]
      obtain ⟨hf1, hf2⟩ := HF.out.1 hfit
      clear hfit
      cases neg
      · go_enter Tryz.func137, Tryz.ntmps137
        go_wp2_with fail
        refine (HG.out _).mono ?_
        rintro e w1 ⟨rfl, k, rfl⟩
        go_wp2
        exact bodyPost_ret (v := .tuple #[frV (sgn false A) (D : Int), .int .i64 0]) (by simp [results, Tryz.results137, go_sem, sgn]) rfl ⟨rfl, by (repeat' (first | exact Below.refl _ _ | assumption | (refine Below.setCell ?_ ?_ _) | (refine Below.alloc ?_ ?_ _) | (refine below_drewN0 ?_ _) | (refine Below.drew ?_))) <;> (first | exact Nat.le_refl _ | (simp; done) | (simp; omega) | omega)⟩
      · go_enter Tryz.func137, Tryz.ntmps137
        go_wp2_with fail
        refine (HG.out _).mono ?_
        rintro e w1 ⟨rfl, k, rfl⟩
        go_wp2
        exact bodyPost_ret (v := .tuple #[frV (sgn true A) (D : Int), .int .i64 0]) (by simp [results, Tryz.results137, go_sem, sgn]) rfl ⟨rfl, by (repeat' (first | exact Below.refl _ _ | assumption | (refine Below.setCell ?_ ?_ _) | (refine Below.alloc ?_ ?_ _) | (refine below_drewN0 ?_ _) | (refine Below.drew ?_))) <;> (first | exact Nat.le_refl _ | (simp; done) | (simp; omega) | omega)⟩
    · rw [show fitE q = 5 from if_neg hfit, show fitN q = 0 from if_neg hfit, show fitD q = 0 from if_neg hfit]
      have hno : 1000000000 < A ∨ (A ≤ 1000000000 ∧ 1000000000 < D) := by
        by_cases h1 : A ≤ 1000000000
        · by_cases h2 : D ≤ 1000000000
          · exact absurd (HF.out.2 ⟨h1, h2⟩) hfit
          · exact .inr ⟨h1, by omega⟩
        · exact .inl (by omega)
      clear hfit
      rcases hno with h1 | ⟨h1, h2⟩
      · go_enter Tryz.func137, Tryz.ntmps137
        go_wp2_with fail
        refine (HG.out _).mono ?_
        rintro e w1 ⟨rfl, k, rfl⟩
        go_wp2
        exact bodyPost_ret (v := .tuple #[frV 0 0, .int .i64 5]) (by simp [results, Tryz.results137, go_sem]) rfl ⟨rfl, by (repeat' (first | exact Below.refl _ _ | assumption | (refine Below.setCell ?_ ?_ _) | (refine Below.alloc ?_ ?_ _) | (refine below_drewN0 ?_ _) | (refine Below.drew ?_))) <;> (first | exact Nat.le_refl _ | (simp; done) | (simp; omega) | omega)⟩
      · go_enter Tryz.func137, Tryz.ntmps137
        go_wp2_with fail
        refine (HG.out _).mono ?_
        rintro e w1 ⟨rfl, k, rfl⟩
        go_wp2
        exact bodyPost_ret (v := .tuple #[frV 0 0, .int .i64 5]) (by simp [results, Tryz.results137, go_sem]) rfl ⟨rfl, by (repeat' (first | exact Below.refl _ _ | assumption | (refine Below.setCell ?_ ?_ _) | (refine Below.alloc ?_ ?_ _) | (refine below_drewN0 ?_ _) | (refine Below.drew ?_))) <;> (first | exact Nat.le_refl _ | (simp; done) | (simp; omega) | omega)⟩

end Go.Proofs.YtfkclcoipadhmaaGreatDoor

/- Walks of trank/frac: New, Valid. -/
namespace Go.Proofs.YtfkclcoipadhmaaGreatDoor
open Go.RowKit

theorem qmk_of_div (n d : Int) (neg : Bool) (h0 : d ≠ 0) (hneg : (n = 0) ∨ (neg = false ∧ 0 < n ∧ 0 < d) ∨ (neg = false ∧ n < 0 ∧ d < 0) ∨ (neg = true ∧ n < 0 ∧ 0 < d) ∨ (neg = true ∧ 0 < n ∧ d < 0)) :
    qmk neg n.natAbs d.natAbs = (n : Rat) / (d : Rat) := by
  rcases hneg with rfl | ⟨rfl, h1, h2⟩ | ⟨rfl, h1, h2⟩ | ⟨rfl, h1, h2⟩ | ⟨rfl, h1, h2⟩
  · rw [show (0 : Int).natAbs = 0 from rfl, qmk_zero, Rat.intCast_zero, Rat.div_def, Rat.zero_mul]
  all_goals
    rw [qmk_div]
    have hd : ((d.natAbs : Nat) : Rat) = (((d.natAbs : Nat) : Int) : Rat) := (Rat.intCast_natCast _).symm
    rw [hd]
  · rw [show sgn false n.natAbs = n by simp [sgn]; omega, show ((d.natAbs : Nat) : Int) = d by omega]
  · rw [show sgn false n.natAbs = -n by simp [sgn]; omega, show ((d.natAbs : Nat) : Int) = -d by omega, Rat.intCast_neg, Rat.intCast_neg]
    have h : (d : Rat) ≠ 0 := by simpa using h0
    generalize (n : Rat) = x at *
    generalize (d : Rat) = y at *
    grind
  · rw [show sgn true n.natAbs = n by simp [sgn]; omega, show ((d.natAbs : Nat) : Int) = d by omega]
  · rw [show sgn true n.natAbs = -n by simp [sgn]; omega, show ((d.natAbs : Nat) : Int) = -d by omega, Rat.intCast_neg, Rat.intCast_neg]
    have h : (d : Rat) ≠ 0 := by simpa using h0
    generalize (n : Rat) = x at *
    generalize (d : Rat) = y at *
    grind

set_option maxHeartbeats 1000000 in
theorem fNew_any (n d : Int) (w : World) (hn1 : -9223372036854775808 ≤ n) (hn2 : n ≤ 9223372036854775807) (hd1 : -9223372036854775808 ≤ d) (hd2 : d ≤ 9223372036854775807) :
    Calls Tryz.prog 125 #[.int .i64 n, .int .i64 d] w fun e w' => e = .returned (.tuple #[frV (newN n d) (newD n d), .int .i64 (newE n d)]) ∧ Below w.heap.size w w' := by
  by_cases h0 : d = 0
  · subst h0
    rw [show newN n 0 = 0 from rfl, show newD n 0 = 0 from rfl, show newE n 0 = 4 from rfl]
    go_enter Tryz.func125, Tryz.ntmps125
    go_wp2
    exact bodyPost_ret (v := .tuple #[frV 0 0, .int .i64 4]) (by simp [results, Tryz.results125, go_sem]) rfl ⟨rfl, (Below.refl _ _).alloc (Nat.le_refl _) _⟩
  · rw [show newN n d = fitN ((n : Rat) / (d : Rat)) from if_neg h0, show newD n d = fitD ((n : Rat) / (d : Rat)) from if_neg h0, show newE n d = fitE ((n : Rat) / (d : Rat)) from if_neg h0]
    have hz : (d == 0) = false := by simpa using h0
    have hcase : (n = 0) ∨ (0 < n ∧ 0 < d) ∨ (n < 0 ∧ d < 0) ∨ (n < 0 ∧ 0 < d) ∨ (0 < n ∧ d < 0) := by omega
    have LOW : ∀ neg, ((n = 0) ∨ (neg = false ∧ 0 < n ∧ 0 < d) ∨ (neg = false ∧ n < 0 ∧ d < 0) ∨ (neg = true ∧ n < 0 ∧ 0 < d) ∨ (neg = true ∧ 0 < n ∧ d < 0)) → ∀ w, Calls Tryz.prog 137 #[.bool neg, .int .u64 ((n.natAbs : Nat) : Int), .int .u64 ((d.natAbs : Nat) : Int)] w fun e w' => e = .returned (.tuple #[frV (fitN ((n : Rat) / (d : Rat))) (fitD ((n : Rat) / (d : Rat))), .int .i64 (fitE ((n : Rat) / (d : Rat)))]) ∧ Below w.heap.size w w' := by
      intro neg hneg w
      have := lowest_any neg n.natAbs d.natAbs w (by omega) (by omega) (by omega)
      rw [qmk_of_div n d neg h0 hneg] at this
      exact this
    generalize fitN ((n : Rat) / (d : Rat)) = N at *
    generalize fitD ((n : Rat) / (d : Rat)) = D at *
    generalize fitE ((n : Rat) / (d : Rat)) = E at *
    have HL := hid LOW
    clear LOW h0
    rcases hcase with rfl | ⟨h1, h2⟩ | ⟨h1, h2⟩ | ⟨h1, h2⟩ | ⟨h1, h2⟩
    · go_enter Tryz.func125, Tryz.ntmps125
      go_wp2_with fail
      refine (size_any _ _ (by omega) (by omega)).mono ?_
      rintro e w1 ⟨rfl, rfl⟩
      go_wp2_with fail
      refine (size_any _ _ (by omega) (by omega)).mono ?_
      rintro e w1 ⟨rfl, rfl⟩
      go_wp2_with fail
      have hk := Blk.new w #[.int .i64 0, .int .i64 0] 31
      have hb0 : Below w.heap.size w (w.alloc (.cells #[.int .i64 0, .int .i64 0] 31)) := (Below.refl _ _).alloc (Nat.le_refl _) _
      refine (HL.out false (by simp) _).mono ?_
      rintro e w1 ⟨rfl, hb1⟩
      have hk1 := hk.below hb1
      have hB1 := hb0.trans (hb1.mono hb0.size)
      have f1 := hk1.frozen
      have c0 := hk1.cell 0
      have c1 := hk1.cell 1
      go_wp2
      refine bodyPost_ret (v := .tuple #[frV N D, .int .i64 E]) ?_ rfl ⟨rfl, (hB1.setCell (Nat.le_refl _) _).setCell (Nat.le_refl _) _⟩
      simp [results, Tryz.results125, go_sem, c0, c1]
    · go_enter Tryz.func125, Tryz.ntmps125
      go_wp2_with fail
      refine (size_any _ _ (by omega) (by omega)).mono ?_
      rintro e w1 ⟨rfl, rfl⟩
      go_wp2_with fail
      refine (size_any _ _ (by omega) (by omega)).mono ?_
      rintro e w1 ⟨rfl, rfl⟩
      go_wp2_with fail
      have hk := Blk.new w #[.int .i64 0, .int .i64 0] 31
      have hb0 : Below w.heap.size w (w.alloc (.cells #[.int .i64 0, .int .i64 0] 31)) := (Below.refl _ _).alloc (Nat.le_refl _) _
      refine (HL.out _ (.inr (.inl ⟨(by have hn0 : (n != 0) = true := bne_iff_ne.2 (by omega); first | rfl | (simp [hn0]; done) | (simp [hn0]; omega)), h1, h2⟩)) _).mono ?_
      rintro e w1 ⟨rfl, hb1⟩
      have hk1 := hk.below hb1
      have hB1 := hb0.trans (hb1.mono hb0.size)
      have f1 := hk1.frozen
      have c0 := hk1.cell 0
      have c1 := hk1.cell 1
      go_wp2
      refine bodyPost_ret (v := .tuple #[frV N D, .int .i64 E]) ?_ rfl ⟨rfl, (hB1.setCell (Nat.le_refl _) _).setCell (Nat.le_refl _) _⟩
      simp [results, Tryz.results125, go_sem, c0, c1]
    · go_enter Tryz.func125, Tryz.ntmps125
      go_wp2_with fail
      refine (size_any _ _ (by omega) (by omega)).mono ?_
      rintro e w1 ⟨rfl, rfl⟩
      go_wp2_with fail
      refine (size_any _ _ (by omega) (by omega)).mono ?_
      rintro e w1 ⟨rfl, rfl⟩
      go_wp2_with fail
      have hk := Blk.new w #[.int .i64 0, .int .i64 0] 31
      have hb0 : Below w.heap.size w (w.alloc (.cells #[.int .i64 0, .int .i64 0] 31)) := (Below.refl _ _).alloc (Nat.le_refl _) _
      refine (HL.out _ (.inr (.inr (.inl ⟨(by have hn0 : (n != 0) = true := bne_iff_ne.2 (by omega); first | rfl | (simp [hn0]; done) | (simp [hn0]; omega)), h1, h2⟩))) _).mono ?_
      rintro e w1 ⟨rfl, hb1⟩
      have hk1 := hk.below hb1
      have hB1 := hb0.trans (hb1.mono hb0.size)
      have f1 := hk1.frozen
      have c0 := hk1.cell 0
      have c1 := hk1.cell 1
      go_wp2
      refine bodyPost_ret (v := .tuple #[frV N D, .int .i64 E]) ?_ rfl ⟨rfl, (hB1.setCell (Nat.le_refl _) _).setCell (Nat.le_refl _) _⟩
      simp [results, Tryz.results125, go_sem, c0, c1]
    · go_enter Tryz.func125, Tryz.ntmps125
      go_wp2_with fail
      refine (size_any _ _ (by omega) (by omega)).mono ?_
      rintro e w1 ⟨rfl, rfl⟩
      go_wp2_with fail
      refine (size_any _ _ (by omega) (by omega)).mono ?_
      rintro e w1 ⟨rfl, rfl⟩
      go_wp2_with fail
      have hk := Blk.new w #[.int .i64 0, .int .i64 0] 31
      have hb0 : Below w.heap.size w (w.alloc (.cells #[.int .i64 0, .int .i64 0] 31)) := (Below.refl _ _).alloc (Nat.le_refl _) _
      refine (HL.out _ (.inr (.inr (.inr (.inl ⟨(by have hn0 : (n != 0) = true := bne_iff_ne.2 (by omega); first | rfl | (simp [hn0]; done) | (simp [hn0]; omega)), h1, h2⟩)))) _).mono ?_
      rintro e w1 ⟨rfl, hb1⟩
      have hk1 := hk.below hb1
      have hB1 := hb0.trans (hb1.mono hb0.size)
      have f1 := hk1.frozen
      have c0 := hk1.cell 0
      have c1 := hk1.cell 1
      go_wp2
      refine bodyPost_ret (v := .tuple #[frV N D, .int .i64 E]) ?_ rfl ⟨rfl, (hB1.setCell (Nat.le_refl _) _).setCell (Nat.le_refl _) _⟩
      simp [results, Tryz.results125, go_sem, c0, c1]
    · go_enter Tryz.func125, Tryz.ntmps125
      go_wp2_with fail
      refine (size_any _ _ (by omega) (by omega)).mono ?_
      rintro e w1 ⟨rfl, rfl⟩
      go_wp2_with fail
      refine (size_any _ _ (by omega) (by omega)).mono ?_
      rintro e w1 ⟨rfl, rfl⟩
      go_wp2_with fail
      have hk := Blk.new w #[.int .i64 0, .int .i64 0] 31
      have hb0 : Below w.heap.size w (w.alloc (.cells #[.int .i64 0, .int .i64 0] 31)) := (Below.refl _ _).alloc (Nat.le_refl _) _
      refine (HL.out _ (.inr (.inr (.inr (.inr ⟨(by have hn0 : (n != 0) = true := bne_iff_ne.2 (by omega); first | rfl | (simp [hn0]; done) | (simp [hn0]; omega)), h1, h2⟩)))) _).mono ?_
      rintro e w1 ⟨rfl, hb1⟩
      have hk1 := hk.below hb1
      have hB1 := hb0.trans (hb1.mono hb0.size)
      have f1 := hk1.frozen
      have c0 := hk1.cell 0
      have c1 := hk1.cell 1
      go_wp2
      refine bodyPost_ret (v := .tuple #[frV N D, .int .i64 E]) ?_ rfl ⟨rfl, (hB1.setCell (Nat.le_refl _) _).setCell (Nat.le_refl _) _⟩
      simp [results, Tryz.results125, go_sem, c0, c1]

end Go.Proofs.YtfkclcoipadhmaaGreatDoor

/- Walks of trank/frac: Valid. -/
namespace Go.Proofs.YtfkclcoipadhmaaGreatDoor
open Go.RowKit

set_option maxHeartbeats 1000000 in
theorem fValid_any (n d : Int) (w : World) :
    Calls Tryz.prog 61 #[.agg #[.int .i64 n, .int .i64 d]] w fun e w' => e = .returned (.bool (decide (FV n d))) ∧ Below w.heap.size w w' := by
  have hB : ∀ o (k : Nat), Below w.heap.size w ((w.alloc o).drewN k) := fun o k => below_drewN0 ((Below.refl _ _).alloc (Nat.le_refl _) _) k
  have HB := hid hB
  clear hB
  by_cases hb : 1 ≤ d ∧ d ≤ 1000000000 ∧ -1000000000 ≤ n ∧ n ≤ 1000000000
  · obtain ⟨h1, h2, h3, h4⟩ := hb
    have hdec : decide (FV n d) = (((Nat.gcd n.natAbs d.natAbs : Nat) : Int) == 1) := by
      by_cases hg : Nat.gcd n.natAbs d.natAbs = 1
      · have hFV : FV n d := ⟨h1, h2, h3, h4, hg⟩
        rw [decide_eq_true hFV, hg]; rfl
      · rw [decide_eq_false (fun h : FV n d => hg h.2.2.2.2)]; symm; rw [beq_eq_false_iff_ne]; omega
    rw [hdec]
    have hd : d = ((d.natAbs : Nat) : Int) := by omega
    have HG : Hid (∀ w, Calls Tryz.prog 98 #[.int .u64 ((n.natAbs : Nat) : Int), .int .u64 d] w fun e w' => e = .returned (.int .u64 (Nat.gcd n.natAbs d.natAbs)) ∧ ∃ n, w' = w.drewN n) := by
      intro w; have := gcd_any n.natAbs d.natAbs w (by omega) (by omega); rw [← hd] at this; exact this
    clear hdec hd
    go_enter Tryz.func61, Tryz.ntmps61
    go_wp2
    go_quiet (first | (go_at_call 99; exact Calls.quiet_of_same ((size_any _ _ (by omega) (by omega)).mono fun e w' h => ⟨h.1, h.2.symm⟩)) | (go_at_call 98; exact Calls.quiet_of (HG.out _)))
    go_wp2
    go_ret
    exact ⟨rfl, HB.out _ _⟩
  · have hdec : decide (FV n d) = false := decide_eq_false (fun h => hb ⟨h.1, h.2.1, h.2.2.1, h.2.2.2.1⟩)
    rw [hdec]
    clear hdec
    have hc : d < 1 ∨ (1 ≤ d ∧ 1000000000 < d) ∨ (1 ≤ d ∧ d ≤ 1000000000 ∧ n < -1000000000) ∨ (1 ≤ d ∧ d ≤ 1000000000 ∧ -1000000000 ≤ n ∧ 1000000000 < n) := by omega
    clear hb
    rcases hc with h1 | ⟨h1, h2⟩ | ⟨h1, h2, h3⟩ | ⟨h1, h2, h3, h4⟩
    · have e1 : decide (1 ≤ d) = false := decide_eq_false (by omega)
      go_enter Tryz.func61, Tryz.ntmps61
      go_wp2
      go_quiet (fail)
      go_wp2
      go_ret
      exact ⟨rfl, HB.out _ _⟩
    · have e1 : decide (d ≤ 1000000000) = false := decide_eq_false (by omega)
      go_enter Tryz.func61, Tryz.ntmps61
      go_wp2
      go_quiet (fail)
      go_wp2
      go_ret
      exact ⟨rfl, HB.out _ _⟩
    · have e1 : decide (-1000000000 ≤ n) = false := decide_eq_false (by omega)
      go_enter Tryz.func61, Tryz.ntmps61
      go_wp2
      go_quiet (fail)
      go_wp2
      go_ret
      exact ⟨rfl, HB.out _ _⟩
    · have e1 : decide (n ≤ 1000000000) = false := decide_eq_false (by omega)
      go_enter Tryz.func61, Tryz.ntmps61
      go_wp2
      go_quiet (fail)
      go_wp2
      go_ret
      exact ⟨rfl, HB.out _ _⟩

end Go.Proofs.YtfkclcoipadhmaaGreatDoor
