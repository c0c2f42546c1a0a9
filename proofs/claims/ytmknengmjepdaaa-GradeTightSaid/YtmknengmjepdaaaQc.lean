/- Walks of trankref01's rational numbers: Int, Minus, Sign. -/
import Derived.Test.YtmknengmjepdaaaQb
namespace Go.Proofs.Ytmknengmjepdaaa
open Go.RowKit

theorem qmk_int (z : Int) (neg : Bool) (h : sgn neg z.natAbs = z) : qmk neg z.natAbs 1 = (z : Rat) := by
  unfold qmk; rw [h, Rat.mkRat_one]
theorem int_size {z : Int} (h1 : -9223372036854775808 ≤ z) (h2 : z ≤ 9223372036854775807) : QS 2 (z : Rat) :=
  ⟨digs_len_two (by rw [Rat.num_intCast]; omega), digs_len_two (by rw [Rat.den_intCast]; omega)⟩
theorem len_one : (digs 1).length ≤ 1073741824 := Nat.le_trans (digs_len_small (by decide)) (by decide)
theorem sgn_neg' {z : Int} (h : z < 0) : sgn true z.natAbs = z := by simp [sgn]; omega
theorem sgn_pos' {z : Int} (h : 0 ≤ z) : sgn false z.natAbs = z := by simp [sgn]; omega

set_option maxHeartbeats 1000000 in
theorem Int_any (z : Int) (w : World) (h1 : -9223372036854775808 ≤ z) (h2 : z ≤ 9223372036854775807) :
    Calls Try.prog 41 #[.int .i64 z] w fun e w' => ∃ v', e = .returned v' ∧ QF w.heap.size w' v' (z : Rat) ∧ Below w.heap.size w w' := by
  have hlen : (digs z.natAbs).length ≤ 1073741824 := Nat.le_trans (digs_len_two (by omega)) (by decide)
  by_cases hz : z < 0
  · go_enter Try.func41, Try.ntmps41
    go_wp2_with fail
    have hb0 : Below w.heap.size w (w.alloc (.cells #[.bool false, .slice none 0 0, .slice none 0 0] 43)) := (Below.refl _ _).alloc (Nat.le_refl _) _
    have hk0 := Blk.new w #[.bool false, .slice none 0 0, .slice none 0 0] 43
    obtain ⟨w0, hw0⟩ : ∃ w0, w.alloc (.cells #[.bool false, .slice none 0 0, .slice none 0 0] 43) = w0 := ⟨_, rfl⟩
    rw [hw0] at hb0 hk0 ⊢
    clear hw0
    refine (natural_z z.natAbs _ _ (by omega) (by omega)).mono ?_
    rintro e w1 ⟨v1, rfl, hv1, hb1⟩
    go_wp2_with fail
    refine (made_any true z.natAbs 1 _ _ _ (hv1.below ((Below.refl _ _).alloc (Nat.le_refl _) _)).nat (natR_one _ _).nat (by decide) hlen len_one).mono ?_
    rintro e w2 ⟨v2, rfl, hv2, hb2⟩
    have hb12 : Below w1.heap.size w1 w2 := ((Below.refl _ _).alloc (Nat.le_refl _) _).trans (hb2.mono (by simp))
    have hb02 : Below w.heap.size w w2 := (hb0.trans (hb1.mono hb0.size)).trans (hb12.mono (Nat.le_trans hb0.size hb1.size))
    have hk2 := (hk0.below hb1).below hb12
    have f0 := hk2.frozen
    have c0 := hk2.cell 0
    have c1 := hk2.cell 1
    have c2 := hk2.cell 2
    rw [qmk_int z true (sgn_neg' hz)] at hv2
    have hv2' := hv2.mono (lo' := w.heap.size + 1) (by have := hk0.lt; have := hb1.size; simp; omega)
    obtain ⟨nb, no, nn, nc, do_, dn, dc, rfl⟩ := hv2.shape
    go_wp2
    refine bodyPost_ret (v := .agg #[.bool nb, .slice no nn nc, .slice do_ dn dc]) ?_ rfl ⟨_, rfl, (((hv2'.setCell (Nat.lt_succ_self _) _).setCell (Nat.lt_succ_self _) _).setCell (Nat.lt_succ_self _) _).mono (Nat.le_succ _), ((hb02.setCell (Nat.le_refl _) _).setCell (Nat.le_refl _) _).setCell (Nat.le_refl _) _⟩
    simp [results, Try.results41, go_sem, c0, c1, c2]
  · go_enter Try.func41, Try.ntmps41
    go_wp2_with fail
    have hb0 : Below w.heap.size w (w.alloc (.cells #[.bool false, .slice none 0 0, .slice none 0 0] 43)) := (Below.refl _ _).alloc (Nat.le_refl _) _
    have hk0 := Blk.new w #[.bool false, .slice none 0 0, .slice none 0 0] 43
    obtain ⟨w0, hw0⟩ : ∃ w0, w.alloc (.cells #[.bool false, .slice none 0 0, .slice none 0 0] 43) = w0 := ⟨_, rfl⟩
    rw [hw0] at hb0 hk0 ⊢
    clear hw0
    refine (natural_z z.natAbs _ _ (by omega) (by omega)).mono ?_
    rintro e w1 ⟨v1, rfl, hv1, hb1⟩
    go_wp2_with fail
    refine (made_any false z.natAbs 1 _ _ _ (hv1.below ((Below.refl _ _).alloc (Nat.le_refl _) _)).nat (natR_one _ _).nat (by decide) hlen len_one).mono ?_
    rintro e w2 ⟨v2, rfl, hv2, hb2⟩
    have hb12 : Below w1.heap.size w1 w2 := ((Below.refl _ _).alloc (Nat.le_refl _) _).trans (hb2.mono (by simp))
    have hb02 : Below w.heap.size w w2 := (hb0.trans (hb1.mono hb0.size)).trans (hb12.mono (Nat.le_trans hb0.size hb1.size))
    have hk2 := (hk0.below hb1).below hb12
    have f0 := hk2.frozen
    have c0 := hk2.cell 0
    have c1 := hk2.cell 1
    have c2 := hk2.cell 2
    rw [qmk_int z false (sgn_pos' hz)] at hv2
    have hv2' := hv2.mono (lo' := w.heap.size + 1) (by have := hk0.lt; have := hb1.size; simp; omega)
    obtain ⟨nb, no, nn, nc, do_, dn, dc, rfl⟩ := hv2.shape
    go_wp2
    refine bodyPost_ret (v := .agg #[.bool nb, .slice no nn nc, .slice do_ dn dc]) ?_ rfl ⟨_, rfl, (((hv2'.setCell (Nat.lt_succ_self _) _).setCell (Nat.lt_succ_self _) _).setCell (Nat.lt_succ_self _) _).mono (Nat.le_succ _), ((hb02.setCell (Nat.le_refl _) _).setCell (Nat.le_refl _) _).setCell (Nat.le_refl _) _⟩
    simp [results, Try.results41, go_sem, c0, c1, c2]

theorem neg_rep {lo : Nat} {w : World} {q : Rat} {n d : Value} (h0 : q.num ≠ 0) (h1 : NatF lo w n q.num.natAbs) (h2 : NatF lo w d q.den) : QF lo w (.agg #[.bool (!decide (q.num < 0)), n, d]) (-q) := by
  refine ⟨n, d, ?_, by rw [Rat.neg_num, Int.natAbs_neg]; exact h1, by rw [Rat.neg_den]; exact h2⟩
  have : (!decide (q.num < 0)) = decide ((-q).num < 0) := by
    rw [Rat.neg_num]
    by_cases h : q.num < 0
    · rw [decide_eq_true h, decide_eq_false (by omega)]; rfl
    · rw [decide_eq_false h, decide_eq_true (by omega)]; rfl
  rw [this]
theorem neg_zero_rat {q : Rat} (h : q.num = 0) : -q = q := by rw [Rat.num_eq_zero.1 h]; rfl

set_option maxHeartbeats 1000000 in
theorem Minus_any (lo : Nat) (q : Rat) (v : Value) (w : World) (h : QF lo w v q) :
    Calls Try.prog 111 #[v] w fun e w' => ∃ v', e = .returned v' ∧ QF lo w' v' (-q) ∧ Below w.heap.size w w' := by
  obtain ⟨n, d, rfl, hn, hd⟩ := h
  have hn0 := hn
  have hd0 := hd
  obtain ⟨no, nc, rfl, _⟩ := hn
  obtain ⟨do_, dc, rfl, _⟩ := hd
  obtain ⟨nb, hnb⟩ : ∃ nb, decide (q.num < 0) = nb := ⟨_, rfl⟩
  rw [hnb]
  have HNB := hid hnb
  clear hnb
  by_cases h0 : q.num = 0
  · have hl : (digs q.num.natAbs).length = 0 := by rw [digs_len_zero]; omega
    rw [hl] at hn0 ⊢
    have H0 := hid h0
    clear h0 hl
    go_enter Try.func111, Try.ntmps111
    go_wp2
    have hB : ∀ o1 o2, Below w.heap.size w ((w.alloc o1).alloc o2) := fun o1 o2 => ((Below.refl _ _).alloc (Nat.le_refl _) _).alloc (by simp) _
    refine bodyPost_ret (v := .agg #[.bool nb, .slice no 0 nc, .slice do_ (digs q.den).length dc]) ?_ rfl ⟨_, rfl, ?_, hB _ _⟩
    · simp [results, Try.results111, go_sem]
    · rw [neg_zero_rat H0.out, ← HNB.out]
      exact ⟨_, _, rfl, hn0.below (hB _ _), hd0.below (hB _ _)⟩
  · have hl : 0 < (digs q.num.natAbs).length := by have := @digs_len_zero q.num.natAbs; omega
    obtain ⟨k, hk⟩ : ∃ k, (digs q.num.natAbs).length = k := ⟨_, rfl⟩
    rw [hk] at hl hn0 ⊢
    have H0 := hid h0
    clear h0 hk
    go_enter Try.func111, Try.ntmps111
    go_wp2
    have hB : ∀ o1 o2, Below w.heap.size w ((w.alloc o1).alloc o2) := fun o1 o2 => ((Below.refl _ _).alloc (Nat.le_refl _) _).alloc (by simp) _
    refine bodyPost_ret (v := .agg #[.bool (!nb), .slice no k nc, .slice do_ (digs q.den).length dc]) ?_ rfl ⟨_, rfl, ?_, hB _ _⟩
    · simp [results, Try.results111, go_sem]
    · rw [← HNB.out]
      exact neg_rep H0.out (hn0.below (hB _ _)) (hd0.below (hB _ _))

/-- -1, 0 or 1. -/
def sgnQ (q : Rat) : Int := if q < 0 then -1 else if q = 0 then 0 else 1
theorem num_neg {q : Rat} : q.num < 0 ↔ q < 0 := by rw [Rat.lt_iff]; simp

set_option maxHeartbeats 1000000 in
theorem Sign_any (q : Rat) (v : Value) (w : World) (h : QR w v q) :
    Calls Try.prog 74 #[v] w fun e w' => e = .returned (.int .i64 (sgnQ q)) ∧ Below w.heap.size w w' := by
  obtain ⟨n, d, rfl, hn, hd⟩ := h
  obtain ⟨no, nc, rfl, _⟩ := hn
  obtain ⟨do_, dc, rfl, _⟩ := hd
  by_cases h0 : q.num = 0
  · have hl : (digs q.num.natAbs).length = 0 := by rw [digs_len_zero]; omega
    rw [hl]
    have hs : sgnQ q = 0 := by rw [Rat.num_eq_zero.1 h0]; rfl
    rw [hs]
    clear hl h0 hs
    generalize decide (q.num < 0) = nb
    go_enter Try.func74, Try.ntmps74
    go_wp2
    go_ret
    exact ⟨rfl, (Below.refl _ _).alloc (Nat.le_refl _) _⟩
  · have hl : 0 < (digs q.num.natAbs).length := by have := @digs_len_zero q.num.natAbs; omega
    obtain ⟨k, hk⟩ : ∃ k, (digs q.num.natAbs).length = k := ⟨_, rfl⟩
    rw [hk] at hl ⊢
    clear hk
    by_cases hq : q.num < 0
    · have hs : sgnQ q = -1 := by unfold sgnQ; rw [if_pos (num_neg.1 hq)]
      rw [hs, decide_eq_true hq]
      clear hs hq h0
      go_enter Try.func74, Try.ntmps74
      go_wp2
      go_ret
      exact ⟨rfl, (Below.refl _ _).alloc (Nat.le_refl _) _⟩
    · have hs : sgnQ q = 1 := by unfold sgnQ; rw [if_neg (fun h => hq (num_neg.2 h)), if_neg (fun h => h0 (Rat.num_eq_zero.2 h))]
      rw [hs, decide_eq_false hq]
      clear hs hq h0
      go_enter Try.func74, Try.ntmps74
      go_wp2
      go_ret
      exact ⟨rfl, (Below.refl _ _).alloc (Nat.le_refl _) _⟩

end Go.Proofs.Ytmknengmjepdaaa
