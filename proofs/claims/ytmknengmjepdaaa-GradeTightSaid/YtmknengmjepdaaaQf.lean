/- Sizes of rational numbers; walks of trankref01's Less, Order, Of. -/
import Derived.Test.YtmknengmjepdaaaQe
namespace Go.Proofs.Ytmknengmjepdaaa
open Go.RowKit

theorem QS_qmk {k : Nat} {neg : Bool} {n d : Nat} (hd : d ≠ 0) (h1 : (digs n).length ≤ k) (h2 : (digs d).length ≤ k) : QS k (qmk neg n d) :=
  ⟨by rw [qmk_abs neg hd]; exact len_le_of_le (Nat.div_le_self _ _) h1, by rw [qmk_den neg hd]; exact len_le_of_le (Nat.div_le_self _ _) h2⟩
theorem QS_neg {k : Nat} {q : Rat} (h : QS k q) : QS k (-q) := ⟨by rw [Rat.neg_num, Int.natAbs_neg]; exact h.1, by rw [Rat.neg_den]; exact h.2⟩
theorem QS_mul {k : Nat} {a b : Rat} (ha : QS k a) (hb : QS k b) : QS (k + k) (a * b) := by
  have hms := mul_sizes ha hb
  rw [← mul_parts a b]
  exact QS_qmk (Nat.mul_ne_zero a.den_nz b.den_nz) hms.1 hms.2.1
theorem QS_div {k : Nat} {a b : Rat} (ha : QS k a) (hb : QS k b) (h0 : b ≠ 0) : QS (k + k) (a / b) := by
  have hms := mul_sizes ha hb
  have hbn : b.num ≠ 0 := fun h => h0 (Rat.num_eq_zero.1 h)
  rw [← div_parts a b h0]
  exact QS_qmk (Nat.mul_ne_zero a.den_nz (by omega)) hms.2.2.1 hms.2.2.2.2
theorem QS_add {k : Nat} {a b : Rat} (ha : QS k a) (hb : QS k b) : QS (k + k + 1) (a + b) := by
  have hms := mul_sizes ha hb
  have hps := digs_len_add (a.num.natAbs * b.den) (b.num.natAbs * a.den)
  have hd := Nat.mul_ne_zero a.den_nz b.den_nz
  by_cases h : decide (a.num < 0) = decide (b.num < 0)
  · rw [← add_same h]
    exact QS_qmk hd (by omega) (by omega)
  · rcases Nat.le_total (b.num.natAbs * a.den) (a.num.natAbs * b.den) with hle | hle
    · rw [← add_diff h hle]
      exact QS_qmk hd (len_le_of_le (Nat.sub_le _ _) (by omega)) (by omega)
    · rw [← add_diff' h hle]
      exact QS_qmk hd (len_le_of_le (Nat.sub_le _ _) (by omega)) (by omega)
theorem QS_sub {k : Nat} {a b : Rat} (ha : QS k a) (hb : QS k b) : QS (k + k + 1) (a - b) := by
  rw [Rat.sub_eq_add_neg]; exact QS_add ha (QS_neg hb)
theorem QS_of {n d : Int} (hn1 : -9223372036854775808 ≤ n) (hn2 : n ≤ 9223372036854775807) (hd1 : -9223372036854775808 ≤ d) (hd2 : d ≤ 9223372036854775807) (h0 : d ≠ 0) : QS 4 ((n : Rat) / (d : Rat)) :=
  QS_div (int_size hn1 hn2) (int_size hd1 hd2) (by simpa using h0)

theorem QF.shape3 {lo : Nat} {w : World} {v : Value} {q : Rat} (h : QF lo w v q) : ∃ x y z, v = .agg #[x, y, z] := by
  obtain ⟨n, d, rfl, _⟩ := h
  exact ⟨_, _, _, rfl⟩
/-- One boxed struct stands; the result's variable is filled. -/
theorem one_new (w : World) (a c : Array Value) (s u : TypeId) :
    ∃ W, (w.alloc (.cells a s)).alloc (.cells c u) = W ∧ Blk W w.heap.size a s ∧ Blk W (w.heap.size + 1) c u ∧ Below w.heap.size w W ∧ W.heap.size = w.heap.size + 1 + 1 := by
  refine ⟨_, rfl, (Blk.new w a s).alloc _, ?_, ((Below.refl _ _).alloc (Nat.le_refl _) _).alloc (by simp) _, by simp⟩
  have := Blk.new (w.alloc (.cells a s)) c u
  simpa using this

set_option maxHeartbeats 1000000 in
theorem Less_any (a b : Rat) (u v : Value) (w : World) (ha : QR w u a) (hb : QR w v b) (sa : QS 268435456 a) (sb : QS 268435456 b) :
    Calls Try.prog 75 #[u, v] w fun e w' => ∃ v', e = .returned v' ∧ QF w.heap.size w' v' (a - b) ∧ Below w.heap.size w w' := by
  have ha0 := ha
  have hb0 := hb
  have sb' := QS_neg sb
  obtain ⟨x0, x1, x2, rfl⟩ := ha.shape3
  obtain ⟨y0, y1, y2, rfl⟩ := hb.shape3
  go_enter Try.func75, Try.ntmps75
  go_wp2_with fail
  obtain ⟨W0, hW0, k0, k1, k2, hB, hsz⟩ := three_new w #[x0, x1, x2] #[y0, y1, y2] #[.bool false, .slice none 0 0, .slice none 0 0] 43 43 43
  rw [hW0]
  clear hW0
  have hd0' := (Below.refl W0.heap.size W0).drew
  have hBd := hB.drew
  have hszle : w.heap.size + 1 + 1 ≤ W0.heap.size := by omega
  go_region_held3 (fun w' => w'.cell? ⟨w.heap.size, 0, none⟩ = some x0 ∧ w'.cell? ⟨w.heap.size, 1, none⟩ = some x1 ∧ w'.cell? ⟨w.heap.size, 2, none⟩ = some x2 ∧
      w'.cell? ⟨w.heap.size + 1, 0, none⟩ = some y0 ∧ w'.cell? ⟨w.heap.size + 1, 1, none⟩ = some y1 ∧ w'.cell? ⟨w.heap.size + 1, 2, none⟩ = some y2)
    (first | (refine boxes_keep k0 k1 ?_; assumption) | (refine boxes_keep2 (B := w.heap.size + 1 + 1) k0 k1 ?_ ?_ ?_; exact (((hW3.mono hszle).setCell (Nat.le_refl _) _).setCell (Nat.le_refl _) _).setCell (Nat.le_refl _) _; exact Nat.lt_succ_of_lt (Nat.lt_succ_self _); exact Nat.lt_succ_self _))
    (first
      | (go_at_call 111; refine (Minus_any 0 b _ _ (hb0.below hBd)).mono ?_; rintro e w1 ⟨v1, rfl, hv1, hb1⟩; have hW1 : Below W0.heap.size W0 w1 := hd0'.trans (hb1.mono hd0'.size); have hB1 : Below w.heap.size w w1 := hBd.trans (hb1.mono hBd.size))
      | (go_at_call 40; refine (Plus_any a (-b) _ _ _ (ha0.below hB1) hv1 sa sb').mono ?_; rintro e w3 ⟨v3, rfl, hv3, hb3⟩; have hW3 : Below W0.heap.size W0 w3 := hW1.trans (hb3.mono hW1.size); have hB3 : Below w.heap.size w w3 := hB1.trans (hb3.mono hB1.size); rw [← Rat.sub_eq_add_neg] at hv3; have hv3' := hv3.mono (lo' := w.heap.size + 1 + 1 + 1) (Nat.le_trans (Nat.le_of_eq hsz.symm) hW1.size); obtain ⟨rb, ro, rn, rc, so, sn, sc, rfl⟩ := hv3.shape; have k3 := k2.below' hW3 (by omega); have f3 := k3.frozen; have c0 := k3.cell 0; have c1 := k3.cell 1; have c2 := k3.cell 2))
  go_wp2
  refine bodyPost_ret (v := .agg #[.bool rb, .slice ro rn rc, .slice so sn sc]) ?_ rfl ⟨_, rfl, (((hv3'.setCell (Nat.lt_succ_self _) _).setCell (Nat.lt_succ_self _) _).setCell (Nat.lt_succ_self _) _).mono (Nat.le_add_right _ 3), ((hB3.setCell (Nat.le_add_right _ 2) _).setCell (Nat.le_add_right _ 2) _).setCell (Nat.le_add_right _ 2) _⟩
  simp [results, Try.results75, go_sem, c0, c1, c2]

set_option maxHeartbeats 1000000 in
theorem Order_any (a b : Rat) (u v : Value) (w : World) (ha : QR w u a) (hb : QR w v b) (sa : QS 268435456 a) (sb : QS 268435456 b) :
    Calls Try.prog 28 #[u, v] w fun e w' => e = .returned (.int .i64 (sgnQ (a - b))) ∧ Below w.heap.size w w' := by
  have ha0 := ha
  have hb0 := hb
  obtain ⟨x0, x1, x2, rfl⟩ := ha.shape3
  obtain ⟨y0, y1, y2, rfl⟩ := hb.shape3
  have hB : ∀ o1 o2, Below w.heap.size w ((w.alloc o1).alloc o2) := fun o1 o2 => ((Below.refl _ _).alloc (Nat.le_refl _) _).alloc (by simp) _
  have HB := hid hB
  clear hB
  go_enter Try.func28, Try.ntmps28
  go_wp2_with fail
  refine (Less_any a b _ _ _ (ha0.below (HB.out _ _)) (hb0.below (HB.out _ _)) sa sb).mono ?_
  rintro e w1 ⟨v1, rfl, hv1, hb1⟩
  go_wp2_with fail
  refine (Sign_any (a - b) _ _ hv1.rat).mono ?_
  rintro e w2 ⟨rfl, hb2⟩
  go_wp2_with fail
  go_ret
  exact ⟨rfl, ((HB.out _ _).trans (hb1.mono (HB.out _ _).size)).trans (hb2.mono (Nat.le_trans (HB.out _ _).size hb1.size))⟩

/-- The value of a fraction. -/
abbrev frV (n d : Int) : Value := .agg #[.int .i64 n, .int .i64 d]
theorem keep2c {W w' : World} {b : Nat} {x0 x1 : Value} {s : TypeId} (h0 : Blk W b #[x0, x1] s) (hb : Below W.heap.size W w') : w'.cell? ⟨b, 0, none⟩ = some x0 ∧ w'.cell? ⟨b, 1, none⟩ = some x1 := ⟨(h0.below hb).cell 0, (h0.below hb).cell 1⟩
theorem keep2d {W w' : World} {B b : Nat} {x0 x1 : Value} {s : TypeId} (h0 : Blk W b #[x0, x1] s) (hb : Below B W w') (l : b < B) : w'.cell? ⟨b, 0, none⟩ = some x0 ∧ w'.cell? ⟨b, 1, none⟩ = some x1 := ⟨(h0.below' hb l).cell 0, (h0.below' hb l).cell 1⟩

set_option maxHeartbeats 1000000 in
theorem Of_any (n d : Int) (w : World) (hn1 : -9223372036854775808 ≤ n) (hn2 : n ≤ 9223372036854775807) (hd1 : -9223372036854775808 ≤ d) (hd2 : d ≤ 9223372036854775807) (h0 : d ≠ 0) :
    Calls Try.prog 29 #[.agg #[.int .i64 n, .int .i64 d]] w fun e w' => ∃ v', e = .returned v' ∧ QF w.heap.size w' v' ((n : Rat) / (d : Rat)) ∧ Below w.heap.size w w' := by
  have sn := (int_size hn1 hn2).mono (k' := 268435456) (by decide)
  have sd := (int_size hd1 hd2).mono (k' := 268435456) (by decide)
  have hdr : (d : Rat) ≠ 0 := by simpa using h0
  have SN := hid sn
  have SD := hid sd
  have HDR := hid hdr
  clear sn sd hdr
  go_enter Try.func29, Try.ntmps29
  go_wp2_with fail
  obtain ⟨W0, hW0, k0, k2, hB, hsz⟩ := one_new w #[.int .i64 n, .int .i64 d] #[.bool false, .slice none 0 0, .slice none 0 0] 26 43
  rw [hW0]
  clear hW0
  have hd0' := (Below.refl W0.heap.size W0).drew
  have hBd := hB.drew
  have hszle : w.heap.size + 1 ≤ W0.heap.size := by omega
  go_region_held3 (fun w' => w'.cell? ⟨w.heap.size, 0, none⟩ = some (.int .i64 n) ∧ w'.cell? ⟨w.heap.size, 1, none⟩ = some (.int .i64 d))
    (first | (refine keep2c k0 ?_; assumption) | (refine keep2d (B := w.heap.size + 1) k0 ?_ ?_; exact (((hW3.mono hszle).setCell (Nat.le_refl _) _).setCell (Nat.le_refl _) _).setCell (Nat.le_refl _) _; exact Nat.lt_succ_self _))
    (first
      | (go_at_call_of 41 n; refine (Int_any n _ hn1 hn2).mono ?_; rintro e w1 ⟨v1, rfl, hv1, hb1⟩; have hW1 : Below W0.heap.size W0 w1 := hd0'.trans (hb1.mono hd0'.size); have hB1 : Below w.heap.size w w1 := hBd.trans (hb1.mono hBd.size))
      | (go_at_call_of 41 d; refine (Int_any d _ hd1 hd2).mono ?_; rintro e w2 ⟨v2, rfl, hv2, hb2⟩; have hW2 : Below W0.heap.size W0 w2 := hW1.trans (hb2.mono hW1.size); have hB2 : Below w.heap.size w w2 := hB1.trans (hb2.mono hB1.size))
      | (go_at_call 51; refine (Over_any n d _ _ _ (hv1.below hb2).rat hv2.rat SN.out SD.out HDR.out).mono ?_; rintro e w3 ⟨v3, rfl, hv3, hb3⟩; have hW3 : Below W0.heap.size W0 w3 := hW2.trans (hb3.mono hW2.size); have hB3 : Below w.heap.size w w3 := hB2.trans (hb3.mono hB2.size); have hv3' := hv3.mono (lo' := w.heap.size + 1 + 1) (Nat.le_trans (Nat.le_of_eq hsz.symm) hW2.size); obtain ⟨rb, ro, rn, rc, so, sn, sc, rfl⟩ := hv3.shape; have k3 := k2.below' hW3 (by omega); have f3 := k3.frozen; have c0 := k3.cell 0; have c1 := k3.cell 1; have c2 := k3.cell 2))
  go_wp2
  refine bodyPost_ret (v := .agg #[.bool rb, .slice ro rn rc, .slice so sn sc]) ?_ rfl ⟨_, rfl, (((hv3'.setCell (Nat.lt_succ_self _) _).setCell (Nat.lt_succ_self _) _).setCell (Nat.lt_succ_self _) _).mono (Nat.le_add_right _ 2), ((hB3.setCell (Nat.le_add_right _ 1) _).setCell (Nat.le_add_right _ 1) _).setCell (Nat.le_add_right _ 1) _⟩
  simp [results, Try.results29, go_sem, c0, c1, c2]

end Go.Proofs.Ytmknengmjepdaaa
