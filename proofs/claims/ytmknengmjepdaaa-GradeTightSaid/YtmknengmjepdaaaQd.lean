/- Walks of trankref01's rational numbers: Times. -/
import Derived.Test.YtmknengmjepdaaaQc
import Derived.Deep.RegionWith
namespace Go.Proofs.Ytmknengmjepdaaa
open Go.RowKit

/-- Two boxed structs of three cells. -/
theorem boxes_keep {W w' : World} {b0 b1 : Nat} {x0 x1 x2 y0 y1 y2 : Value} {s t : TypeId} (h0 : Blk W b0 #[x0, x1, x2] s) (h1 : Blk W b1 #[y0, y1, y2] t) (hb : Below W.heap.size W w') :
    w'.cell? ⟨b0, 0, none⟩ = some x0 ∧ w'.cell? ⟨b0, 1, none⟩ = some x1 ∧ w'.cell? ⟨b0, 2, none⟩ = some x2 ∧
    w'.cell? ⟨b1, 0, none⟩ = some y0 ∧ w'.cell? ⟨b1, 1, none⟩ = some y1 ∧ w'.cell? ⟨b1, 2, none⟩ = some y2 :=
  ⟨(h0.below hb).cell 0, (h0.below hb).cell 1, (h0.below hb).cell 2, (h1.below hb).cell 0, (h1.below hb).cell 1, (h1.below hb).cell 2⟩

theorem boxes_keep2 {W w' : World} {B b0 b1 : Nat} {x0 x1 x2 y0 y1 y2 : Value} {s t : TypeId} (h0 : Blk W b0 #[x0, x1, x2] s) (h1 : Blk W b1 #[y0, y1, y2] t) (hb : Below B W w') (l0 : b0 < B) (l1 : b1 < B) :
    w'.cell? ⟨b0, 0, none⟩ = some x0 ∧ w'.cell? ⟨b0, 1, none⟩ = some x1 ∧ w'.cell? ⟨b0, 2, none⟩ = some x2 ∧
    w'.cell? ⟨b1, 0, none⟩ = some y0 ∧ w'.cell? ⟨b1, 1, none⟩ = some y1 ∧ w'.cell? ⟨b1, 2, none⟩ = some y2 :=
  ⟨(h0.below' hb l0).cell 0, (h0.below' hb l0).cell 1, (h0.below' hb l0).cell 2, (h1.below' hb l1).cell 0, (h1.below' hb l1).cell 1, (h1.below' hb l1).cell 2⟩
theorem three_new (w : World) (a b c : Array Value) (s t u : TypeId) :
    ∃ W, ((w.alloc (.cells a s)).alloc (.cells b t)).alloc (.cells c u) = W ∧ Blk W w.heap.size a s ∧ Blk W (w.heap.size + 1) b t ∧ Blk W (w.heap.size + 1 + 1) c u ∧ Below w.heap.size w W ∧ W.heap.size = w.heap.size + 1 + 1 + 1 := by
  refine ⟨_, rfl, ((Blk.new w a s).alloc _).alloc _, ?_, ?_, (((Below.refl _ _).alloc (Nat.le_refl _) _).alloc (by simp) _).alloc (by simp; omega) _, by simp⟩
  · have := (Blk.new (w.alloc (.cells a s)) b t).alloc (.cells c u)
    simpa using this
  · have := Blk.new ((w.alloc (.cells a s)).alloc (.cells b t)) c u
    simpa using this

theorem mul_sizes {a b : Rat} {k : Nat} (ha : QS k a) (hb : QS k b) : (digs (a.num.natAbs * b.num.natAbs)).length ≤ k + k ∧ (digs (a.den * b.den)).length ≤ k + k ∧ (digs (a.num.natAbs * b.den)).length ≤ k + k ∧ (digs (b.num.natAbs * a.den)).length ≤ k + k ∧ (digs (a.den * b.num.natAbs)).length ≤ k + k := by
  have h1 := digs_len_mul a.num.natAbs b.num.natAbs
  have h2 := digs_len_mul a.den b.den
  have h3 := digs_len_mul a.num.natAbs b.den
  have h4 := digs_len_mul b.num.natAbs a.den
  have h5 := digs_len_mul a.den b.num.natAbs
  have := ha.1; have := ha.2; have := hb.1; have := hb.2
  omega

set_option maxHeartbeats 1000000 in
theorem Times_any (a b : Rat) (u v : Value) (w : World) (ha : QR w u a) (hb : QR w v b) (sa : QS 268435456 a) (sb : QS 268435456 b) :
    Calls Try.prog 42 #[u, v] w fun e w' => ∃ v', e = .returned v' ∧ QF w.heap.size w' v' (a * b) ∧ Below w.heap.size w w' := by
  have hms := mul_sizes sa sb
  obtain ⟨n, d, rfl, hn, hd⟩ := ha
  obtain ⟨m, f, rfl, hm, hf⟩ := hb
  have hn0 := hn
  have hd0 := hd
  have hm0 := hm
  have hf0 := hf
  obtain ⟨no, nc, rfl, _⟩ := hn
  obtain ⟨do_, dc, rfl, _⟩ := hd
  obtain ⟨mo, mc, rfl, _⟩ := hm
  obtain ⟨fo, fc, rfl, _⟩ := hf
  have hmk := mul_parts a b
  obtain ⟨na, hna⟩ : ∃ x, decide (a.num < 0) = x := ⟨_, rfl⟩
  obtain ⟨nb, hnb⟩ : ∃ x, decide (b.num < 0) = x := ⟨_, rfl⟩
  rw [hna, hnb] at hmk
  rw [hna, hnb]
  clear hna hnb
  have HMK : Hid (qmk (!(na == nb)) (a.num.natAbs * b.num.natAbs) (a.den * b.den) = a * b) := hid hmk
  clear hmk
  go_enter Try.func42, Try.ntmps42
  go_wp2_with fail
  obtain ⟨W0, hW0, k0, k1, k2, hB, hsz⟩ := three_new w #[.bool na, .slice no (digs a.num.natAbs).length nc, .slice do_ (digs a.den).length dc] #[.bool nb, .slice mo (digs b.num.natAbs).length mc, .slice fo (digs b.den).length fc] #[.bool false, .slice none 0 0, .slice none 0 0] 43 43 43
  rw [hW0]
  clear hW0
  have hd0' := (Below.refl W0.heap.size W0).drew
  have hBd := hB.drew
  have hszle : w.heap.size + 1 + 1 ≤ W0.heap.size := by omega
  have hden : a.den * b.den ≠ 0 := Nat.mul_ne_zero a.den_nz b.den_nz
  obtain ⟨sa1, sa2⟩ := sa
  obtain ⟨sb1, sb2⟩ := sb
  go_region_held3 (fun w' => w'.cell? ⟨w.heap.size, 0, none⟩ = some (.bool na) ∧ w'.cell? ⟨w.heap.size, 1, none⟩ = some (.slice no (digs a.num.natAbs).length nc) ∧ w'.cell? ⟨w.heap.size, 2, none⟩ = some (.slice do_ (digs a.den).length dc) ∧
      w'.cell? ⟨w.heap.size + 1, 0, none⟩ = some (.bool nb) ∧ w'.cell? ⟨w.heap.size + 1, 1, none⟩ = some (.slice mo (digs b.num.natAbs).length mc) ∧ w'.cell? ⟨w.heap.size + 1, 2, none⟩ = some (.slice fo (digs b.den).length fc))
    (first | (refine boxes_keep k0 k1 ?_; assumption) | (refine boxes_keep2 (B := w.heap.size + 1 + 1) k0 k1 ?_ ?_ ?_; exact (((hW3.mono hszle).setCell (Nat.le_refl _) _).setCell (Nat.le_refl _) _).setCell (Nat.le_refl _) _; exact Nat.lt_succ_of_lt (Nat.lt_succ_self _); exact Nat.lt_succ_self _))
    (first
      | (go_at_call_of 83 no; refine (times_any a.num.natAbs b.num.natAbs _ _ _ (hn0.below hBd) (hm0.below hBd) (by omega) (by omega)).mono ?_; rintro e w1 ⟨v1, rfl, hv1, hb1⟩; have hW1 : Below W0.heap.size W0 w1 := hd0'.trans (hb1.mono hd0'.size); have hB1 : Below w.heap.size w w1 := hBd.trans (hb1.mono hBd.size))
      | (go_at_call_of 83 do_; refine (times_any a.den b.den _ _ _ (hd0.below hB1) (hf0.below hB1) (by omega) (by omega)).mono ?_; rintro e w2 ⟨v2, rfl, hv2, hb2⟩; have hW2 : Below W0.heap.size W0 w2 := hW1.trans (hb2.mono hW1.size); have hB2 : Below w.heap.size w w2 := hB1.trans (hb2.mono hB1.size))
      | (go_at_call 84; refine (made_any _ (a.num.natAbs * b.num.natAbs) (a.den * b.den) _ _ _ (hv1.below hb2).nat hv2.nat hden (by omega) (by omega)).mono ?_; rintro e w3 ⟨v3, rfl, hv3, hb3⟩; have hW3 : Below W0.heap.size W0 w3 := hW2.trans (hb3.mono hW2.size); have hB3 : Below w.heap.size w w3 := hB2.trans (hb3.mono hB2.size);
          rw [HMK.out] at hv3; have hv3' := hv3.mono (lo' := w.heap.size + 1 + 1 + 1) (Nat.le_trans (Nat.le_of_eq hsz.symm) hW2.size); obtain ⟨rb, ro, rn, rc, so, sn, sc, rfl⟩ := hv3.shape; have k3 := k2.below' hW3 (by omega); have f3 := k3.frozen; have c0 := k3.cell 0; have c1 := k3.cell 1; have c2 := k3.cell 2))
  go_wp2
  refine bodyPost_ret (v := .agg #[.bool rb, .slice ro rn rc, .slice so sn sc]) ?_ rfl ⟨_, rfl, (((hv3'.setCell (Nat.lt_succ_self _) _).setCell (Nat.lt_succ_self _) _).setCell (Nat.lt_succ_self _) _).mono (Nat.le_add_right _ 3), ((hB3.setCell (Nat.le_add_right _ 2) _).setCell (Nat.le_add_right _ 2) _).setCell (Nat.le_add_right _ 2) _⟩
  simp [results, Try.results42, go_sem, c0, c1, c2]

set_option maxHeartbeats 1000000 in
theorem Over_any (a b : Rat) (u v : Value) (w : World) (ha : QR w u a) (hb : QR w v b) (sa : QS 268435456 a) (sb : QS 268435456 b) (hb0 : b ≠ 0) :
    Calls Try.prog 51 #[u, v] w fun e w' => ∃ v', e = .returned v' ∧ QF w.heap.size w' v' (a / b) ∧ Below w.heap.size w w' := by
  have hms := mul_sizes sa sb
  obtain ⟨n, d, rfl, hn, hd⟩ := ha
  obtain ⟨m, f, rfl, hm, hf⟩ := hb
  have hn0 := hn
  have hd0 := hd
  have hm0 := hm
  have hf0 := hf
  obtain ⟨no, nc, rfl, _⟩ := hn
  obtain ⟨do_, dc, rfl, _⟩ := hd
  obtain ⟨mo, mc, rfl, _⟩ := hm
  obtain ⟨fo, fc, rfl, _⟩ := hf
  have hmk := div_parts a b hb0
  have hbn : b.num ≠ 0 := fun h => hb0 (Rat.num_eq_zero.1 h)
  obtain ⟨na, hna⟩ : ∃ x, decide (a.num < 0) = x := ⟨_, rfl⟩
  obtain ⟨nb, hnb⟩ : ∃ x, decide (b.num < 0) = x := ⟨_, rfl⟩
  rw [hna, hnb] at hmk
  rw [hna, hnb]
  clear hna hnb
  have HMK : Hid (qmk (!(na == nb)) (a.num.natAbs * b.den) (a.den * b.num.natAbs) = a / b) := hid hmk
  clear hmk
  go_enter Try.func51, Try.ntmps51
  go_wp2_with fail
  obtain ⟨W0, hW0, k0, k1, k2, hB, hsz⟩ := three_new w #[.bool na, .slice no (digs a.num.natAbs).length nc, .slice do_ (digs a.den).length dc] #[.bool nb, .slice mo (digs b.num.natAbs).length mc, .slice fo (digs b.den).length fc] #[.bool false, .slice none 0 0, .slice none 0 0] 43 43 43
  rw [hW0]
  clear hW0
  have hd0' := (Below.refl W0.heap.size W0).drew
  have hBd := hB.drew
  have hszle : w.heap.size + 1 + 1 ≤ W0.heap.size := by omega
  have hden : a.den * b.num.natAbs ≠ 0 := Nat.mul_ne_zero a.den_nz (by omega)
  obtain ⟨sa1, sa2⟩ := sa
  obtain ⟨sb1, sb2⟩ := sb
  go_region_held3 (fun w' => w'.cell? ⟨w.heap.size, 0, none⟩ = some (.bool na) ∧ w'.cell? ⟨w.heap.size, 1, none⟩ = some (.slice no (digs a.num.natAbs).length nc) ∧ w'.cell? ⟨w.heap.size, 2, none⟩ = some (.slice do_ (digs a.den).length dc) ∧
      w'.cell? ⟨w.heap.size + 1, 0, none⟩ = some (.bool nb) ∧ w'.cell? ⟨w.heap.size + 1, 1, none⟩ = some (.slice mo (digs b.num.natAbs).length mc) ∧ w'.cell? ⟨w.heap.size + 1, 2, none⟩ = some (.slice fo (digs b.den).length fc))
    (first | (refine boxes_keep k0 k1 ?_; assumption) | (refine boxes_keep2 (B := w.heap.size + 1 + 1) k0 k1 ?_ ?_ ?_; exact (((hW3.mono hszle).setCell (Nat.le_refl _) _).setCell (Nat.le_refl _) _).setCell (Nat.le_refl _) _; exact Nat.lt_succ_of_lt (Nat.lt_succ_self _); exact Nat.lt_succ_self _))
    (first
      | (go_at_call_of 83 no; refine (times_any a.num.natAbs b.den _ _ _ (hn0.below hBd) (hf0.below hBd) (by omega) (by omega)).mono ?_; rintro e w1 ⟨v1, rfl, hv1, hb1⟩; have hW1 : Below W0.heap.size W0 w1 := hd0'.trans (hb1.mono hd0'.size); have hB1 : Below w.heap.size w w1 := hBd.trans (hb1.mono hBd.size))
      | (go_at_call_of 83 do_; refine (times_any a.den b.num.natAbs _ _ _ (hd0.below hB1) (hm0.below hB1) (by omega) (by omega)).mono ?_; rintro e w2 ⟨v2, rfl, hv2, hb2⟩; have hW2 : Below W0.heap.size W0 w2 := hW1.trans (hb2.mono hW1.size); have hB2 : Below w.heap.size w w2 := hB1.trans (hb2.mono hB1.size))
      | (go_at_call 84; refine (made_any _ (a.num.natAbs * b.den) (a.den * b.num.natAbs) _ _ _ (hv1.below hb2).nat hv2.nat hden (by omega) (by omega)).mono ?_; rintro e w3 ⟨v3, rfl, hv3, hb3⟩; have hW3 : Below W0.heap.size W0 w3 := hW2.trans (hb3.mono hW2.size); have hB3 : Below w.heap.size w w3 := hB2.trans (hb3.mono hB2.size);
          rw [HMK.out] at hv3; have hv3' := hv3.mono (lo' := w.heap.size + 1 + 1 + 1) (Nat.le_trans (Nat.le_of_eq hsz.symm) hW2.size); obtain ⟨rb, ro, rn, rc, so, sn, sc, rfl⟩ := hv3.shape; have k3 := k2.below' hW3 (by omega); have f3 := k3.frozen; have c0 := k3.cell 0; have c1 := k3.cell 1; have c2 := k3.cell 2))
  go_wp2
  refine bodyPost_ret (v := .agg #[.bool rb, .slice ro rn rc, .slice so sn sc]) ?_ rfl ⟨_, rfl, (((hv3'.setCell (Nat.lt_succ_self _) _).setCell (Nat.lt_succ_self _) _).setCell (Nat.lt_succ_self _) _).mono (Nat.le_add_right _ 3), ((hB3.setCell (Nat.le_add_right _ 2) _).setCell (Nat.le_add_right _ 2) _).setCell (Nat.le_add_right _ 2) _⟩
  simp [results, Try.results51, go_sem, c0, c1, c2]

end Go.Proofs.Ytmknengmjepdaaa
