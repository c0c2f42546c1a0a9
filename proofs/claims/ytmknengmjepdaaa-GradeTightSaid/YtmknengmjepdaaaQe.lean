/- Walks of trankref01's rational numbers: Plus. -/
import Derived.Test.YtmknengmjepdaaaQd
namespace Go.Proofs.Ytmknengmjepdaaa
open Go.RowKit

theorem keep1 {W w' : World} {b : Nat} {x0 x1 x2 : Value} {s : TypeId} (h0 : Blk W b #[x0, x1, x2] s) (hb : Below W.heap.size W w') : w'.cell? ⟨b, 0, none⟩ = some x0 := (h0.below hb).cell 0
theorem keep2 {W w' : World} {B b : Nat} {x0 x1 x2 : Value} {s : TypeId} (h0 : Blk W b #[x0, x1, x2] s) (hb : Below B W w') (l : b < B) : w'.cell? ⟨b, 0, none⟩ = some x0 := (h0.below' hb l).cell 0

set_option maxHeartbeats 2000000 in
theorem Plus_any (a b : Rat) (u v : Value) (w : World) (ha : QR w u a) (hb : QR w v b) (sa : QS 268435456 a) (sb : QS 268435456 b) :
    Calls Try.prog 40 #[u, v] w fun e w' => ∃ v', e = .returned v' ∧ QF w.heap.size w' v' (a + b) ∧ Below w.heap.size w w' := by
  have hms := mul_sizes sa sb
  obtain ⟨n, d, rfl, hn, hd⟩ := ha
  obtain ⟨m, f, rfl, hm, hf⟩ := hb
  have hn0 := hn
  have hd0 := hd
  have hm0 := hm
  have hf0 := hf
  obtain ⟨no, nc, rfl, _⟩ := hn
  obtain ⟨do_, dc, rfl, _⟩ := hd
  obtain ⟨mo, mc, rfl, _⟩ := hm
  obtain ⟨fo, fc, rfl, _⟩ := hf
  have hps := digs_len_add (a.num.natAbs * b.den) (b.num.natAbs * a.den)
  have hden : a.den * b.den ≠ 0 := Nat.mul_ne_zero a.den_nz b.den_nz
  obtain ⟨X, hX⟩ : ∃ X, a.num.natAbs * b.den = X := ⟨_, rfl⟩
  obtain ⟨Y, hY⟩ : ∃ X, b.num.natAbs * a.den = X := ⟨_, rfl⟩
  obtain ⟨D, hD⟩ : ∃ X, a.den * b.den = X := ⟨_, rfl⟩
  obtain ⟨na, hna⟩ : ∃ x, decide (a.num < 0) = x := ⟨_, rfl⟩
  obtain ⟨nb, hnb⟩ : ∃ x, decide (b.num < 0) = x := ⟨_, rfl⟩
  have key : (na = nb → qmk na (X + Y) D = a + b) ∧ (na ≠ nb → Y ≤ X → qmk na (X - Y) D = a + b) ∧ (na ≠ nb → X ≤ Y → qmk nb (Y - X) D = a + b) := by
    rw [← hX, ← hY, ← hD, ← hna, ← hnb]
    exact ⟨add_same, add_diff, add_diff'⟩
  have KEY := hid key
  have hXl : (digs X).length ≤ 536870912 := by rw [← hX]; omega
  have hYl : (digs Y).length ≤ 536870912 := by rw [← hY]; omega
  have hDl : (digs D).length ≤ 536870912 := by rw [← hD]; omega
  have hSl : (digs (X + Y)).length ≤ 536870913 := by rw [hX, hY] at hps; omega
  have hD0 : D ≠ 0 := by rw [← hD]; exact hden
  have hT1 : ∀ w' x y, NatR w' x a.num.natAbs → NatR w' y b.den → Calls Try.prog 83 #[x, y] w' fun e w'' => ∃ v', e = .returned v' ∧ NatF w'.heap.size w'' v' X ∧ Below w'.heap.size w' w'' := by
    intro w' x y h1 h2; rw [← hX]; exact times_any _ _ _ _ _ h1 h2 (by have := sa.1; omega) (by have := sb.2; omega)
  have hT2 : ∀ w' x y, NatR w' x b.num.natAbs → NatR w' y a.den → Calls Try.prog 83 #[x, y] w' fun e w'' => ∃ v', e = .returned v' ∧ NatF w'.heap.size w'' v' Y ∧ Below w'.heap.size w' w'' := by
    intro w' x y h1 h2; rw [← hY]; exact times_any _ _ _ _ _ h1 h2 (by have := sb.1; omega) (by have := sa.2; omega)
  have hT3 : ∀ w' x y, NatR w' x a.den → NatR w' y b.den → Calls Try.prog 83 #[x, y] w' fun e w'' => ∃ v', e = .returned v' ∧ NatF w'.heap.size w'' v' D ∧ Below w'.heap.size w' w'' := by
    intro w' x y h1 h2; rw [← hD]; exact times_any _ _ _ _ _ h1 h2 (by have := sa.2; omega) (by have := sb.2; omega)
  rw [hna, hnb]
  have T1 := hid hT1
  have T2 := hid hT2
  have T3 := hid hT3
  clear hna hnb key hT1 hT2 hT3 hms hps hden hX hY hD sa sb
  go_enter Try.func40, Try.ntmps40
  go_wp2_with fail
  obtain ⟨W0, hW0, k0, k1, k2, hB, hsz⟩ := three_new w #[.bool na, .slice no (digs a.num.natAbs).length nc, .slice do_ (digs a.den).length dc] #[.bool nb, .slice mo (digs b.num.natAbs).length mc, .slice fo (digs b.den).length fc] #[.bool false, .slice none 0 0, .slice none 0 0] 43 43 43
  rw [hW0]
  clear hW0
  have hd0' := (Below.refl W0.heap.size W0).drew
  have hBd := hB.drew
  have hszle : w.heap.size + 1 + 1 ≤ W0.heap.size := by omega
  go_region_held3 (fun w' => w'.cell? ⟨w.heap.size, 0, none⟩ = some (.bool na) ∧ w'.cell? ⟨w.heap.size, 1, none⟩ = some (.slice no (digs a.num.natAbs).length nc) ∧ w'.cell? ⟨w.heap.size, 2, none⟩ = some (.slice do_ (digs a.den).length dc) ∧
      w'.cell? ⟨w.heap.size + 1, 0, none⟩ = some (.bool nb) ∧ w'.cell? ⟨w.heap.size + 1, 1, none⟩ = some (.slice mo (digs b.num.natAbs).length mc) ∧ w'.cell? ⟨w.heap.size + 1, 2, none⟩ = some (.slice fo (digs b.den).length fc))
    (first | (refine boxes_keep k0 k1 ?_; assumption))
    (first
      | (go_at_call_of 83 no; refine (T1.out _ _ _ (hn0.below hBd) (hf0.below hBd)).mono ?_; rintro e w1 ⟨v1, rfl, hv1, hb1⟩; have hW1 : Below W0.heap.size W0 w1 := hd0'.trans (hb1.mono hd0'.size); have hB1 : Below w.heap.size w w1 := hBd.trans (hb1.mono hBd.size))
      | (go_at_call_of 83 mo; refine (T2.out _ _ _ (hm0.below hB1) (hd0.below hB1)).mono ?_; rintro e w2 ⟨v2, rfl, hv2, hb2⟩; have hW2 : Below W0.heap.size W0 w2 := hW1.trans (hb2.mono hW1.size); have hB2 : Below w.heap.size w w2 := hB1.trans (hb2.mono hB1.size))
      | (go_at_call_of 83 do_; refine (T3.out _ _ _ (hd0.below hB2) (hf0.below hB2)).mono ?_; rintro e w3 ⟨v3, rfl, hv3, hb3⟩; have hW3 : Below W0.heap.size W0 w3 := hW2.trans (hb3.mono hW2.size); have hB3 : Below w.heap.size w w3 := hB2.trans (hb3.mono hB2.size)))
  have kk0 := k0.below hW3
  have kk1 := k1.below hW3
  have kk2 := k2.below hW3
  have q0 := kk0.cell 0
  have q1 := kk1.cell 0
  have hx := ((hv1.below hb2).below hb3).nat
  have hy := (hv2.below hb3).nat
  have hz := hv3.nat
  have hs3 : w.heap.size + 1 + 1 + 1 ≤ w3.heap.size := by have := hW3.size; omega
  clear hv1 hv2 hv3 hb1 hb2 hb3 hW1 hW2 hB1 hB2 hn0 hd0 hm0 hf0 k0 k1 k2 hd0' hBd hszle
  have hs3' : w.heap.size + 1 + 1 ≤ w3.heap.size := by omega
  by_cases hab : na = nb
  · have htest : (na == nb) = true := by rw [hab]; exact beq_self_eq_true _
    have HAB := hid hab
    clear hab
    go_wp2_with fail
    have dd := (Below.refl w3.heap.size w3).drew
    have hBd := hB3.drew
    go_region_held3 (fun w' => w'.cell? ⟨w.heap.size, 0, none⟩ = some (.bool na))
      (first | (refine keep1 kk0 ?_; assumption) | (refine keep2 (B := w.heap.size + 1 + 1) kk0 ?_ ?_; exact (((hW5.mono hs3').setCell (Nat.le_refl _) _).setCell (Nat.le_refl _) _).setCell (Nat.le_refl _) _; exact Nat.lt_succ_of_lt (Nat.lt_succ_self _)))
      (first
        | (go_at_call 85; refine (plus_any X Y _ _ _ (hx.below dd) (hy.below dd) (by omega) (by omega)).mono ?_; rintro e w4 ⟨v4, rfl, hv4, hb4⟩; have hW4 : Below w3.heap.size w3 w4 := dd.trans (hb4.mono dd.size); have hB4 : Below w.heap.size w w4 := hBd.trans (hb4.mono hBd.size))
        | (go_at_call 84; refine (made_any _ (X + Y) D _ _ _ hv4.nat (hz.below hW4) hD0 (by omega) (by omega)).mono ?_; rintro e w5 ⟨v5, rfl, hv5, hb5⟩; have hW5 : Below w3.heap.size w3 w5 := hW4.trans (hb5.mono hW4.size); have hB5 : Below w.heap.size w w5 := hB4.trans (hb5.mono hB4.size); rw [KEY.out.1 HAB.out] at hv5; have hv5' := hv5.mono (lo' := w.heap.size + 1 + 1 + 1) (Nat.le_trans hs3 hW4.size); obtain ⟨rb, ro, rn, rc, so, sn, sc, rfl⟩ := hv5.shape; have k5 := kk2.below hW5; have f3 := k5.frozen; have c0 := k5.cell 0; have c1 := k5.cell 1; have c2 := k5.cell 2))
    go_wp2
    refine bodyPost_ret (v := .agg #[.bool rb, .slice ro rn rc, .slice so sn sc]) ?_ rfl ⟨_, rfl, (((hv5'.setCell (Nat.lt_succ_self _) _).setCell (Nat.lt_succ_self _) _).setCell (Nat.lt_succ_self _) _).mono (Nat.le_add_right _ 3), ((hB5.setCell (Nat.le_add_right _ 2) _).setCell (Nat.le_add_right _ 2) _).setCell (Nat.le_add_right _ 2) _⟩
    simp [results, Try.results40, go_sem, c0, c1, c2]
  · have htest : (na == nb) = false := by simpa using hab
    have HAB := hid hab
    clear hab
    by_cases hle : Y ≤ X
    · go_wp2_with fail
      refine (compare_ge X Y _ _ _ hx hy hle).mono ?_
      rintro e w3' ⟨z, rfl, hz0, nd, rfl⟩
      have d3 := below_drewN0 (Below.refl w3.heap.size w3) nd
      go_wp2_with fail
      obtain ⟨w6, hw6⟩ : ∃ w6, w3.drewN nd = w6 := ⟨_, rfl⟩
      rw [hw6] at d3 ⊢
      have hB6 := hB3.trans (d3.mono hB3.size)
      have hx6 := hx.below d3
      have hy6 := hy.below d3
      have hz6 := hz.below d3
      have r0 := kk0.below d3
      have r1 := kk1.below d3
      have r2 := kk2.below d3
      have s6 : w.heap.size + 1 + 1 + 1 ≤ w6.heap.size := Nat.le_trans hs3 d3.size
      clear hx hy hz kk0 kk1 kk2 hB3 hs3 hs3' q0 q1 hw6 d3
      obtain ⟨w3, rfl⟩ : ∃ w3, w3 = w6 := ⟨_, rfl⟩
      have hs3' : w.heap.size + 1 + 1 ≤ w3.heap.size := by omega
      have dd := (Below.refl w3.heap.size w3).drew
      have hBd := hB6.drew
      go_region_held3 (fun w' => w'.cell? ⟨w.heap.size, 0, none⟩ = some (.bool na))
        (first | (refine keep1 r0 ?_; assumption) | (refine keep2 (B := w.heap.size + 1 + 1) r0 ?_ ?_; exact (((hW5.mono hs3').setCell (Nat.le_refl _) _).setCell (Nat.le_refl _) _).setCell (Nat.le_refl _) _; exact Nat.lt_succ_of_lt (Nat.lt_succ_self _)))
        (first
          | (go_at_call 87; refine (less_any X Y _ _ _ (hx6.below dd) (hy6.below dd) hle (by omega)).mono ?_; rintro e w4 ⟨v4, rfl, hv4, hb4⟩; have hW4 : Below w3.heap.size w3 w4 := dd.trans (hb4.mono dd.size); have hB4 : Below w.heap.size w w4 := hBd.trans (hb4.mono hBd.size))
          | (go_at_call 84; refine (made_any _ (X - Y) D _ _ _ hv4.nat (hz6.below hW4) hD0 (len_le_of_le (Nat.sub_le _ _) (by omega)) (by omega)).mono ?_; rintro e w5 ⟨v5, rfl, hv5, hb5⟩; have hW5 : Below w3.heap.size w3 w5 := hW4.trans (hb5.mono hW4.size); have hB5 : Below w.heap.size w w5 := hB4.trans (hb5.mono hB4.size); rw [KEY.out.2.1 HAB.out hle] at hv5; have hv5' := hv5.mono (lo' := w.heap.size + 1 + 1 + 1) (Nat.le_trans s6 hW4.size); obtain ⟨rb, ro, rn, rc, so, sn, sc, rfl⟩ := hv5.shape; have k5 := r2.below hW5; have f3 := k5.frozen; have c0 := k5.cell 0; have c1 := k5.cell 1; have c2 := k5.cell 2))
      go_wp2
      refine bodyPost_ret (v := .agg #[.bool rb, .slice ro rn rc, .slice so sn sc]) ?_ rfl ⟨_, rfl, (((hv5'.setCell (Nat.lt_succ_self _) _).setCell (Nat.lt_succ_self _) _).setCell (Nat.lt_succ_self _) _).mono (Nat.le_add_right _ 3), ((hB5.setCell (Nat.le_add_right _ 2) _).setCell (Nat.le_add_right _ 2) _).setCell (Nat.le_add_right _ 2) _⟩
      simp [results, Try.results40, go_sem, c0, c1, c2]
    · go_wp2_with fail
      refine (compare_lt X Y _ _ _ hx hy (by omega)).mono ?_
      rintro e w3' ⟨rfl, nd, rfl⟩
      have d3 := below_drewN0 (Below.refl w3.heap.size w3) nd
      go_wp2_with fail
      obtain ⟨w6, hw6⟩ : ∃ w6, w3.drewN nd = w6 := ⟨_, rfl⟩
      rw [hw6] at d3 ⊢
      have hB6 := hB3.trans (d3.mono hB3.size)
      have hx6 := hx.below d3
      have hy6 := hy.below d3
      have hz6 := hz.below d3
      have r0 := kk0.below d3
      have r1 := kk1.below d3
      have r2 := kk2.below d3
      have s6 : w.heap.size + 1 + 1 + 1 ≤ w6.heap.size := Nat.le_trans hs3 d3.size
      clear hx hy hz kk0 kk1 kk2 hB3 hs3 hs3' q0 q1 hw6 d3
      obtain ⟨w3, rfl⟩ : ∃ w3, w3 = w6 := ⟨_, rfl⟩
      have hs3' : w.heap.size + 1 + 1 ≤ w3.heap.size := by omega
      have dd := (Below.refl w3.heap.size w3).drew
      have hBd := hB6.drew
      go_region_held3 (fun w' => w'.cell? ⟨w.heap.size + 1, 0, none⟩ = some (.bool nb))
        (first | (refine keep1 r1 ?_; assumption) | (refine keep2 (B := w.heap.size + 1 + 1) r1 ?_ ?_; exact (((hW5.mono hs3').setCell (Nat.le_refl _) _).setCell (Nat.le_refl _) _).setCell (Nat.le_refl _) _; exact Nat.lt_succ_self _))
        (first
          | (go_at_call 87; refine (less_any Y X _ _ _ (hy6.below dd) (hx6.below dd) (by omega) (by omega)).mono ?_; rintro e w4 ⟨v4, rfl, hv4, hb4⟩; have hW4 : Below w3.heap.size w3 w4 := dd.trans (hb4.mono dd.size); have hB4 : Below w.heap.size w w4 := hBd.trans (hb4.mono hBd.size))
          | (go_at_call 84; refine (made_any _ (Y - X) D _ _ _ hv4.nat (hz6.below hW4) hD0 (len_le_of_le (Nat.sub_le _ _) (by omega)) (by omega)).mono ?_; rintro e w5 ⟨v5, rfl, hv5, hb5⟩; have hW5 : Below w3.heap.size w3 w5 := hW4.trans (hb5.mono hW4.size); have hB5 : Below w.heap.size w w5 := hB4.trans (hb5.mono hB4.size); rw [KEY.out.2.2 HAB.out (by omega)] at hv5; have hv5' := hv5.mono (lo' := w.heap.size + 1 + 1 + 1) (Nat.le_trans s6 hW4.size); obtain ⟨rb, ro, rn, rc, so, sn, sc, rfl⟩ := hv5.shape; have k5 := r2.below hW5; have f3 := k5.frozen; have c0 := k5.cell 0; have c1 := k5.cell 1; have c2 := k5.cell 2))
      go_wp2
      refine bodyPost_ret (v := .agg #[.bool rb, .slice ro rn rc, .slice so sn sc]) ?_ rfl ⟨_, rfl, (((hv5'.setCell (Nat.lt_succ_self _) _).setCell (Nat.lt_succ_self _) _).setCell (Nat.lt_succ_self _) _).mono (Nat.le_add_right _ 3), ((hB5.setCell (Nat.le_add_right _ 2) _).setCell (Nat.le_add_right _ 2) _).setCell (Nat.le_add_right _ 2) _⟩
      simp [results, Try.results40, go_sem, c0, c1, c2]

end Go.Proofs.Ytmknengmjepdaaa
