/- Walk of curve.At (under way). -/
import Derived.Test.YtfkclcoipadhmaaDoorFj
import Derived.Test.YtfkclcoipadhmaaDoorEc
import Derived.Test.YtfkclcoipadhmaaDoorDz
namespace Go.Proofs.YtfkclcoipadhmaaDoor
open Go.RowKit
attribute [local irreducible] seqS seqST walkV walkJ

/-- What At hands back. -/
def atV (c : List P4) (n d : Int) : Option Rat := if RV c ∧ FV n d ∧ InDom (toQ c) (vq (n, d)) then atO (toQ c) (vq (n, d)) else none
def atE (c : List P4) (n d : Int) : Int := if RV c ∧ FV n d then oE (atV c n d) else 2

set_option maxHeartbeats 8000000 in
set_option maxRecDepth 100000 in
theorem At_any (c : List P4) (n d : Int) (v : Value) (w : World) (h : P4R 0 w v c) (hz : Z0 w) :
    Calls Tryd.prog 50 #[v, .agg #[.int .i64 n, .int .i64 d]] w fun r w' => r = .returned (.tuple #[.agg #[.int .i64 (oN (atV c n d)), .int .i64 (oD (atV c n d))], .int .i64 (atE c n d)]) ∧ Below w.heap.size w w' := by
  have VA := hid (fun w h hz => cValid_any c v w h hz)
  obtain ⟨E, hE⟩ : ∃ E, atE c n d = E := ⟨_, rfl⟩
  obtain ⟨N, hN⟩ : ∃ N, oN (atV c n d) = N := ⟨_, rfl⟩
  obtain ⟨D, hD⟩ : ∃ D, oD (atV c n d) = D := ⟨_, rfl⟩
  rw [hE, hN, hD]
  have HE := hid hE
  have HN := hid hN
  have HD := hid hD
  obtain ⟨ao, cap, rfl, -⟩ := id h
  have k0 := (Blk.new w #[.int .i64 n, .int .i64 d] 32).alloc (.cells #[.int .i64 0, .int .i64 0] 32)
  have k1 := Blk.new (w.alloc (.cells #[.int .i64 n, .int .i64 d] 32)) #[.int .i64 0, .int .i64 0] 32
  have b0 := ((Below.refl w.heap.size w).alloc (Nat.le_refl _) (.cells #[.int .i64 n, .int .i64 d] 32)).alloc (by simp) (.cells #[.int .i64 0, .int .i64 0] 32)
  rw [World.size_alloc] at k1
  clear hE hN hD
  go_enter Tryd.func50, Tryd.ntmps50
  go_wp2_with fail
  obtain ⟨w0, hw0⟩ : ∃ w0, (w.alloc (.cells #[.int .i64 n, .int .i64 d] 32)).alloc (.cells #[.int .i64 0, .int .i64 0] 32) = w0 := ⟨_, rfl⟩
  rw [hw0] at k0 k1 b0 ⊢
  clear hw0
  have h0 := h.below b0
  have hz0 := hz.below b0
  refine (VA.out _ h0 hz0).mono ?_
  rintro r w1 ⟨rfl, hb1⟩
  have hB := b0.trans (hb1.mono b0.size)
  have k01 := k0.below hb1
  have k11 := k1.below hb1
  have h1 := h0.below hb1
  have hz1 := hz0.below hb1
  clear VA h0 hz0 h hz k0 k1 b0 hb1
  have c0 := k01.look 0 rfl
  have c1 := k01.look 1 rfl
  have c2 := k11.look 0 rfl
  have c3 := k11.look 1 rfl
  by_cases hrv : RV c
  case neg =>
    rw [decide_eq_false hrv]
    have hno : ¬ (RV c ∧ FV n d) := fun h => hrv h.1
    have kR := k11
    clear c0 c1 c2 c3 k11
    obtain rfl : 2 = E := by rw [← HE.out]; exact (if_neg hno).symm
    obtain rfl : 0 = N := by rw [← HN.out]; unfold atV; rw [if_neg (fun h => hno ⟨h.1, h.2.1⟩)]; rfl
    obtain rfl : 0 = D := by rw [← HD.out]; unfold atV; rw [if_neg (fun h => hno ⟨h.1, h.2.1⟩)]; rfl
    clear hno HE HN HD
    have hBz := hB
    clear hB
    have f2 := kR.frozen
    have q0 := kR.look 0 rfl
    have q1 := kR.look 1 rfl
    have ks := (kR.set 0 (.int .i64 0)).set 1 (.int .i64 0)
    have r0 : _ = some (Value.int .i64 0) := ks.look 0 rfl
    have r1 : _ = some (Value.int .i64 0) := ks.look 1 rfl
    have R0 := hid r0
    have R1 := hid r1
    have HBF := hid ((hBz.setCell (p := ⟨w.heap.size + 1, 0, none⟩) (by show w.heap.size ≤ w.heap.size + 1; omega) (.int .i64 0)).setCell (p := ⟨w.heap.size + 1, 1, none⟩) (by show w.heap.size ≤ w.heap.size + 1; omega) (.int .i64 0))
    clear kR ks r0 r1 hBz
    go_wp2
    refine bodyPost_ret (v := .tuple #[.agg #[.int .i64 0, .int .i64 0], .int .i64 2]) ?_ rfl ⟨rfl, HBF.out⟩
    have r0 := R0.out
    have r1 := R1.out
    simp [results, Tryd.results50, go_sem, r0, r1]
  rw [decide_eq_true hrv]
  have HRV := hid hrv
  clear hrv
  go_wp2_with fail
  refine (fValid_any n d _).mono ?_
  rintro r w2 ⟨rfl, hb2⟩
  replace hB := hB.trans (hb2.mono hB.size)
  have k02 := k01.below hb2
  have k12 := k11.below hb2
  have h2 := h1.below hb2
  have hz2 := hz1.below hb2
  clear k01 k11 h1 hz1 hb2 c0 c1 c2 c3
  by_cases hf1 : FV n d
  case neg =>
    rw [decide_eq_false hf1]
    have hno : ¬ (RV c ∧ FV n d) := fun h => hf1 h.2
    have kR := k12
    clear k12
    obtain rfl : 2 = E := by rw [← HE.out]; exact (if_neg hno).symm
    obtain rfl : 0 = N := by rw [← HN.out]; unfold atV; rw [if_neg (fun h => hno ⟨h.1, h.2.1⟩)]; rfl
    obtain rfl : 0 = D := by rw [← HD.out]; unfold atV; rw [if_neg (fun h => hno ⟨h.1, h.2.1⟩)]; rfl
    clear hno HE HN HD
    have hBz := hB
    clear hB
    have f2 := kR.frozen
    have q0 := kR.look 0 rfl
    have q1 := kR.look 1 rfl
    have ks := (kR.set 0 (.int .i64 0)).set 1 (.int .i64 0)
    have r0 : _ = some (Value.int .i64 0) := ks.look 0 rfl
    have r1 : _ = some (Value.int .i64 0) := ks.look 1 rfl
    have R0 := hid r0
    have R1 := hid r1
    have HBF := hid ((hBz.setCell (p := ⟨w.heap.size + 1, 0, none⟩) (by show w.heap.size ≤ w.heap.size + 1; omega) (.int .i64 0)).setCell (p := ⟨w.heap.size + 1, 1, none⟩) (by show w.heap.size ≤ w.heap.size + 1; omega) (.int .i64 0))
    clear kR ks r0 r1 hBz
    go_wp2
    refine bodyPost_ret (v := .tuple #[.agg #[.int .i64 0, .int .i64 0], .int .i64 2]) ?_ rfl ⟨rfl, HBF.out⟩
    have r0 := R0.out
    have r1 := R1.out
    simp [results, Tryd.results50, go_sem, r0, r1]
  rw [decide_eq_true hf1]
  have HF1 := hid hf1
  have hcv := rv_cv HRV.out
  have hq := P4R.toQ h2 HRV.out
  have WI := hid (fun w h => within_any (toQ c) (vq (n, d)) (.slice ao c.length cap) w hcv (vq_fits hf1) h)
  have AT := hid (fun hd g ok w h hz hk => at_any (toQ c) (vq (n, d)) (.slice ao c.length cap) hcv hd (vq_fits hf1) g ok w h hz hk)
  rw [frQ_vq hf1] at WI AT
  clear hf1
  have c0 := k02.look 0 rfl
  have c1 := k02.look 1 rfl
  go_wp2_with fail
  refine (WI.out _ hq).mono ?_
  rintro r w3 ⟨rfl, hb3⟩
  replace hB := hB.trans (hb3.mono hB.size)
  have k03 := k02.below hb3
  have k13 := k12.below hb3
  have hz3 := hz2.below hb3
  have q3 := hq.below hb3
  clear WI hq h2 hz2 k02 k12 c0 c1 hb3
  have c0 := k03.look 0 rfl
  have c1 := k03.look 1 rfl
  have c2 := k13.look 0 rfl
  have c3 := k13.look 1 rfl
  by_cases hdm : InDom (toQ c) (vq (n, d))
  case neg =>
    rw [decide_eq_false hdm]
    have e0 : atV c n d = none := if_neg (fun h => hdm h.2.2)
    obtain rfl : 5 = E := by rw [← HE.out]; unfold atE; rw [if_pos ⟨HRV.out, HF1.out⟩, e0]; rfl
    obtain rfl : 0 = N := by rw [← HN.out, e0]; rfl
    obtain rfl : 0 = D := by rw [← HD.out, e0]; rfl
    clear e0 HE HN HD c0 c1 c2 c3
    have kR := k13
    have hBz := hB
    clear hB k13
    have f2 := kR.frozen
    have q0 := kR.look 0 rfl
    have q1 := kR.look 1 rfl
    have ks := (kR.set 0 (.int .i64 0)).set 1 (.int .i64 0)
    have r0 : _ = some (Value.int .i64 0) := ks.look 0 rfl
    have r1 : _ = some (Value.int .i64 0) := ks.look 1 rfl
    have R0 := hid r0
    have R1 := hid r1
    have HBF := hid ((hBz.setCell (p := ⟨w.heap.size + 1, 0, none⟩) (by show w.heap.size ≤ w.heap.size + 1; omega) (.int .i64 0)).setCell (p := ⟨w.heap.size + 1, 1, none⟩) (by show w.heap.size ≤ w.heap.size + 1; omega) (.int .i64 0))
    clear kR ks r0 r1 hBz
    go_wp2
    refine bodyPost_ret (v := .tuple #[.agg #[.int .i64 0, .int .i64 0], .int .i64 5]) ?_ rfl ⟨rfl, HBF.out⟩
    have r0 := R0.out
    have r1 := R1.out
    simp [results, Tryd.results50, go_sem, r0, r1]
  rw [decide_eq_true hdm]
  have e0 : atV c n d = atO (toQ c) (vq (n, d)) := if_pos ⟨HRV.out, HF1.out, hdm⟩
  have AT2 := hid (AT.out hdm)
  have HDM := hid hdm
  have E0 := hid e0
  clear AT hdm e0
  obtain ⟨B, hBs⟩ : ∃ B, w3.heap.size = B := ⟨_, rfl⟩
  have HBS := hid hBs
  have kg := Blk.new w3 #[.int .i64 0] 68
  have bg := (Below.refl w3.heap.size w3).alloc (Nat.le_refl _) (.cells #[.int .i64 0] 68)
  have k04 := k03.below bg
  have d0 := k04.look 0 rfl
  have d1 := k04.look 1 rfl
  go_wp2_with fail
  rw [hBs] at kg
  have hBw : w.heap.size + 1 < B := by rw [← hBs]; exact k13.lt
  obtain ⟨w4, hw4⟩ : ∃ w4, w3.alloc (.cells #[.int .i64 0] 68) = w4 := ⟨_, rfl⟩
  rw [hw4] at kg bg k04 d0 d1 ⊢
  have q4 := q3.below bg
  have hz4 := hz3.below bg
  have kR4 := k13.below bg
  have hk : CalB w4 B true := kg
  replace hB := hB.trans (bg.mono hB.size)
  clear hw4 hBs HBS bg kg k03 k13 c0 c1 c2 c3 d0 d1 q3 hz3
  refine (AT2.out B true w4 q4 hz4 hk).mono ?_
  rintro r w5 ⟨⟨V, rfl, hf, hv⟩, hk5, ht5⟩
  have kR5 := ht5.blk kR4 (show w.heap.size + 1 ≠ B by omega)
  replace hB := ht5.below hB (show w.heap.size ≤ B by omega) hB.size
  have k6 := Blk.new w5 #[.int .i64 V.num, .int .i64 (V.den : Int)] 32
  clear AT2 hk q4 hz4 kR4 k04 ht5
  cases hat : atO (toQ c) (vq (n, d)) with
  | none =>
    rw [hat] at hk5 E0
    have hk6 : Blk w5 B #[.int .i64 5] 68 := hk5
    obtain rfl : 5 = E := by rw [← HE.out]; unfold atE; rw [if_pos ⟨HRV.out, HF1.out⟩, E0.out]; rfl
    obtain rfl : 0 = N := by rw [← HN.out, E0.out]; rfl
    obtain rfl : 0 = D := by rw [← HD.out, E0.out]; rfl
    clear HE HN HD E0 hv hk5
    have hk7 := hk6.alloc (.cells #[.int .i64 V.num, .int .i64 (V.den : Int)] 32)
    have x0 := hk7.look 0 rfl
    unfold frQ
    go_wp2_with fail
    have kR7 := kR5.alloc (.cells #[.int .i64 V.num, .int .i64 (V.den : Int)] 32)
    have hBz := hB.alloc hB.size (.cells #[.int .i64 V.num, .int .i64 (V.den : Int)] 32)
    obtain ⟨W, hW⟩ : ∃ W, w5.alloc (.cells #[.int .i64 V.num, .int .i64 (V.den : Int)] 32) = W := ⟨_, rfl⟩
    rw [hW] at kR7 hBz hk7 ⊢
    clear hW x0 k6 hk6 kR5 hB
    have hd0 : CalT (w.heap.size + 1) W W.drew := CalT.of_below (Below.refl W.heap.size W).drew
    have z0 := fun x : SubT (CalT (w.heap.size + 1)) W.drew => (((calT_pre _).trans hd0 x.b).blk hk7 (show B ≠ w.heap.size + 1 by omega)).look 0 rfl
    refine wp_walkJ (T := CalT (w.heap.size + 1)) (calT_pre _) (.rd 0 (.rd 1 (.rd 2 (.mv 3 (.rd 4 (.inv [])))))) (by kernel_rfl) rfl (by kernel_rfl) (by kernel_rfl) ?_
    iterate 3 (refine walkJ_rd rfl (fun K hK => ?_); go_simp; refine hK _ ?_; clear hK K)
    clear z0 hd0
    have hdb : Below W.heap.size W W.drew := (Below.refl W.heap.size W).drew
    have kd := kR7.below hdb
    have f2 := kR7.frozen
    have q0 := kR7.look 0 rfl
    have q1 := kR7.look 1 rfl
    have ks := (kd.set 0 (.int .i64 0)).set 1 (.int .i64 0)
    have r0 : _ = some (Value.int .i64 0) := ks.look 0 rfl
    have r1 : _ = some (Value.int .i64 0) := ks.look 1 rfl
    have R0 := hid r0
    have R1 := hid r1
    have HBF := hid (((hBz.trans (hdb.mono hBz.size)).setCell (p := ⟨w.heap.size + 1, 0, none⟩) (by show w.heap.size ≤ w.heap.size + 1; omega) (.int .i64 0)).setCell (p := ⟨w.heap.size + 1, 1, none⟩) (by show w.heap.size ≤ w.heap.size + 1; omega) (.int .i64 0))
    have ks2 := (kR7.set 0 (.int .i64 0)).set 1 (.int .i64 0)
    have s0 : _ = some (Value.int .i64 0) := ks2.look 0 rfl
    have s1 : _ = some (Value.int .i64 0) := ks2.look 1 rfl
    have s2 : _ = some (Value.int .i64 0) := (kR7.set 0 (.int .i64 0)).look 0 rfl
    have S0 := hid s0
    have S1 := hid s1
    have S2 := hid s2
    clear ks2 s0 s1 s2
    clear ks r0 r1 kR7 kd hBz hk7 hdb
    (refine walkJ_mv rfl (fun K hK => ?_); go_simp; refine hK _ _ ((calT_pre _).trans (CalT.set _ _ ⟨w.heap.size + 1, 0, none⟩ rfl (.int .i64 0)) (CalT.set _ _ ⟨w.heap.size + 1, 1, none⟩ rfl (.int .i64 0))) ?_; clear hK K)
    (refine walkJ_rd rfl (fun K hK => ?_); go_simp; refine hK _ ?_; clear hK K)
    refine walkJ_nil ?_
    go_wp2
    refine bodyPost_ret (v := .tuple #[.agg #[.int .i64 0, .int .i64 0], .int .i64 5]) ?_ rfl ⟨rfl, HBF.out⟩
    have r0 := S0.out
    have r1 := S1.out
    simp [results, Tryd.results50, go_sem, r0, r1]
  | some y =>
    rw [hat] at hk5 E0 hv
    obtain rfl : y = V := Option.some.inj (hv rfl)
    have hk6 : Blk w5 B #[.int .i64 0] 68 := hk5
    obtain rfl : 0 = E := by rw [← HE.out]; unfold atE; rw [if_pos ⟨HRV.out, HF1.out⟩, E0.out]; rfl
    obtain rfl : y.num = N := by rw [← HN.out, E0.out]; rfl
    obtain rfl : (y.den : Int) = D := by rw [← HD.out, E0.out]; rfl
    clear HE HN HD E0 hv hk5
    have hk7 := hk6.alloc (.cells #[.int .i64 y.num, .int .i64 (y.den : Int)] 32)
    have x0 := hk7.look 0 rfl
    have c0 := k6.look 0 rfl
    have c1 := k6.look 1 rfl
    have kR := kR5.alloc (.cells #[.int .i64 y.num, .int .i64 (y.den : Int)] 32)
    have hBz := hB.alloc hB.size (.cells #[.int .i64 y.num, .int .i64 (y.den : Int)] 32)
    have f2 := kR.frozen
    have q0 := kR.look 0 rfl
    have q1 := kR.look 1 rfl
    have ks := (kR.set 0 (.int .i64 y.num)).set 1 (.int .i64 (y.den : Int))
    have r0 : _ = some (Value.int .i64 y.num) := ks.look 0 rfl
    have r1 : _ = some (Value.int .i64 (y.den : Int)) := ks.look 1 rfl
    have R0 := hid r0
    have R1 := hid r1
    have HBF := hid ((hBz.setCell (p := ⟨w.heap.size + 1, 0, none⟩) (by show w.heap.size ≤ w.heap.size + 1; omega) (.int .i64 y.num)).setCell (p := ⟨w.heap.size + 1, 1, none⟩) (by show w.heap.size ≤ w.heap.size + 1; omega) (.int .i64 (y.den : Int)))
    clear kR kR5 ks r0 r1 hBz hB hk6 hk7 k6
    unfold frQ
    go_wp2
    refine bodyPost_ret (v := .tuple #[.agg #[.int .i64 y.num, .int .i64 (y.den : Int)], .int .i64 0]) ?_ rfl ⟨rfl, HBF.out⟩
    have r0 := R0.out
    have r1 := R1.out
    simp [results, Tryd.results50, go_sem, r0, r1]

end Go.Proofs.YtfkclcoipadhmaaDoor
