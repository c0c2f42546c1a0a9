/- Walk of tranklaw04.GradeLowest. -/
import Derived.Test.YtmknengmjepdaaaLo
import Derived.Test.YtmknengmjepdaaaKx
import Derived.Test.YtmknengmjepdaaaYh
namespace Go.Proofs.Ytmknengmjepdaaa
open Go.RowKit
attribute [local irreducible] seqS seqST walkV walkJ

theorem order_ge {a b c e : Int} (h : FV a b) (k : FV c e) (hle : c * b ≤ a * e) {u v : Value} {l1 l2 : Nat} {w : World} (hu : QF l1 w u ((a : Rat) / (b : Rat))) (hv : QF l2 w v ((c : Rat) / (e : Rat))) :
    Calls Try.prog 28 #[u, v] w fun x w' => (∃ z : Int, x = .returned (.int .i64 z) ∧ ¬ z < 0) ∧ Below w.heap.size w w' :=
  (Order_any _ _ _ _ _ hu.rat hv.rat ((qs_fr h).mono (by decide)) ((qs_fr k).mono (by decide))).mono fun _ _ hh => ⟨⟨_, hh.1, ord_ge h.1 k.1 hle⟩, hh.2⟩

set_option maxHeartbeats 4000000 in
set_option maxRecDepth 100000 in
theorem GradeLowest_any (p : Pat) (n d : Int) (l : List (Int × Int)) (v vx : Value) (w : World) (h : PatF 0 w v p) (hx : FrsR 0 w vx l) :
    Calls Try.prog 14 #[v, .agg #[.int .i64 n, .int .i64 d], vx] w fun e w' => e = .returned (.bool true) ∧ Below w.heap.size w w' := by
  obtain ⟨sv, rfl, -⟩ := id h
  have HX := hid hx
  obtain ⟨ax, cx, rfl, hcx, hmx, hlx⟩ := hx
  unfold maxLen at hmx
  have HLX := hid hlx
  have GL := hid (fun v w hv => Least_any (p71 p) n d v w hv)
  have GF := hid (fun v w hv x hx => gFits_any (p71 p) n d l v x w hv hx)
  have GF2 := hid (fun v w hv x hx => gFits_any (p71 p) n d (rLeastL p n d) v x w hv hx)
  rw [rLeastE71, rLeastL71] at GL
  rw [(ft71 p n d l).1, (ft71 p n d l).2] at GF
  rw [(ft71 p n d (rLeastL p n d)).1, (ft71 p n d (rLeastL p n d)).2] at GF2
  obtain ⟨fb, hfb⟩ : ∃ b, ftB p n d l = b := ⟨_, rfl⟩
  obtain ⟨fe, hfe⟩ : ∃ b, ftE p n d l = b := ⟨_, rfl⟩
  obtain ⟨LL, hLL⟩ : ∃ b, rLeastL p n d = b := ⟨_, rfl⟩
  obtain ⟨EE, hEE⟩ : ∃ b, rLeastE p n d = b := ⟨_, rfl⟩
  rw [hfb, hfe] at GF
  rw [hLL] at GF2
  rw [hLL, hEE] at GL
  have HFB := hid hfb
  have HFE := hid hfe
  have HLL := hid hLL
  have HEE := hid hEE
  clear hfb hfe hLL hEE hlx
  go_enter Try.func14, Try.ntmps14
  go_wp2_with fail
  obtain ⟨w0, hw0, k0, k1, hB, hsz⟩ := one_new w #[.int .i64 p.n, sv] #[.int .i64 n, .int .i64 d] 24 26
  rw [hw0]
  clear hw0
  have h0 := h.below hB
  have HX0 := hid (HX.out.below hB)
  have hd := (Below.refl w0.heap.size w0).drew
  have z0 := fun x : SubT (Below w0.heap.size) w0.drew => (k0.below (hd.trans x.b)).look 0 rfl
  have z1 := fun x : SubT (Below w0.heap.size) w0.drew => (k0.below (hd.trans x.b)).look 1 rfl
  have z2 := fun x : SubT (Below w0.heap.size) w0.drew => (k1.below (hd.trans x.b)).look 0 rfl
  have z3 := fun x : SubT (Below w0.heap.size) w0.drew => (k1.below (hd.trans x.b)).look 1 rfl
  refine wp_walkJ (T := Below (w0.heap.size)) (belowV_pre _) (.rd 0 (.rd 2 (.mv 1 (.bt 3 (.rd 4 (.rd 5 (.rd 6 (.rd 7 (.rd 8 (.inv [])))))))))) (by kernel_rfl) rfl (by kernel_rfl) (by kernel_rfl) ?_
  iterate 2 (refine walkJ_rd rfl (fun K hK => ?_); go_simp; refine hK _ ?_; clear hK K)
  clear z0 z1 z2 z3
  (refine walkJ_mv rfl (fun K hK => ?_); go_simp; refine (of_any p _ _ (h0.below hd)).mono ?_; rintro e w1 ⟨v1, rfl, hv1, hb1⟩; refine ⟨_, rfl, hK _ _ hb1 ?_⟩; clear hK K)
  (refine walkJ_bt rfl (fun K hK => ?_); go_simp; refine (GL.out _ _ (hv1.mono (Nat.zero_le _))).mono ?_; rintro e w2 ⟨⟨vl, rfl, hvl⟩, hb2⟩; refine ⟨_, rfl, hK _ _ ?_⟩; clear hK K)
  iterate 5 (refine walkJ_rd rfl (fun K hK => ?_); go_simp; refine hK _ ?_; clear hK K)
  refine walkJ_nil ?_
  have hB2 : Below w0.heap.size w0 w2 := hd.trans (Below.trans hb1 (hb2.mono hb1.size))
  have k02 := k0.below hB2
  have k12 := k1.below hB2
  have h2 := h0.below hB2
  have HX2 := hid (HX0.out.below hB2)
  have HVL := hid (show FrsR 0 w2 vl LL from SlR.mono hvl (Nat.zero_le _))
  have hB2w : Below w.heap.size w w2 := hB.trans (hB2.mono hB.size)
  clear hd hb1 hb2 hv1 h0 hB2 k0 k1 hB HX0 h hvl
  go_wp2_with fail
  have hd := (Below.refl w2.heap.size w2).drew
  have z0 := fun x : SubT (Below w2.heap.size) w2.drew => (k02.below (hd.trans x.b)).look 0 rfl
  have z1 := fun x : SubT (Below w2.heap.size) w2.drew => (k02.below (hd.trans x.b)).look 1 rfl
  have z2 := fun x : SubT (Below w2.heap.size) w2.drew => (k12.below (hd.trans x.b)).look 0 rfl
  have z3 := fun x : SubT (Below w2.heap.size) w2.drew => (k12.below (hd.trans x.b)).look 1 rfl
  refine wp_walkJ (T := Below (w2.heap.size)) (belowV_pre _) (.rd 0 (.rd 2 (.rd 3 (.mv 1 (.bt 4 (.rd 5 (.rd 6 (.rd 7 (.rd 8 (.rd 9 (.inv []))))))))))) (by kernel_rfl) rfl (by kernel_rfl) (by kernel_rfl) ?_
  iterate 3 (refine walkJ_rd rfl (fun K hK => ?_); go_simp; refine hK _ ?_; clear hK K)
  clear z0 z1 z2 z3
  (refine walkJ_mv rfl (fun K hK => ?_); go_simp; refine (of_any p _ _ (h2.below hd)).mono ?_; rintro e w3 ⟨v1, rfl, hv1, hb1⟩; refine ⟨_, rfl, hK _ _ hb1 ?_⟩; clear hK K)
  (refine walkJ_bt rfl (fun K hK => ?_); go_simp; refine (GF.out _ _ (hv1.mono (Nat.zero_le _)) _ ((HX2.out.below hd).below hb1)).mono ?_; rintro e w4 ⟨rfl, hb2⟩; refine ⟨_, rfl, hK _ _ ?_⟩; clear hK K)
  iterate 5 (refine walkJ_rd rfl (fun K hK => ?_); go_simp; refine hK _ ?_; clear hK K)
  refine walkJ_nil ?_
  have hB4 : Below w2.heap.size w2 w4 := hd.trans (Below.trans hb1 (hb2.mono hb1.size))
  have k04 := k02.below hB4
  have k14 := k12.below hB4
  have h4 := h2.below hB4
  have HVL4 := hid (HVL.out.below hB4)
  have hB4w : Below w.heap.size w w4 := hB2w.trans (hB4.mono hB2w.size)
  clear hd hb1 hb2 hv1 h2 hB4 k02 k12 hB2w HX2 HVL
  have c0 := k04.look 0 rfl
  have c1 := k04.look 1 rfl
  have c2 := k14.look 0 rfl
  have c3 := k14.look 1 rfl
  go_wp2_with fail
  refine (Good_any p n d _ _ h4).mono ?_
  rintro e w5 ⟨rfl, hb5⟩
  clear c0 c1 c2 c3
  have k05 := k04.below hb5
  have h5 := h4.below hb5
  have k15 := k14.below hb5
  have HVL5 := hid (HVL4.out.below hb5)
  have hB := hB4w.trans (hb5.mono hB4w.size)
  clear hb5 hB4w HVL4 h4 k14 k04
  by_cases hps : PValid p ∧ FSize n d
  case neg =>
    have hbb : (decide (PValid p) && decide (FSize n d)) = false := by rw [← Bool.decide_and]; exact decide_eq_false hps
    have e1 : EE = 2 := by rw [← HEE.out]; exact leastE_two hbb
    have e2 : fb = false := by rw [← HFB.out]; exact (fit_two fun hh => hps ⟨hh.1, hh.2.1⟩).2
    rw [hbb, e1, e2]
    clear hbb e1 e2 hps
    go_wp2_with fail
    refine (awake_any _).mono ?_
    rintro e wz ⟨rfl, hbz⟩
    go_wp2
    go_ret
    exact ⟨rfl, hB.trans (hbz.mono hB.size)⟩
  obtain ⟨hp, hs⟩ := hps
  rw [decide_eq_true hp, decide_eq_true hs, Bool.and_self]
  have HP := hid hp
  have HF := hid hs
  cases hbad : chBad p n d with
  | true =>
    have e1 : EE = 10 := by rw [← HEE.out, leastE_of hp hs, hbad]; rfl
    have e2 : fb = false := by
      cases h : fb with
      | false => rfl
      | true =>
        have := fits_good (HFB.out.trans h)
        rw [hbad] at this
        cases this
    rw [e1, e2]
    clear e1 e2 hp hs hbad
    go_wp2_with fail
    refine (awake_any _).mono ?_
    rintro e wz ⟨rfl, hbz⟩
    go_wp2
    go_ret
    exact ⟨rfl, hB.trans (hbz.mono hB.size)⟩
  | false =>
    have HBAD := hid hbad
    have e1 : EE = 0 := by rw [← HEE.out, leastE_of hp hs, hbad]; rfl
    have e2 : LL = leastL p n d := by rw [← HLL.out]; unfold rLeastL; rw [HEE.out, e1]; rfl
    have HA := hid (least_asg hp hs hbad)
    have F1 := least_fits hp hs hbad
    rw [← e2] at HA F1
    rw [F1.1, F1.2] at GF2
    have HL2 := hid e2
    obtain ⟨M, hM⟩ : ∃ M, LL.length = M := ⟨_, rfl⟩
    have HM := hid hM
    have hMN : (M : Int) = p.n := by rw [← hM]; exact HA.out.1
    have hM16 : M ≤ 16 := by have := hp.2.1; omega
    have HMN := hid hMN
    rw [e1]
    clear e1 e2 hp hs hbad F1 hMN
    obtain ⟨al, cl, rfl, hcl, hml, hll⟩ := HVL5.out
    unfold maxLen at hml
    rw [hM] at hcl HVL5 ⊢
    have HLC := hid hll
    clear hll hM
    go_wp2_with fail
    have hd := (Below.refl w5.heap.size w5).drew
    have z0 := fun x : SubT (Below w5.heap.size) w5.drew => (k05.below (hd.trans x.b)).look 0 rfl
    have z1 := fun x : SubT (Below w5.heap.size) w5.drew => (k05.below (hd.trans x.b)).look 1 rfl
    have z2 := fun x : SubT (Below w5.heap.size) w5.drew => (k15.below (hd.trans x.b)).look 0 rfl
    have z3 := fun x : SubT (Below w5.heap.size) w5.drew => (k15.below (hd.trans x.b)).look 1 rfl
    refine wp_walkJ (T := Below (w5.heap.size)) (belowV_pre _) (.rd 0 (.rd 2 (.rd 3 (.mv 1 (.bt 4 (.rd 5 (.rd 6 (.rd 7 (.rd 8 (.rd 9 (.inv []))))))))))) (by kernel_rfl) rfl (by kernel_rfl) (by kernel_rfl) ?_
    iterate 3 (refine walkJ_rd rfl (fun K hK => ?_); go_simp; refine hK _ ?_; clear hK K)
    clear z0 z1 z2 z3
    (refine walkJ_mv rfl (fun K hK => ?_); go_simp; refine (of_any p _ _ (h5.below hd)).mono ?_; rintro e w6 ⟨v1, rfl, hv1, hb1⟩; refine ⟨_, rfl, hK _ _ hb1 ?_⟩; clear hK K)
    (refine walkJ_bt rfl (fun K hK => ?_); go_simp; refine (GF2.out _ _ (hv1.mono (Nat.zero_le _)) _ ((HVL5.out.below hd).below hb1)).mono ?_; rintro e w7 ⟨rfl, hb2⟩; refine ⟨_, rfl, hK _ _ ?_⟩; clear hK K)
    iterate 5 (refine walkJ_rd rfl (fun K hK => ?_); go_simp; refine hK _ ?_; clear hK K)
    refine walkJ_nil ?_
    have hB7 : Below w5.heap.size w5 w7 := hd.trans (Below.trans hb1 (hb2.mono hb1.size))
    have k07 := k05.below hB7
    have HVL7 := hid (HVL5.out.below hB7)
    have HLC7 := hid (HLC.out.below hB7)
    replace hB := hB.trans (hB7.mono hB.size)
    clear hd hb1 hb2 hv1 h5 hB7 k05 k15 HVL5 HLC
    have c0 := k07.look 0 rfl
    have hMn := HMN.out
    go_wp2_with fail
    refine (All1_any LL _ _ HVL7.out).mono ?_
    rintro e w8 ⟨rfl, hb8⟩
    rw [decide_eq_true HA.out.2]
    clear c0 hMn
    replace hB := hB.trans (hb8.mono hB.size)
    have HLC8 := hid (HLC7.out.below hb8)
    clear hb8 HLC7 k07
    by_cases hg : PValid p ∧ FSize n d ∧ AsgP p l
    case neg =>
      have e1 : fe = 2 := by rw [← HFE.out]; exact (fit_two hg).1
      have e2 : fb = false := by rw [← HFB.out]; exact (fit_two hg).2
      rw [e1, e2]
      clear e1 e2 hg
      go_wp2_with fail
      refine (awake_any _).mono ?_
      rintro e wz ⟨rfl, hbz⟩
      go_wp2
      go_ret
      exact ⟨rfl, hB.trans (hbz.mono hB.size)⟩
    have e1 : fe = 0 := by rw [← HFE.out]; exact (fit_ok hg).1
    rw [e1]
    clear e1
    cases hfb : fb with
    | false =>
      clear hfb hg
      go_wp2_with fail
      refine (awake_any _).mono ?_
      rintro e wz ⟨rfl, hbz⟩
      go_wp2
      go_ret
      exact ⟨rfl, hB.trans (hbz.mono hB.size)⟩
    | true =>
      have FG := (fits_ge (HFB.out.trans hfb)).2.2.2 HBAD.out
      have hN : p.n.toNat = M := by have := HMN.out; omega
      have hlM : l.length = M := by have := hg.2.2.1; have := HMN.out; omega
      have hGE : ∀ i, i < M → FV (l.getD i (0, 0)).1 (l.getD i (0, 0)).2 ∧ FV (LL.getD i (0, 0)).1 (LL.getD i (0, 0)).2 ∧ (LL.getD i (0, 0)).1 * (l.getD i (0, 0)).2 ≤ (l.getD i (0, 0)).1 * (LL.getD i (0, 0)).2 := by
        intro i hi
        refine ⟨(fv_at hg.2.2 (by omega)).2, (fv_at HA.out (by omega)).2, ?_⟩
        rw [HL2.out, least_getD (by omega)]
        exact FG i (by omega)
      have HGE := hid hGE
      have HLM := hid hlM
      rw [hlM] at hcx ⊢
      clear hGE hlM FG hfb hg hN
      go_wp2_with fail
      go_loopw [82] (fun x wr => ∃ i : Nat, x = .int .i64 i ∧ i ≤ M ∧ Below w8.heap.size w8 wr) (fun x _ => M - (intOf x).toNat)
      case atStart => exact ⟨0, rfl, Nat.zero_le _, Below.refl _ _⟩
      case round =>
        obtain ⟨i, rfl, hi, hbel⟩ := hrel
        have hxw : Below w.heap.size w wr := hB.trans (hbel.mono hB.size)
        by_cases hiM : i < M
        · have hiM2 : (i : Int) < (M : Int) := by omega
          have hiM3 : ¬ (M : Int) ≤ (i : Int) := by omega
          obtain ⟨bx, offx, rfl, hbx, x0, x1⟩ := fr_cell HLX.out (show i < l.length by rw [HLM.out]; exact hiM)
          obtain ⟨bl, offl, rfl, hbl, y0, y1⟩ := fr_cell HLC8.out (show i < LL.length by rw [HM.out]; exact hiM)
          have hge := HGE.out i hiM
          generalize (l.getD i (0, 0)).1 = na at x0 hge
          generalize (l.getD i (0, 0)).2 = da at x1 hge
          generalize (LL.getD i (0, 0)).1 = nb at y0 hge
          generalize (LL.getD i (0, 0)).2 = db at y1 hge
          have HG := hid hge
          clear hge
          go_wp2_with fail
          have hd := (Below.refl wr.heap.size wr).drew
          have z0 := fun x : SubT (Below wr.heap.size) wr.drew => ((hxw.trans ((hd.trans x.b).mono hxw.size)).cell (p := ⟨bx, offx + i * 2, none⟩) hbx).trans x0
          have z1 := fun x : SubT (Below wr.heap.size) wr.drew => ((hxw.trans ((hd.trans x.b).mono hxw.size)).cell (p := ⟨bx, offx + i * 2 + 1, none⟩) hbx).trans x1
          have z2 := fun x : SubT (Below wr.heap.size) wr.drew => ((hbel.trans ((hd.trans x.b).mono hbel.size)).cell (p := ⟨bl, offl + i * 2, none⟩) hbl).trans y0
          have z3 := fun x : SubT (Below wr.heap.size) wr.drew => ((hbel.trans ((hd.trans x.b).mono hbel.size)).cell (p := ⟨bl, offl + i * 2 + 1, none⟩) hbl).trans y1
          refine wp_walkJ (T := Below (wr.heap.size)) (belowV_pre _) (.rd 0 (.rd 1 (.rd 2 (.rd 3 (.rd 4 (.rd 5 (.rd 6 (.rd 7 (.rd 8 (.rd 10 (.rd 11 (.rd 12 (.rd 13 (.mv 9 (.bt 14 (.bt 15 (.rd 16 (.rd 17 (.inv []))))))))))))))))))) (by kernel_rfl) rfl (by kernel_rfl) (by kernel_rfl) ?_
          iterate 13 (refine walkJ_rd rfl (fun K hK => ?_); go_simp; refine hK _ ?_; clear hK K)
          clear z0 z1 z2 z3
          (refine walkJ_mv rfl (fun K hK => ?_); go_simp; refine (of_fr HG.out.1 _).mono ?_; rintro e w9 ⟨q1, rfl, hq1, hb1⟩; refine ⟨_, rfl, hK _ _ hb1 ?_⟩; clear hK K)
          (refine walkJ_bt rfl (fun K hK => ?_); go_simp; refine (of_fr HG.out.2.1 _).mono ?_; rintro e w10 ⟨q2, rfl, hq2, hb2⟩; refine ⟨_, rfl, hK _ _ ?_⟩; clear hK K)
          (refine walkJ_bt rfl (fun K hK => ?_); go_simp; refine (order_ge HG.out.1 HG.out.2.1 HG.out.2.2 (hq1.below hb2) hq2).mono ?_; rintro e w11 ⟨⟨z, rfl, hz⟩, hb3⟩; refine ⟨_, rfl, hK _ _ ?_⟩; clear hK K)
          iterate 2 (refine walkJ_rd rfl (fun K hK => ?_); go_simp; refine hK _ ?_; clear hK K)
          refine walkJ_nil ?_
          have hb12 := hb1.trans (hb2.mono hb1.size)
          have hb13 := hb12.trans (hb3.mono hb12.size)
          have hb11 : Below wr.heap.size wr w11 := hd.trans hb13
          clear hb12 hb13 hb1 hb2 hb3 hd
          go_wp2
          exact ⟨⟨i + 1, by go_num, by omega, hbel.trans (hb11.mono hbel.size)⟩, by simp [intOf]; omega⟩
        · obtain rfl : M = i := by omega
          have hiM2 : ¬ (M : Int) < (M : Int) := by omega
          clear hB
          have hB := hxw
          go_wp2_with fail
          refine (awake_any _).mono ?_
          rintro e wz ⟨rfl, hbz⟩
          go_wp2
          go_ret
          exact ⟨rfl, hB.trans (hbz.mono hB.size)⟩

end Go.Proofs.Ytmknengmjepdaaa
