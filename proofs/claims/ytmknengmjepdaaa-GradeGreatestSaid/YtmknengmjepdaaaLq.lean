/- Walk of tranklaw04.GradeHighest. -/
import Derived.Test.YtmknengmjepdaaaLo
import Derived.Test.YtmknengmjepdaaaYs
namespace Go.Proofs.Ytmknengmjepdaaa
open Go.RowKit
attribute [local irreducible] seqS seqST walkV walkJ

theorem order_qs {a b c e : Int} (h : FV a b) (k : FV c e) {u v : Value} {l1 l2 : Nat} {w : World} (hu : QF l1 w u ((a : Rat) / (b : Rat))) (hv : QF l2 w v ((c : Rat) / (e : Rat))) :
    Calls Try.prog 28 #[u, v] w fun x w' => (∃ z : Int, x = .returned (.int .i64 z) ∧ (z ≤ 0 ↔ a * e ≤ c * b)) ∧ Below w.heap.size w w' :=
  (Order_any _ _ _ _ _ hu.rat hv.rat ((qs_fr h).mono (by decide)) ((qs_fr k).mono (by decide))).mono fun _ _ hh => ⟨⟨_, hh.1, sgn_div_le h.1 k.1⟩, hh.2⟩
theorem walkJ_bs {T : World → World → Prop} {P : Program} {lst : List Oper} {Q : Act → World → Prop} {k : Nat} {r : PlJ} {o : Oper} {a : Act} {w : World} (ho : opAt lst k = some o)
    (h : ∀ K : Act → Prop, (∀ a', walkJ T P lst Q r a' w → K a') → Region.wanted o (yielded lst.toArray a.tmps) = false ∧ K (a.put o.dst undef)) : walkJ T P lst Q (.bt k r) a w := by
  have h1 := h (fun a' => walkJ T P lst Q r a' w) (fun _ h => h)
  unfold walkJ
  exact ⟨o, ho, .inr h1⟩
theorem gr71 (p : Pat) (n d mn md : Int) : grE (p71 p) n d mn md = grE p n d mn md ∧ grL (p71 p) n d mn md = grL p n d mn md := by
  rcases p71_cases p with h | ⟨h1, h2⟩
  · rw [h]; exact ⟨rfl, rfl⟩
  · rw [(gr_two (fun hh : PValid p ∧ FSize n d ∧ FMost mn md => h1 hh.1)).1, (gr_two (fun hh : PValid p ∧ FSize n d ∧ FMost mn md => h1 hh.1)).2]
    exact gr_two (fun hh => h2 hh.1)

set_option maxHeartbeats 4000000 in
set_option maxRecDepth 100000 in
theorem GradeHighest_any (p : Pat) (n d mn md : Int) (l : List (Int × Int)) (v vx : Value) (w : World) (h : PatF 0 w v p) (hx : FrsR 0 w vx l) :
    Calls Try.prog 21 #[v, .agg #[.int .i64 n, .int .i64 d], .agg #[.int .i64 mn, .int .i64 md], vx] w fun e w' => e = .returned (.bool true) ∧ Below w.heap.size w w' := by
  obtain ⟨sv, rfl, -⟩ := id h
  have HX := hid hx
  obtain ⟨ax, cx, rfl, hcx, hmx, hlx⟩ := hx
  unfold maxLen at hmx
  have HLX := hid hlx
  have GL := hid (fun v w hv => gGreatest_any (p71 p) n d mn md v w hv)
  have GF := hid (fun v w hv x hx => gFits_any (p71 p) n d l v x w hv hx)
  have GF2 := hid (fun v w hv x hx => gFits_any (p71 p) n d (grL p n d mn md) v x w hv hx)
  rw [(gr71 p n d mn md).1, (gr71 p n d mn md).2] at GL
  rw [(ft71 p n d l).1, (ft71 p n d l).2] at GF
  rw [(ft71 p n d (grL p n d mn md)).1, (ft71 p n d (grL p n d mn md)).2] at GF2
  obtain ⟨fb, hfb⟩ : ∃ b, ftB p n d l = b := ⟨_, rfl⟩
  obtain ⟨fe, hfe⟩ : ∃ b, ftE p n d l = b := ⟨_, rfl⟩
  obtain ⟨LL, hLL⟩ : ∃ b, grL p n d mn md = b := ⟨_, rfl⟩
  obtain ⟨EE, hEE⟩ : ∃ b, grE p n d mn md = b := ⟨_, rfl⟩
  rw [hfb, hfe] at GF
  rw [hLL] at GF2
  rw [hLL, hEE] at GL
  have HFB := hid hfb
  have HFE := hid hfe
  have HLL := hid hLL
  have HEE := hid hEE
  clear hfb hfe hLL hEE hlx
  go_enter Try.func21, Try.ntmps21
  go_wp2_with fail
  obtain ⟨w0, hw0, k0, k1, k2, hB, hsz⟩ := three_new w #[.int .i64 p.n, sv] #[.int .i64 n, .int .i64 d] #[.int .i64 mn, .int .i64 md] 24 26 26
  rw [hw0]
  clear hw0
  have h0 := h.below hB
  have HX0 := hid (HX.out.below hB)
  have hd := (Below.refl w0.heap.size w0).drew
  have z0 := fun x : SubT (Below w0.heap.size) w0.drew => (k0.below (hd.trans x.b)).look 0 rfl
  have z1 := fun x : SubT (Below w0.heap.size) w0.drew => (k0.below (hd.trans x.b)).look 1 rfl
  have z2 := fun x : SubT (Below w0.heap.size) w0.drew => (k1.below (hd.trans x.b)).look 0 rfl
  have z3 := fun x : SubT (Below w0.heap.size) w0.drew => (k1.below (hd.trans x.b)).look 1 rfl
  have z4 := fun x : SubT (Below w0.heap.size) w0.drew => (k2.below (hd.trans x.b)).look 0 rfl
  have z5 := fun x : SubT (Below w0.heap.size) w0.drew => (k2.below (hd.trans x.b)).look 1 rfl
  refine wp_walkJ (T := Below (w0.heap.size)) (belowV_pre _) (.rd 0 (.rd 2 (.rd 3 (.mv 1 (.bt 4 (.rd 5 (.rd 6 (.rd 7 (.rd 8 (.rd 9 (.inv []))))))))))) (by kernel_rfl) rfl (by kernel_rfl) (by kernel_rfl) ?_
  iterate 3 (refine walkJ_rd rfl (fun K hK => ?_); go_simp; refine hK _ ?_; clear hK K)
  clear z0 z1 z2 z3 z4 z5
  (refine walkJ_mv rfl (fun K hK => ?_); go_simp; refine (of_any p _ _ (h0.below hd)).mono ?_; rintro e w1 ⟨v1, rfl, hv1, hb1⟩; refine ⟨_, rfl, hK _ _ hb1 ?_⟩; clear hK K)
  (refine walkJ_bt rfl (fun K hK => ?_); go_simp; refine (GL.out _ _ (hv1.mono (Nat.zero_le _))).mono ?_; rintro e w2 ⟨⟨vl, rfl, hvl⟩, hb2⟩; refine ⟨_, rfl, hK _ _ ?_⟩; clear hK K)
  iterate 5 (refine walkJ_rd rfl (fun K hK => ?_); go_simp; refine hK _ ?_; clear hK K)
  refine walkJ_nil ?_
  have hB2 : Below w0.heap.size w0 w2 := hd.trans (Below.trans hb1 (hb2.mono hb1.size))
  have k02 := k0.below hB2
  have k12 := k1.below hB2
  have k22 := k2.below hB2
  have h2 := h0.below hB2
  have HX2 := hid (HX0.out.below hB2)
  have HVL := hid (show FrsR 0 w2 vl LL from SlR.mono hvl (Nat.zero_le _))
  have hB2w : Below w.heap.size w w2 := hB.trans (hB2.mono hB.size)
  clear hd hb1 hb2 hv1 h0 hB2 k0 k1 k2 hB HX0 h hvl
  have c0 := k02.look 0 rfl
  have c1 := k02.look 1 rfl
  have c2 := k12.look 0 rfl
  have c3 := k12.look 1 rfl
  go_wp2_with fail
  refine (Good_any p n d _ _ h2).mono ?_
  rintro e w5 ⟨rfl, hb5⟩
  clear c0 c1 c2 c3
  have k05 := k02.below hb5
  have k15 := k12.below hb5
  have k25 := k22.below hb5
  have h5 := h2.below hb5
  have HX5 := hid (HX2.out.below hb5)
  have HVL5 := hid (HVL.out.below hb5)
  have hB := hB2w.trans (hb5.mono hB2w.size)
  clear hb5 hB2w HVL h2 k02 k12 k22 HX2
  by_cases hps : PValid p ∧ FSize n d
  case neg =>
    have hbb : (decide (PValid p) && decide (FSize n d)) = false := by rw [← Bool.decide_and]; exact decide_eq_false hps
    have e1 : EE = 2 := by rw [← HEE.out]; exact (gr_two (fun hh => hps ⟨hh.1, hh.2.1⟩)).1
    rw [hbb, e1]
    clear hbb e1 hps
    go_wp2_with fail
    refine (awake_any _).mono ?_
    rintro e wz ⟨rfl, hbz⟩
    go_wp2
    go_ret
    exact ⟨rfl, hB.trans (hbz.mono hB.size)⟩
  have e1 : (decide (PValid p) && decide (FSize n d)) = true := by rw [← Bool.decide_and]; exact decide_eq_true hps
  rw [e1]
  clear e1
  have HPS := hid hps
  have d0 := k25.look 0 rfl
  have d1 := k25.look 1 rfl
  go_wp2_with fail
  refine (Most_any mn md _).mono ?_
  rintro e w6 ⟨rfl, hb6⟩
  clear d0 d1
  have k06 := k05.below hb6
  have k16 := k15.below hb6
  have k26 := k25.below hb6
  have h6 := h5.below hb6
  have HX6 := hid (HX5.out.below hb6)
  have HVL6 := hid (HVL5.out.below hb6)
  replace hB := hB.trans (hb6.mono hB.size)
  clear hb6 HVL5 h5 k05 k15 k25 HX5 hps
  by_cases hm : FMost mn md
  case neg =>
    have e1 : EE = 2 := by rw [← HEE.out]; exact (gr_two (fun hh => hm hh.2.2)).1
    rw [decide_eq_false hm, e1]
    clear e1 hm
    go_wp2_with fail
    refine (awake_any _).mono ?_
    rintro e wz ⟨rfl, hbz⟩
    go_wp2
    go_ret
    exact ⟨rfl, hB.trans (hbz.mono hB.size)⟩
  rw [decide_eq_true hm]
  have HFM := hid hm
  clear hm
  by_cases hE : EE = 0
  case neg =>
    have HE := hid hE
    go_wp2_with fail
    refine (awake_any _).mono ?_
    rintro e wz ⟨rfl, hbz⟩
    go_wp2
    go_ret
    exact ⟨by simp [HE.out], hB.trans (hbz.mono hB.size)⟩
  have HE := hid (HEE.out.trans hE)
  have hA := (gr_fits HE.out)
  rw [HLL.out] at hA
  have HA := hid hA.1
  rw [hA.2.1, hA.2.2] at GF2
  obtain ⟨M, hM⟩ : ∃ M, LL.length = M := ⟨_, rfl⟩
  have HM := hid hM
  have hMN : (M : Int) = p.n := by rw [← hM]; exact HA.out.1
  have hM16 : M ≤ 16 := by have := HPS.out.1.2.1; omega
  have HMN := hid hMN
  rw [hE]
  clear hA hE hMN
  obtain ⟨al, cl, rfl, hcl, hml, hll⟩ := HVL6.out
  unfold maxLen at hml
  rw [hM] at hcl HVL6 ⊢
  have HLC := hid hll
  clear hll hM
  go_wp2_with fail
  have hd := (Below.refl w6.heap.size w6).drew
  have z0 := fun x : SubT (Below w6.heap.size) w6.drew => (k06.below (hd.trans x.b)).look 0 rfl
  have z1 := fun x : SubT (Below w6.heap.size) w6.drew => (k06.below (hd.trans x.b)).look 1 rfl
  have z2 := fun x : SubT (Below w6.heap.size) w6.drew => (k16.below (hd.trans x.b)).look 0 rfl
  have z3 := fun x : SubT (Below w6.heap.size) w6.drew => (k16.below (hd.trans x.b)).look 1 rfl
  refine wp_walkJ (T := Below (w6.heap.size)) (belowV_pre _) (.rd 0 (.rd 2 (.rd 3 (.mv 1 (.bt 4 (.rd 5 (.rd 6 (.rd 7 (.rd 8 (.rd 9 (.inv []))))))))))) (by kernel_rfl) rfl (by kernel_rfl) (by kernel_rfl) ?_
  iterate 3 (refine walkJ_rd rfl (fun K hK => ?_); go_simp; refine hK _ ?_; clear hK K)
  clear z0 z1 z2 z3
  (refine walkJ_mv rfl (fun K hK => ?_); go_simp; refine (of_any p _ _ (h6.below hd)).mono ?_; rintro e w7 ⟨v1, rfl, hv1, hb1⟩; refine ⟨_, rfl, hK _ _ hb1 ?_⟩; clear hK K)
  (refine walkJ_bt rfl (fun K hK => ?_); go_simp; refine (GF2.out _ _ (hv1.mono (Nat.zero_le _)) _ ((HVL6.out.below hd).below hb1)).mono ?_; rintro e w8 ⟨rfl, hb2⟩; refine ⟨_, rfl, hK _ _ ?_⟩; clear hK K)
  iterate 5 (refine walkJ_rd rfl (fun K hK => ?_); go_simp; refine hK _ ?_; clear hK K)
  refine walkJ_nil ?_
  have hB8 : Below w6.heap.size w6 w8 := hd.trans (Below.trans hb1 (hb2.mono hb1.size))
  have k08 := k06.below hB8
  have k18 := k16.below hB8
  have k28 := k26.below hB8
  have h8 := h6.below hB8
  have HX8 := hid (HX6.out.below hB8)
  have HVL8 := hid (HVL6.out.below hB8)
  have HLC8 := hid (HLC.out.below hB8)
  replace hB := hB.trans (hB8.mono hB.size)
  clear hd hb1 hb2 hv1 h6 hB8 k06 k16 k26 HVL6 HLC HX6
  have c0 := k08.look 0 rfl
  have hMn := HMN.out
  go_wp2_with fail
  refine (All1_any LL _ _ HVL8.out).mono ?_
  rintro e w9 ⟨rfl, hb9⟩
  rw [decide_eq_true HA.out.2]
  clear c0 hMn
  replace hB := hB.trans (hb9.mono hB.size)
  have k09 := k08.below hb9
  have k19 := k18.below hb9
  have k29 := k28.below hb9
  have h9 := h8.below hb9
  have HX9 := hid (HX8.out.below hb9)
  have HLC9 := hid (HLC8.out.below hb9)
  clear hb9 k08 k18 k28 h8 HVL8 HLC8 HX8
  go_wp2_with fail
  have hd := (Below.refl w9.heap.size w9).drew
  have z0 := fun x : SubT (Below w9.heap.size) w9.drew => (k09.below (hd.trans x.b)).look 0 rfl
  have z1 := fun x : SubT (Below w9.heap.size) w9.drew => (k09.below (hd.trans x.b)).look 1 rfl
  have z2 := fun x : SubT (Below w9.heap.size) w9.drew => (k19.below (hd.trans x.b)).look 0 rfl
  have z3 := fun x : SubT (Below w9.heap.size) w9.drew => (k19.below (hd.trans x.b)).look 1 rfl
  refine wp_walkJ (T := Below (w9.heap.size)) (belowV_pre _) (.rd 0 (.rd 2 (.rd 3 (.mv 1 (.bt 4 (.rd 5 (.rd 6 (.rd 7 (.rd 8 (.rd 9 (.inv []))))))))))) (by kernel_rfl) rfl (by kernel_rfl) (by kernel_rfl) ?_
  iterate 3 (refine walkJ_rd rfl (fun K hK => ?_); go_simp; refine hK _ ?_; clear hK K)
  clear z0 z1 z2 z3
  (refine walkJ_mv rfl (fun K hK => ?_); go_simp; refine (of_any p _ _ (h9.below hd)).mono ?_; rintro e w10 ⟨v1, rfl, hv1, hb1⟩; refine ⟨_, rfl, hK _ _ hb1 ?_⟩; clear hK K)
  (refine walkJ_bt rfl (fun K hK => ?_); go_simp; refine (GF.out _ _ (hv1.mono (Nat.zero_le _)) _ ((HX9.out.below hd).below hb1)).mono ?_; rintro e w11 ⟨rfl, hb2⟩; refine ⟨_, rfl, hK _ _ ?_⟩; clear hK K)
  iterate 5 (refine walkJ_rd rfl (fun K hK => ?_); go_simp; refine hK _ ?_; clear hK K)
  refine walkJ_nil ?_
  have hB11 : Below w9.heap.size w9 w11 := hd.trans (Below.trans hb1 (hb2.mono hb1.size))
  have k2 := k29.below hB11
  have HLCz := hid (HLC9.out.below hB11)
  replace hB := hB.trans (hB11.mono hB.size)
  clear hd hb1 hb2 hv1 h9 hB11 k09 k19 k29 HLC9 HX9
  have HFL : Hid (∀ i, i < M → FV (LL.getD i (0, 0)).1 (LL.getD i (0, 0)).2 ∧ (LL.getD i (0, 0)).1 * md ≤ mn * (LL.getD i (0, 0)).2) := by
    refine hid fun i hi => ⟨(fv_at HA.out (by have := HMN.out; omega)).2, ?_⟩
    rw [← HLL.out, gr_get HE.out (by have := HMN.out; omega)]
    exact gr_within HE.out (by have := HMN.out; omega)
  have hfe2 : fe = 0 ∨ fe = 2 := by
    rw [← HFE.out]
    by_cases hg : PValid p ∧ FSize n d ∧ AsgP p l
    · exact .inl (fit_ok hg).1
    · exact .inr (fit_two hg).1
  rcases hfe2 with rfl | rfl
  · cases fb with
    | true =>
      by_cases hlMi : (l.length : Int) = (M : Int)
      · skip
        go_wp2_with fail
        go_loopw [15, 93] (fun y x wr => ∃ i : Nat, x = .int .i64 i ∧ i ≤ M ∧ (∃ b : Bool, y = .bool b ∧ (b = true → (ftB p n d l = true ∧ l.length = M) ∧ ∀ j, j < i → (l.getD j (0, 0)).1 * md ≤ mn * (l.getD j (0, 0)).2)) ∧ Below w11.heap.size w11 wr) (fun _ x _ => M - (intOf x).toNat)
        case atStart => exact ⟨0, rfl, Nat.zero_le _, ⟨_, rfl, fun h => ⟨(by first | exact ⟨HFB.out, by omega⟩ | (exfalso; simp at h; omega) | cases h), fun j hj => by omega⟩⟩, Below.refl _ _⟩
        case round =>
          obtain ⟨i, rfl, hi, ⟨b, rfl, hb⟩, hbel⟩ := hrel
          try clear hlMi
          have hxw : Below w.heap.size w wr := hB.trans (hbel.mono hB.size)
          have k2r := k2.below hbel
          have HBB := hid hb
          clear hb
          by_cases hiM : i < M
          · have hiM2 : (i : Int) < (M : Int) := by omega
            have hiM3 : ¬ (M : Int) ≤ (i : Int) := by omega
            obtain ⟨bl, offl, rfl, hbl, y0, y1⟩ := fr_cell HLCz.out (show i < LL.length by rw [HM.out]; exact hiM)
            have hfl := HFL.out i hiM
            generalize (LL.getD i (0, 0)).1 = nb at y0 hfl
            generalize (LL.getD i (0, 0)).2 = db at y1 hfl
            have HG := hid hfl
            clear hfl
            go_wp2_with fail
            have hd := (Below.refl wr.heap.size wr).drew
            have z0 := fun x : SubT (Below wr.heap.size) wr.drew => ((hbel.trans ((hd.trans x.b).mono hbel.size)).cell (p := ⟨bl, offl + i * 2, none⟩) hbl).trans y0
            have z1 := fun x : SubT (Below wr.heap.size) wr.drew => ((hbel.trans ((hd.trans x.b).mono hbel.size)).cell (p := ⟨bl, offl + i * 2 + 1, none⟩) hbl).trans y1
            have z2 := fun x : SubT (Below wr.heap.size) wr.drew => (k2r.below (hd.trans x.b)).look 0 rfl
            have z3 := fun x : SubT (Below wr.heap.size) wr.drew => (k2r.below (hd.trans x.b)).look 1 rfl
            refine wp_walkJ (T := Below (wr.heap.size)) (belowV_pre _) (.rd 0 (.rd 1 (.rd 2 (.rd 3 (.rd 5 (.mv 4 (.bt 6 (.bt 7 (.rd 8 (.inv [])))))))))) (by kernel_rfl) rfl (by kernel_rfl) (by kernel_rfl) ?_
            iterate 5 (refine walkJ_rd rfl (fun K hK => ?_); go_simp; refine hK _ ?_; clear hK K)
            clear z0 z1 z2 z3
            (refine walkJ_mv rfl (fun K hK => ?_); go_simp; refine (of_fr HG.out.1 _).mono ?_; rintro e w12 ⟨q1, rfl, hq1, hb1⟩; refine ⟨_, rfl, hK _ _ hb1 ?_⟩; clear hK K)
            (refine walkJ_bt rfl (fun K hK => ?_); go_simp; refine (of_fr HFM.out.1 _).mono ?_; rintro e w13 ⟨q2, rfl, hq2, hb2⟩; refine ⟨_, rfl, hK _ _ ?_⟩; clear hK K)
            (refine walkJ_bt rfl (fun K hK => ?_); go_simp; refine (order_qs HG.out.1 HFM.out.1 (hq1.below hb2) hq2).mono ?_; rintro e w14 ⟨⟨z, rfl, hz⟩, hb3⟩; refine ⟨_, rfl, hK _ _ ?_⟩; clear hK K)
            have hz1 : z ≤ 0 := hz.2 HG.out.2
            have hz2 : ¬ 0 < z := by omega
            clear hz
            iterate 1 (refine walkJ_rd rfl (fun K hK => ?_); go_simp; refine hK _ ?_; clear hK K)
            refine walkJ_nil ?_
            have hb12 := hb1.trans (hb2.mono hb1.size)
            have hb13 := hb12.trans (hb3.mono hb12.size)
            have hb14 : Below wr.heap.size wr w14 := hd.trans hb13
            have k214 := k2r.below hb14
            have hbel14 := hbel.trans (hb14.mono hbel.size)
            have hxw14 := hxw.trans (hb14.mono hxw.size)
            clear hb12 hb13 hb1 hb2 hb3 hd hz1 hz2 y0 y1
            cases b with
            | false =>
              go_wp2_with fail
              refine wp_walkJ (T := Below (w14.heap.size)) (belowV_pre _) (.rd 0 (.rd 1 (.rd 2 (.rd 3 (.rd 4 (.rd 5 (.rd 7 (.mv 6 (.bt 8 (.bt 9 (.rd 10 (.rd 11 (.rd 12 (.inv [])))))))))))))) (by kernel_rfl) rfl (by kernel_rfl) (by kernel_rfl) ?_
              iterate 7 (refine walkJ_rd rfl (fun K hK => ?_); go_simp; refine hK _ ?_; clear hK K)
              (refine walkJ_sk rfl (fun K hK => ?_); go_simp; refine hK _ ?_; clear hK K)
              (refine walkJ_bs rfl (fun K hK => ?_); go_simp; refine hK _ ?_; clear hK K)
              (refine walkJ_bs rfl (fun K hK => ?_); go_simp; refine hK _ ?_; clear hK K)
              iterate 3 (refine walkJ_rd rfl (fun K hK => ?_); go_simp; refine hK _ ?_; clear hK K)
              refine walkJ_nil ?_
              go_wp2
              exact ⟨⟨i + 1, by go_num, by omega, ⟨_, rfl, fun h => by cases h⟩, hbel14.trans (((Below.refl w14.heap.size w14).drew).mono hbel14.size)⟩, by simp [intOf]; omega⟩
            | true =>
              have hbb := HBB.out rfl
              have hlM : l.length = M := hbb.1.2
              have hlMi : (l.length : Int) = (M : Int) := by omega
              obtain ⟨bx, offx, rfl, hbx, x0, x1⟩ := fr_cell HLX.out (show i < l.length by rw [hlM]; exact hiM)
              have hfx := (fv_at (fits_ge (hbb.1.1)).2.2.1 (i := i) (by have := HMN.out; omega)).2
              have HLI := hid (show ∀ z : Int, (z ≤ 0 ↔ (l.getD i (0, 0)).1 * md ≤ mn * (l.getD i (0, 0)).2) → z ≤ 0 → ∀ j, j < i + 1 → (l.getD j (0, 0)).1 * md ≤ mn * (l.getD j (0, 0)).2 from by
                intro z hz hz0 j hj
                by_cases hji : j = i
                · subst hji; exact hz.1 hz0
                · exact hbb.2 j (by omega))
              have HW1 := hid hbb.1
              generalize (l.getD i (0, 0)).1 = na at x0 hfx HLI
              generalize (l.getD i (0, 0)).2 = da at x1 hfx HLI
              have HFX := hid hfx
              clear hfx hbb hlM
              go_wp2_with fail
              have hd := (Below.refl w14.heap.size w14).drew
              have z0 := fun x : SubT (Below w14.heap.size) w14.drew => ((hxw14.trans ((hd.trans x.b).mono hxw14.size)).cell (p := ⟨bx, offx + i * 2, none⟩) hbx).trans x0
              have z1 := fun x : SubT (Below w14.heap.size) w14.drew => ((hxw14.trans ((hd.trans x.b).mono hxw14.size)).cell (p := ⟨bx, offx + i * 2 + 1, none⟩) hbx).trans x1
              have z2 := fun x : SubT (Below w14.heap.size) w14.drew => (k214.below (hd.trans x.b)).look 0 rfl
              have z3 := fun x : SubT (Below w14.heap.size) w14.drew => (k214.below (hd.trans x.b)).look 1 rfl
              refine wp_walkJ (T := Below (w14.heap.size)) (belowV_pre _) (.rd 0 (.rd 1 (.rd 2 (.rd 3 (.rd 4 (.rd 5 (.rd 7 (.mv 6 (.bt 8 (.bt 9 (.rd 10 (.rd 11 (.rd 12 (.inv [])))))))))))))) (by kernel_rfl) rfl (by kernel_rfl) (by kernel_rfl) ?_
              iterate 7 (refine walkJ_rd rfl (fun K hK => ?_); go_simp; refine hK _ ?_; clear hK K)
              clear z0 z1 z2 z3
              (refine walkJ_mv rfl (fun K hK => ?_); go_simp; refine (of_fr HFX.out _).mono ?_; rintro e w15 ⟨q1, rfl, hq1, hb1⟩; refine ⟨_, rfl, hK _ _ hb1 ?_⟩; clear hK K)
              (refine walkJ_bt rfl (fun K hK => ?_); go_simp; refine (of_fr HFM.out.1 _).mono ?_; rintro e w16 ⟨q2, rfl, hq2, hb2⟩; refine ⟨_, rfl, hK _ _ ?_⟩; clear hK K)
              (refine walkJ_bt rfl (fun K hK => ?_); go_simp; refine (order_qs HFX.out HFM.out.1 (hq1.below hb2) hq2).mono ?_; rintro e w17 ⟨⟨z, rfl, hz⟩, hb3⟩; refine ⟨_, rfl, hK _ _ ?_⟩; clear hK K)
              have hb12 := hb1.trans (hb2.mono hb1.size)
              have hb13 := hb12.trans (hb3.mono hb12.size)
              have hb17 : Below w14.heap.size w14 w17 := hd.trans hb13
              have hbel17 := hbel14.trans (hb17.mono hbel14.size)
              clear hb12 hb13 hb1 hb2 hb3 hd hq1 hq2 x0 x1
              have HZZ := hid (HLI.out z hz)
              clear hz
              by_cases hz0 : z ≤ 0
              · iterate 3 (refine walkJ_rd rfl (fun K hK => ?_); go_simp; refine hK _ ?_; clear hK K)
                refine walkJ_nil ?_
                go_wp2
                go_roundw
                case rel => exact ⟨i + 1, by go_num, by omega, ⟨true, rfl, fun _ => ⟨HW1.out, HZZ.out hz0⟩⟩, hbel17⟩
                case measure => simp [intOf]; omega
              · iterate 3 (refine walkJ_rd rfl (fun K hK => ?_); go_simp; refine hK _ ?_; clear hK K)
                refine walkJ_nil ?_
                go_wp2
                go_roundw
                case rel => exact ⟨i + 1, by go_num, by omega, ⟨false, rfl, fun h => by cases h⟩, hbel17⟩
                case measure => simp [intOf]; omega
          · obtain rfl : M = i := by omega
            have hiM2 : ¬ (M : Int) < (M : Int) := by omega
            go_wp2_with fail
            generalize wr = wa at *
            go_loopw [120] (fun x w2 => ∃ i : Nat, x = .int .i64 i ∧ i ≤ M ∧ Below wa.heap.size wa w2) (fun x _ => M - (intOf x).toNat)
            case atStart => exact ⟨0, rfl, Nat.zero_le _, Below.refl _ _⟩
            case round =>
              obtain ⟨i, rfl, hi, hbel2⟩ := hrel
              have hbel3 := hbel.trans (hbel2.mono hbel.size)
              have hxw2 := hxw.trans (hbel2.mono hxw.size)
              clear hiM2
              by_cases hiM : i < M
              · have hiM2 : (i : Int) < (M : Int) := by omega
                have hiM3 : ¬ (M : Int) ≤ (i : Int) := by omega
                cases b with
                | false =>
                  go_wp2_with fail
                  refine wp_walkJ (T := Below (wr.heap.size)) (belowV_pre _) (.rd 0 (.rd 1 (.rd 2 (.rd 3 (.rd 4 (.rd 5 (.rd 7 (.rd 8 (.rd 9 (.rd 10 (.mv 6 (.bt 11 (.bt 12 (.rd 13 (.rd 14 (.inv [])))))))))))))))) (by kernel_rfl) rfl (by kernel_rfl) (by kernel_rfl) ?_
                  iterate 10 (refine walkJ_rd rfl (fun K hK => ?_); go_simp; refine hK _ ?_; clear hK K)
                  (refine walkJ_sk rfl (fun K hK => ?_); go_simp; refine hK _ ?_; clear hK K)
                  (refine walkJ_bs rfl (fun K hK => ?_); go_simp; refine hK _ ?_; clear hK K)
                  (refine walkJ_bs rfl (fun K hK => ?_); go_simp; refine hK _ ?_; clear hK K)
                  iterate 2 (refine walkJ_rd rfl (fun K hK => ?_); go_simp; refine hK _ ?_; clear hK K)
                  refine walkJ_nil ?_
                  go_wp2
                  exact ⟨⟨i + 1, by go_num, by omega, hbel2.trans (((Below.refl wr.heap.size wr).drew).mono hbel2.size)⟩, by simp [intOf]; omega⟩
                | true =>
                  have hbb := HBB.out rfl
                  have hlM : l.length = M := hbb.1.2
                  have hlMi : (l.length : Int) = (M : Int) := by omega
                  have hfit := hbb.1.1
                  have hfx := (fv_at (fits_ge hfit).2.2.1 (i := i) (by have := HMN.out; omega)).2
                  have hfl := (HFL.out i hiM).1
                  have hle := gr_top HE.out hfit (fun j hj => hbb.2 j (by have := HMN.out; omega)) (i := i) (by have := HMN.out; omega)
                  rw [← gr_get HE.out (by have := HMN.out; omega), HLL.out] at hle
                  obtain ⟨bx, offx, rfl, hbx, x0, x1⟩ := fr_cell HLX.out (show i < l.length by rw [hlM]; exact hiM)
                  obtain ⟨bl, offl, rfl, hbl, y0, y1⟩ := fr_cell HLCz.out (show i < LL.length by rw [HM.out]; exact hiM)
                  generalize (l.getD i (0, 0)).1 = na at x0 hfx hle
                  generalize (l.getD i (0, 0)).2 = da at x1 hfx hle
                  generalize (LL.getD i (0, 0)).1 = nb at y0 hfl hle
                  generalize (LL.getD i (0, 0)).2 = db at y1 hfl hle
                  have HFX := hid hfx
                  have HFLi := hid hfl
                  have HLE := hid hle
                  clear hfx hfl hle hbb hlM hfit
                  go_wp2_with fail
                  have hd := (Below.refl wr.heap.size wr).drew
                  have z0 := fun x : SubT (Below wr.heap.size) wr.drew => ((hxw2.trans ((hd.trans x.b).mono hxw2.size)).cell (p := ⟨bx, offx + i * 2, none⟩) hbx).trans x0
                  have z1 := fun x : SubT (Below wr.heap.size) wr.drew => ((hxw2.trans ((hd.trans x.b).mono hxw2.size)).cell (p := ⟨bx, offx + i * 2 + 1, none⟩) hbx).trans x1
                  have z2 := fun x : SubT (Below wr.heap.size) wr.drew => ((hbel3.trans ((hd.trans x.b).mono hbel3.size)).cell (p := ⟨bl, offl + i * 2, none⟩) hbl).trans y0
                  have z3 := fun x : SubT (Below wr.heap.size) wr.drew => ((hbel3.trans ((hd.trans x.b).mono hbel3.size)).cell (p := ⟨bl, offl + i * 2 + 1, none⟩) hbl).trans y1
                  refine wp_walkJ (T := Below (wr.heap.size)) (belowV_pre _) (.rd 0 (.rd 1 (.rd 2 (.rd 3 (.rd 4 (.rd 5 (.rd 7 (.rd 8 (.rd 9 (.rd 10 (.mv 6 (.bt 11 (.bt 12 (.rd 13 (.rd 14 (.inv [])))))))))))))))) (by kernel_rfl) rfl (by kernel_rfl) (by kernel_rfl) ?_
                  iterate 10 (refine walkJ_rd rfl (fun K hK => ?_); go_simp; refine hK _ ?_; clear hK K)
                  clear z0 z1 z2 z3
                  (refine walkJ_mv rfl (fun K hK => ?_); go_simp; refine (of_fr HFX.out _).mono ?_; rintro e w15 ⟨q1, rfl, hq1, hb1⟩; refine ⟨_, rfl, hK _ _ hb1 ?_⟩; clear hK K)
                  (refine walkJ_bt rfl (fun K hK => ?_); go_simp; refine (of_fr HFLi.out _).mono ?_; rintro e w16 ⟨q2, rfl, hq2, hb2⟩; refine ⟨_, rfl, hK _ _ ?_⟩; clear hK K)
                  (refine walkJ_bt rfl (fun K hK => ?_); go_simp; refine (order_qs HFX.out HFLi.out (hq1.below hb2) hq2).mono ?_; rintro e w17 ⟨⟨z, rfl, hz⟩, hb3⟩; refine ⟨_, rfl, hK _ _ ?_⟩; clear hK K)
                  have hb12 := hb1.trans (hb2.mono hb1.size)
                  have hb13 := hb12.trans (hb3.mono hb12.size)
                  have hb17 : Below wr.heap.size wr w17 := hd.trans hb13
                  have hbel17 := hbel2.trans (hb17.mono hbel2.size)
                  clear hb12 hb13 hb1 hb2 hb3 hd hq1 hq2 x0 x1 y0 y1
                  have hz1 : z ≤ 0 := hz.2 HLE.out
                  have hz2 : ¬ 0 < z := by omega
                  clear hz
                  iterate 2 (refine walkJ_rd rfl (fun K hK => ?_); go_simp; refine hK _ ?_; clear hK K)
                  refine walkJ_nil ?_
                  go_wp2
                  go_roundw
                  case rel => exact ⟨i + 1, by go_num, by omega, hbel17⟩
                  case measure => simp [intOf]; omega
              · obtain rfl : M = i := by omega
                have hiM2 : ¬ (M : Int) < (M : Int) := by omega
                clear hB
                have hB := hxw2
                go_wp2_with fail
                refine (awake_any _).mono ?_
                rintro e wz ⟨rfl, hbz⟩
                go_wp2
                go_ret
                exact ⟨rfl, hB.trans (hbz.mono hB.size)⟩
      · skip
        go_wp2_with fail
        go_loopw [15, 93] (fun y x wr => ∃ i : Nat, x = .int .i64 i ∧ i ≤ M ∧ y = .bool false ∧ Below w11.heap.size w11 wr) (fun _ x _ => M - (intOf x).toNat)
        case atStart => exact ⟨0, rfl, Nat.zero_le _, (by first | rfl | exact congrArg Value.bool (beq_eq_false_iff_ne.2 hlMi)), Below.refl _ _⟩
        case round =>
          obtain ⟨i, rfl, hi, rfl, hbel⟩ := hrel
          have hxw : Below w.heap.size w wr := hB.trans (hbel.mono hB.size)
          have k2r := k2.below hbel
          by_cases hiM : i < M
          · have hiM2 : (i : Int) < (M : Int) := by omega
            have hiM3 : ¬ (M : Int) ≤ (i : Int) := by omega
            obtain ⟨bl, offl, rfl, hbl, y0, y1⟩ := fr_cell HLCz.out (show i < LL.length by rw [HM.out]; exact hiM)
            have hfl := HFL.out i hiM
            generalize (LL.getD i (0, 0)).1 = nb at y0 hfl
            generalize (LL.getD i (0, 0)).2 = db at y1 hfl
            have HG := hid hfl
            clear hfl
            go_wp2_with fail
            have hd := (Below.refl wr.heap.size wr).drew
            have z0 := fun x : SubT (Below wr.heap.size) wr.drew => ((hbel.trans ((hd.trans x.b).mono hbel.size)).cell (p := ⟨bl, offl + i * 2, none⟩) hbl).trans y0
            have z1 := fun x : SubT (Below wr.heap.size) wr.drew => ((hbel.trans ((hd.trans x.b).mono hbel.size)).cell (p := ⟨bl, offl + i * 2 + 1, none⟩) hbl).trans y1
            have z2 := fun x : SubT (Below wr.heap.size) wr.drew => (k2r.below (hd.trans x.b)).look 0 rfl
            have z3 := fun x : SubT (Below wr.heap.size) wr.drew => (k2r.below (hd.trans x.b)).look 1 rfl
            refine wp_walkJ (T := Below (wr.heap.size)) (belowV_pre _) (.rd 0 (.rd 1 (.rd 2 (.rd 3 (.rd 5 (.mv 4 (.bt 6 (.bt 7 (.rd 8 (.inv [])))))))))) (by kernel_rfl) rfl (by kernel_rfl) (by kernel_rfl) ?_
            iterate 5 (refine walkJ_rd rfl (fun K hK => ?_); go_simp; refine hK _ ?_; clear hK K)
            clear z0 z1 z2 z3
            (refine walkJ_mv rfl (fun K hK => ?_); go_simp; refine (of_fr HG.out.1 _).mono ?_; rintro e w12 ⟨q1, rfl, hq1, hb1⟩; refine ⟨_, rfl, hK _ _ hb1 ?_⟩; clear hK K)
            (refine walkJ_bt rfl (fun K hK => ?_); go_simp; refine (of_fr HFM.out.1 _).mono ?_; rintro e w13 ⟨q2, rfl, hq2, hb2⟩; refine ⟨_, rfl, hK _ _ ?_⟩; clear hK K)
            (refine walkJ_bt rfl (fun K hK => ?_); go_simp; refine (order_qs HG.out.1 HFM.out.1 (hq1.below hb2) hq2).mono ?_; rintro e w14 ⟨⟨z, rfl, hz⟩, hb3⟩; refine ⟨_, rfl, hK _ _ ?_⟩; clear hK K)
            have hz1 : z ≤ 0 := hz.2 HG.out.2
            have hz2 : ¬ 0 < z := by omega
            clear hz
            iterate 1 (refine walkJ_rd rfl (fun K hK => ?_); go_simp; refine hK _ ?_; clear hK K)
            refine walkJ_nil ?_
            have hb12 := hb1.trans (hb2.mono hb1.size)
            have hb13 := hb12.trans (hb3.mono hb12.size)
            have hb14 : Below wr.heap.size wr w14 := hd.trans hb13
            have k214 := k2r.below hb14
            have hbel14 := hbel.trans (hb14.mono hbel.size)
            have hxw14 := hxw.trans (hb14.mono hxw.size)
            clear hb12 hb13 hb1 hb2 hb3 hd hz1 hz2 y0 y1
            go_wp2_with fail
            refine wp_walkJ (T := Below (w14.heap.size)) (belowV_pre _) (.rd 0 (.rd 1 (.rd 2 (.rd 3 (.rd 4 (.rd 5 (.rd 7 (.mv 6 (.bt 8 (.bt 9 (.rd 10 (.rd 11 (.rd 12 (.inv [])))))))))))))) (by kernel_rfl) rfl (by kernel_rfl) (by kernel_rfl) ?_
            iterate 7 (refine walkJ_rd rfl (fun K hK => ?_); go_simp; refine hK _ ?_; clear hK K)
            (refine walkJ_sk rfl (fun K hK => ?_); go_simp; refine hK _ ?_; clear hK K)
            (refine walkJ_bs rfl (fun K hK => ?_); go_simp; refine hK _ ?_; clear hK K)
            (refine walkJ_bs rfl (fun K hK => ?_); go_simp; refine hK _ ?_; clear hK K)
            iterate 3 (refine walkJ_rd rfl (fun K hK => ?_); go_simp; refine hK _ ?_; clear hK K)
            refine walkJ_nil ?_
            go_wp2
            exact ⟨⟨i + 1, by go_num, by omega, rfl, hbel14.trans (((Below.refl w14.heap.size w14).drew).mono hbel14.size)⟩, by simp [intOf]; omega⟩
          · obtain rfl : M = i := by omega
            have hiM2 : ¬ (M : Int) < (M : Int) := by omega
            go_wp2_with fail
            generalize wr = wa at *
            go_loopw [120] (fun x w2 => ∃ i : Nat, x = .int .i64 i ∧ i ≤ M ∧ Below wa.heap.size wa w2) (fun x _ => M - (intOf x).toNat)
            case atStart => exact ⟨0, rfl, Nat.zero_le _, Below.refl _ _⟩
            case round =>
              obtain ⟨i, rfl, hi, hbel2⟩ := hrel
              have hbel3 := hbel.trans (hbel2.mono hbel.size)
              have hxw2 := hxw.trans (hbel2.mono hxw.size)
              clear hiM2
              by_cases hiM : i < M
              · have hiM2 : (i : Int) < (M : Int) := by omega
                have hiM3 : ¬ (M : Int) ≤ (i : Int) := by omega
                go_wp2_with fail
                refine wp_walkJ (T := Below (wr.heap.size)) (belowV_pre _) (.rd 0 (.rd 1 (.rd 2 (.rd 3 (.rd 4 (.rd 5 (.rd 7 (.rd 8 (.rd 9 (.rd 10 (.mv 6 (.bt 11 (.bt 12 (.rd 13 (.rd 14 (.inv [])))))))))))))))) (by kernel_rfl) rfl (by kernel_rfl) (by kernel_rfl) ?_
                iterate 10 (refine walkJ_rd rfl (fun K hK => ?_); go_simp; refine hK _ ?_; clear hK K)
                (refine walkJ_sk rfl (fun K hK => ?_); go_simp; refine hK _ ?_; clear hK K)
                (refine walkJ_bs rfl (fun K hK => ?_); go_simp; refine hK _ ?_; clear hK K)
                (refine walkJ_bs rfl (fun K hK => ?_); go_simp; refine hK _ ?_; clear hK K)
                iterate 2 (refine walkJ_rd rfl (fun K hK => ?_); go_simp; refine hK _ ?_; clear hK K)
                refine walkJ_nil ?_
                go_wp2
                exact ⟨⟨i + 1, by go_num, by omega, hbel2.trans (((Below.refl wr.heap.size wr).drew).mono hbel2.size)⟩, by simp [intOf]; omega⟩
              · obtain rfl : M = i := by omega
                have hiM2 : ¬ (M : Int) < (M : Int) := by omega
                clear hB
                have hB := hxw2
                go_wp2_with fail
                refine (awake_any _).mono ?_
                rintro e wz ⟨rfl, hbz⟩
                go_wp2
                go_ret
                exact ⟨rfl, hB.trans (hbz.mono hB.size)⟩
    | false =>
      go_wp2_with fail
      go_loopw [15, 93] (fun y x wr => ∃ i : Nat, x = .int .i64 i ∧ i ≤ M ∧ y = .bool false ∧ Below w11.heap.size w11 wr) (fun _ x _ => M - (intOf x).toNat)
      case atStart => exact ⟨0, rfl, Nat.zero_le _, (by first | rfl | exact congrArg Value.bool (beq_eq_false_iff_ne.2 hlMi)), Below.refl _ _⟩
      case round =>
        obtain ⟨i, rfl, hi, rfl, hbel⟩ := hrel
        have hxw : Below w.heap.size w wr := hB.trans (hbel.mono hB.size)
        have k2r := k2.below hbel
        by_cases hiM : i < M
        · have hiM2 : (i : Int) < (M : Int) := by omega
          have hiM3 : ¬ (M : Int) ≤ (i : Int) := by omega
          obtain ⟨bl, offl, rfl, hbl, y0, y1⟩ := fr_cell HLCz.out (show i < LL.length by rw [HM.out]; exact hiM)
          have hfl := HFL.out i hiM
          generalize (LL.getD i (0, 0)).1 = nb at y0 hfl
          generalize (LL.getD i (0, 0)).2 = db at y1 hfl
          have HG := hid hfl
          clear hfl
          go_wp2_with fail
          have hd := (Below.refl wr.heap.size wr).drew
          have z0 := fun x : SubT (Below wr.heap.size) wr.drew => ((hbel.trans ((hd.trans x.b).mono hbel.size)).cell (p := ⟨bl, offl + i * 2, none⟩) hbl).trans y0
          have z1 := fun x : SubT (Below wr.heap.size) wr.drew => ((hbel.trans ((hd.trans x.b).mono hbel.size)).cell (p := ⟨bl, offl + i * 2 + 1, none⟩) hbl).trans y1
          have z2 := fun x : SubT (Below wr.heap.size) wr.drew => (k2r.below (hd.trans x.b)).look 0 rfl
          have z3 := fun x : SubT (Below wr.heap.size) wr.drew => (k2r.below (hd.trans x.b)).look 1 rfl
          refine wp_walkJ (T := Below (wr.heap.size)) (belowV_pre _) (.rd 0 (.rd 1 (.rd 2 (.rd 3 (.rd 5 (.mv 4 (.bt 6 (.bt 7 (.rd 8 (.inv [])))))))))) (by kernel_rfl) rfl (by kernel_rfl) (by kernel_rfl) ?_
          iterate 5 (refine walkJ_rd rfl (fun K hK => ?_); go_simp; refine hK _ ?_; clear hK K)
          clear z0 z1 z2 z3
          (refine walkJ_mv rfl (fun K hK => ?_); go_simp; refine (of_fr HG.out.1 _).mono ?_; rintro e w12 ⟨q1, rfl, hq1, hb1⟩; refine ⟨_, rfl, hK _ _ hb1 ?_⟩; clear hK K)
          (refine walkJ_bt rfl (fun K hK => ?_); go_simp; refine (of_fr HFM.out.1 _).mono ?_; rintro e w13 ⟨q2, rfl, hq2, hb2⟩; refine ⟨_, rfl, hK _ _ ?_⟩; clear hK K)
          (refine walkJ_bt rfl (fun K hK => ?_); go_simp; refine (order_qs HG.out.1 HFM.out.1 (hq1.below hb2) hq2).mono ?_; rintro e w14 ⟨⟨z, rfl, hz⟩, hb3⟩; refine ⟨_, rfl, hK _ _ ?_⟩; clear hK K)
          have hz1 : z ≤ 0 := hz.2 HG.out.2
          have hz2 : ¬ 0 < z := by omega
          clear hz
          iterate 1 (refine walkJ_rd rfl (fun K hK => ?_); go_simp; refine hK _ ?_; clear hK K)
          refine walkJ_nil ?_
          have hb12 := hb1.trans (hb2.mono hb1.size)
          have hb13 := hb12.trans (hb3.mono hb12.size)
          have hb14 : Below wr.heap.size wr w14 := hd.trans hb13
          have k214 := k2r.below hb14
          have hbel14 := hbel.trans (hb14.mono hbel.size)
          have hxw14 := hxw.trans (hb14.mono hxw.size)
          clear hb12 hb13 hb1 hb2 hb3 hd hz1 hz2 y0 y1
          go_wp2_with fail
          refine wp_walkJ (T := Below (w14.heap.size)) (belowV_pre _) (.rd 0 (.rd 1 (.rd 2 (.rd 3 (.rd 4 (.rd 5 (.rd 7 (.mv 6 (.bt 8 (.bt 9 (.rd 10 (.rd 11 (.rd 12 (.inv [])))))))))))))) (by kernel_rfl) rfl (by kernel_rfl) (by kernel_rfl) ?_
          iterate 7 (refine walkJ_rd rfl (fun K hK => ?_); go_simp; refine hK _ ?_; clear hK K)
          (refine walkJ_sk rfl (fun K hK => ?_); go_simp; refine hK _ ?_; clear hK K)
          (refine walkJ_bs rfl (fun K hK => ?_); go_simp; refine hK _ ?_; clear hK K)
          (refine walkJ_bs rfl (fun K hK => ?_); go_simp; refine hK _ ?_; clear hK K)
          iterate 3 (refine walkJ_rd rfl (fun K hK => ?_); go_simp; refine hK _ ?_; clear hK K)
          refine walkJ_nil ?_
          go_wp2
          exact ⟨⟨i + 1, by go_num, by omega, rfl, hbel14.trans (((Below.refl w14.heap.size w14).drew).mono hbel14.size)⟩, by simp [intOf]; omega⟩
        · obtain rfl : M = i := by omega
          have hiM2 : ¬ (M : Int) < (M : Int) := by omega
          go_wp2_with fail
          generalize wr = wa at *
          go_loopw [120] (fun x w2 => ∃ i : Nat, x = .int .i64 i ∧ i ≤ M ∧ Below wa.heap.size wa w2) (fun x _ => M - (intOf x).toNat)
          case atStart => exact ⟨0, rfl, Nat.zero_le _, Below.refl _ _⟩
          case round =>
            obtain ⟨i, rfl, hi, hbel2⟩ := hrel
            have hbel3 := hbel.trans (hbel2.mono hbel.size)
            have hxw2 := hxw.trans (hbel2.mono hxw.size)
            clear hiM2
            by_cases hiM : i < M
            · have hiM2 : (i : Int) < (M : Int) := by omega
              have hiM3 : ¬ (M : Int) ≤ (i : Int) := by omega
              go_wp2_with fail
              refine wp_walkJ (T := Below (wr.heap.size)) (belowV_pre _) (.rd 0 (.rd 1 (.rd 2 (.rd 3 (.rd 4 (.rd 5 (.rd 7 (.rd 8 (.rd 9 (.rd 10 (.mv 6 (.bt 11 (.bt 12 (.rd 13 (.rd 14 (.inv [])))))))))))))))) (by kernel_rfl) rfl (by kernel_rfl) (by kernel_rfl) ?_
              iterate 10 (refine walkJ_rd rfl (fun K hK => ?_); go_simp; refine hK _ ?_; clear hK K)
              (refine walkJ_sk rfl (fun K hK => ?_); go_simp; refine hK _ ?_; clear hK K)
              (refine walkJ_bs rfl (fun K hK => ?_); go_simp; refine hK _ ?_; clear hK K)
              (refine walkJ_bs rfl (fun K hK => ?_); go_simp; refine hK _ ?_; clear hK K)
              iterate 2 (refine walkJ_rd rfl (fun K hK => ?_); go_simp; refine hK _ ?_; clear hK K)
              refine walkJ_nil ?_
              go_wp2
              exact ⟨⟨i + 1, by go_num, by omega, hbel2.trans (((Below.refl wr.heap.size wr).drew).mono hbel2.size)⟩, by simp [intOf]; omega⟩
            · obtain rfl : M = i := by omega
              have hiM2 : ¬ (M : Int) < (M : Int) := by omega
              clear hB
              have hB := hxw2
              go_wp2_with fail
              refine (awake_any _).mono ?_
              rintro e wz ⟨rfl, hbz⟩
              go_wp2
              go_ret
              exact ⟨rfl, hB.trans (hbz.mono hB.size)⟩
  · skip
    go_wp2_with fail
    go_loopw [15, 93] (fun y x wr => ∃ i : Nat, x = .int .i64 i ∧ i ≤ M ∧ y = .bool false ∧ Below w11.heap.size w11 wr) (fun _ x _ => M - (intOf x).toNat)
    case atStart => exact ⟨0, rfl, Nat.zero_le _, (by first | rfl | exact congrArg Value.bool (beq_eq_false_iff_ne.2 hlMi)), Below.refl _ _⟩
    case round =>
      obtain ⟨i, rfl, hi, rfl, hbel⟩ := hrel
      have hxw : Below w.heap.size w wr := hB.trans (hbel.mono hB.size)
      have k2r := k2.below hbel
      by_cases hiM : i < M
      · have hiM2 : (i : Int) < (M : Int) := by omega
        have hiM3 : ¬ (M : Int) ≤ (i : Int) := by omega
        obtain ⟨bl, offl, rfl, hbl, y0, y1⟩ := fr_cell HLCz.out (show i < LL.length by rw [HM.out]; exact hiM)
        have hfl := HFL.out i hiM
        generalize (LL.getD i (0, 0)).1 = nb at y0 hfl
        generalize (LL.getD i (0, 0)).2 = db at y1 hfl
        have HG := hid hfl
        clear hfl
        go_wp2_with fail
        have hd := (Below.refl wr.heap.size wr).drew
        have z0 := fun x : SubT (Below wr.heap.size) wr.drew => ((hbel.trans ((hd.trans x.b).mono hbel.size)).cell (p := ⟨bl, offl + i * 2, none⟩) hbl).trans y0
        have z1 := fun x : SubT (Below wr.heap.size) wr.drew => ((hbel.trans ((hd.trans x.b).mono hbel.size)).cell (p := ⟨bl, offl + i * 2 + 1, none⟩) hbl).trans y1
        have z2 := fun x : SubT (Below wr.heap.size) wr.drew => (k2r.below (hd.trans x.b)).look 0 rfl
        have z3 := fun x : SubT (Below wr.heap.size) wr.drew => (k2r.below (hd.trans x.b)).look 1 rfl
        refine wp_walkJ (T := Below (wr.heap.size)) (belowV_pre _) (.rd 0 (.rd 1 (.rd 2 (.rd 3 (.rd 5 (.mv 4 (.bt 6 (.bt 7 (.rd 8 (.inv [])))))))))) (by kernel_rfl) rfl (by kernel_rfl) (by kernel_rfl) ?_
        iterate 5 (refine walkJ_rd rfl (fun K hK => ?_); go_simp; refine hK _ ?_; clear hK K)
        clear z0 z1 z2 z3
        (refine walkJ_mv rfl (fun K hK => ?_); go_simp; refine (of_fr HG.out.1 _).mono ?_; rintro e w12 ⟨q1, rfl, hq1, hb1⟩; refine ⟨_, rfl, hK _ _ hb1 ?_⟩; clear hK K)
        (refine walkJ_bt rfl (fun K hK => ?_); go_simp; refine (of_fr HFM.out.1 _).mono ?_; rintro e w13 ⟨q2, rfl, hq2, hb2⟩; refine ⟨_, rfl, hK _ _ ?_⟩; clear hK K)
        (refine walkJ_bt rfl (fun K hK => ?_); go_simp; refine (order_qs HG.out.1 HFM.out.1 (hq1.below hb2) hq2).mono ?_; rintro e w14 ⟨⟨z, rfl, hz⟩, hb3⟩; refine ⟨_, rfl, hK _ _ ?_⟩; clear hK K)
        have hz1 : z ≤ 0 := hz.2 HG.out.2
        have hz2 : ¬ 0 < z := by omega
        clear hz
        iterate 1 (refine walkJ_rd rfl (fun K hK => ?_); go_simp; refine hK _ ?_; clear hK K)
        refine walkJ_nil ?_
        have hb12 := hb1.trans (hb2.mono hb1.size)
        have hb13 := hb12.trans (hb3.mono hb12.size)
        have hb14 : Below wr.heap.size wr w14 := hd.trans hb13
        have k214 := k2r.below hb14
        have hbel14 := hbel.trans (hb14.mono hbel.size)
        have hxw14 := hxw.trans (hb14.mono hxw.size)
        clear hb12 hb13 hb1 hb2 hb3 hd hz1 hz2 y0 y1
        go_wp2_with fail
        refine wp_walkJ (T := Below (w14.heap.size)) (belowV_pre _) (.rd 0 (.rd 1 (.rd 2 (.rd 3 (.rd 4 (.rd 5 (.rd 7 (.mv 6 (.bt 8 (.bt 9 (.rd 10 (.rd 11 (.rd 12 (.inv [])))))))))))))) (by kernel_rfl) rfl (by kernel_rfl) (by kernel_rfl) ?_
        iterate 7 (refine walkJ_rd rfl (fun K hK => ?_); go_simp; refine hK _ ?_; clear hK K)
        (refine walkJ_sk rfl (fun K hK => ?_); go_simp; refine hK _ ?_; clear hK K)
        (refine walkJ_bs rfl (fun K hK => ?_); go_simp; refine hK _ ?_; clear hK K)
        (refine walkJ_bs rfl (fun K hK => ?_); go_simp; refine hK _ ?_; clear hK K)
        iterate 3 (refine walkJ_rd rfl (fun K hK => ?_); go_simp; refine hK _ ?_; clear hK K)
        refine walkJ_nil ?_
        go_wp2
        exact ⟨⟨i + 1, by go_num, by omega, rfl, hbel14.trans (((Below.refl w14.heap.size w14).drew).mono hbel14.size)⟩, by simp [intOf]; omega⟩
      · obtain rfl : M = i := by omega
        have hiM2 : ¬ (M : Int) < (M : Int) := by omega
        go_wp2_with fail
        generalize wr = wa at *
        go_loopw [120] (fun x w2 => ∃ i : Nat, x = .int .i64 i ∧ i ≤ M ∧ Below wa.heap.size wa w2) (fun x _ => M - (intOf x).toNat)
        case atStart => exact ⟨0, rfl, Nat.zero_le _, Below.refl _ _⟩
        case round =>
          obtain ⟨i, rfl, hi, hbel2⟩ := hrel
          have hbel3 := hbel.trans (hbel2.mono hbel.size)
          have hxw2 := hxw.trans (hbel2.mono hxw.size)
          clear hiM2
          by_cases hiM : i < M
          · have hiM2 : (i : Int) < (M : Int) := by omega
            have hiM3 : ¬ (M : Int) ≤ (i : Int) := by omega
            go_wp2_with fail
            refine wp_walkJ (T := Below (wr.heap.size)) (belowV_pre _) (.rd 0 (.rd 1 (.rd 2 (.rd 3 (.rd 4 (.rd 5 (.rd 7 (.rd 8 (.rd 9 (.rd 10 (.mv 6 (.bt 11 (.bt 12 (.rd 13 (.rd 14 (.inv [])))))))))))))))) (by kernel_rfl) rfl (by kernel_rfl) (by kernel_rfl) ?_
            iterate 10 (refine walkJ_rd rfl (fun K hK => ?_); go_simp; refine hK _ ?_; clear hK K)
            (refine walkJ_sk rfl (fun K hK => ?_); go_simp; refine hK _ ?_; clear hK K)
            (refine walkJ_bs rfl (fun K hK => ?_); go_simp; refine hK _ ?_; clear hK K)
            (refine walkJ_bs rfl (fun K hK => ?_); go_simp; refine hK _ ?_; clear hK K)
            iterate 2 (refine walkJ_rd rfl (fun K hK => ?_); go_simp; refine hK _ ?_; clear hK K)
            refine walkJ_nil ?_
            go_wp2
            exact ⟨⟨i + 1, by go_num, by omega, hbel2.trans (((Below.refl wr.heap.size wr).drew).mono hbel2.size)⟩, by simp [intOf]; omega⟩
          · obtain rfl : M = i := by omega
            have hiM2 : ¬ (M : Int) < (M : Int) := by omega
            clear hB
            have hB := hxw2
            go_wp2_with fail
            refine (awake_any _).mono ?_
            rintro e wz ⟨rfl, hbz⟩
            go_wp2
            go_ret
            exact ⟨rfl, hB.trans (hbz.mono hB.size)⟩

end Go.Proofs.Ytmknengmjepdaaa
