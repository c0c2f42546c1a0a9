/- Walk of the law TopWorkAdds. -/
import Derived.Test.YtfkclcoipadhmaaDoorGb
import Derived.Test.YtfkclcoipadhmaaDoorGa
import Derived.Test.YtfkclcoipadhmaaDoorEa
namespace Go.Proofs.YtfkclcoipadhmaaDoor
open Go.RowKit
attribute [local irreducible] seqS seqST walkV walkJ

theorem workO_fits {C : List Pt} {x : Rat} : ∀ {k : Nat} {w : Rat}, workO C x k = some w → fits w
  | 0, w, h => by
    rw [← Option.some.inj h]
    exact fits_nought
  | k + 1, w, h => by
    rw [work_step] at h
    cases h1 : workO C x k with
    | none => rw [h1] at h; cases h
    | some v =>
      rw [h1] at h
      simp only [Option.bind_some] at h
      by_cases c1 : (C.getD (k + 1) (0, 0)).1 ≤ x
      · rw [if_pos c1] at h; exact stripO_fits h
      · rw [if_neg c1] at h
        by_cases c2 : (C.getD k (0, 0)).1 < x
        · rw [if_pos c2] at h
          cases h2 : atO C x with
          | none => rw [h2] at h; cases h
          | some y => rw [h2] at h; exact stripO_fits h
        · rw [if_neg c2] at h
          rw [← Option.some.inj h]
          exact workO_fits h1
theorem wrk_ok {c : List P4} {n d : Int} (h : wrkE c n d = 0) : ∃ v, wrkV c n d = some v ∧ fits v := by
  unfold wrkE at h
  by_cases hk : RV c ∧ FV n d
  case neg => rw [if_neg hk] at h; cases h
  rw [if_pos hk] at h
  cases hv : wrkV c n d with
  | none => rw [hv] at h; cases h
  | some v =>
    refine ⟨v, rfl, ?_⟩
    unfold wrkV at hv
    by_cases k : RV c ∧ FV n d ∧ InDom (toQ c) (vq (n, d))
    · rw [if_pos k] at hv; exact workO_fits hv
    · rw [if_neg k] at hv; cases hv
theorem atv_ok {c : List P4} {n d : Int} (h : atE c n d = 0) : ∃ v, atV c n d = some v ∧ fits v := by
  unfold atE at h
  by_cases hk : RV c ∧ FV n d
  case neg => rw [if_neg hk] at h; cases h
  rw [if_pos hk] at h
  cases hv : atV c n d with
  | none => rw [hv] at h; cases h
  | some v =>
    refine ⟨v, rfl, ?_⟩
    unfold atV at hv
    by_cases k : RV c ∧ FV n d ∧ InDom (toQ c) (vq (n, d))
    case neg => rw [if_neg k] at hv; cases hv
    rw [if_pos k] at hv
    have hcv := rv_cv k.1
    rcases place hcv k.2.2 with ⟨i, hi, he⟩ | ⟨i, hi, hl, hr⟩
    · rw [at_same hcv hi he] at hv
      rw [← Option.some.inj hv]
      exact (hcv.fit i hi).2
    · rw [at_between hcv hi hl hr] at hv
      exact segO_fits hv
theorem sgn_same (s : Rat) : sgnQ (s - s) = 0 := by
  rw [sgn_cmp]
  exact (cmpQ_eq s s).2 rfl

set_option maxHeartbeats 8000000 in
set_option maxRecDepth 100000 in
theorem TopWorkAdds_any (c d : List P4) (n e : Int) (u v : Value) (w : World) (hc : P4R 0 w u c) (hd : P4R 0 w v d) (hz : Z0 w) :
    Calls Tryd.prog 15 #[u, v, .agg #[.int .i64 n, .int .i64 e]] w fun r w' => r = .returned (.bool true) ∧ Below w.heap.size w w' := by
  have SU := hid (fun w h1 h2 hz => Sum_any c d u v w h1 h2 hz)
  have VA := hid (fun w h => r2Valid_any c u w h)
  have VB := hid (fun w h => r2Valid_any d v w h)
  have VC := hid (fun u w h => r2Valid_any (ofQ (sumL c d)) u w h)
  have W1 := hid (fun w h hz => Work_any c n e u w h hz)
  have W2 := hid (fun w h hz => Work_any d n e v w h hz)
  have W3 := hid (fun u w h hz => Work_any (ofQ (sumL c d)) n e u w h hz)
  have A1 := hid (fun w h hz => At_any c n e u w h hz)
  have A2 := hid (fun w h hz => At_any d n e v w h hz)
  have A3 := hid (fun u w h hz => At_any (ofQ (sumL c d)) n e u w h hz)
  have HRV := hid (fun h : sumE c d = 0 => (⟨(sum_adds h).1, (sum_adds h).2.1, rv_ofQ.2 (sum_cv h)⟩ : RV c ∧ RV d ∧ RV (ofQ (sumL c d))))
  have HWK : Hid (sumE c d = 0 → wrkE c n e = 0 → wrkE d n e = 0 → wrkE (ofQ (sumL c d)) n e = 0 → ∃ p q s : Rat, fits p ∧ fits q ∧ fits s ∧ p + q = s ∧ oN (wrkV c n e) = p.num ∧ oD (wrkV c n e) = (p.den : Int) ∧ oN (wrkV d n e) = q.num ∧ oD (wrkV d n e) = (q.den : Int) ∧ oN (wrkV (ofQ (sumL c d)) n e) = s.num ∧ oD (wrkV (ofQ (sumL c d)) n e) = (s.den : Int)) := hid (fun h h1 h2 h3 => by
    obtain ⟨p, e1, f1⟩ := wrk_ok h1
    obtain ⟨q, e2, f2⟩ := wrk_ok h2
    obtain ⟨s, e3, f3⟩ := wrk_ok h3
    refine ⟨p, q, s, f1, f2, f3, (adds h).1 p q s e1 e2 e3, ?_⟩
    rw [e1, e2, e3]
    exact ⟨rfl, rfl, rfl, rfl, rfl, rfl⟩)
  have HAD : Hid (sumE c d = 0 → atE c n e = 0 → atE d n e = 0 → atE (ofQ (sumL c d)) n e = 0 → ∀ w, Calls Tryd.prog 58 #[.agg #[.int .i64 (oN (atV c n e)), .int .i64 (oD (atV c n e))], .agg #[.int .i64 (oN (atV d n e)), .int .i64 (oD (atV d n e))]] w fun r w' =>
      r = .returned (.tuple #[.agg #[.int .i64 (oN (atV (ofQ (sumL c d)) n e)), .int .i64 (oD (atV (ofQ (sumL c d)) n e))], .int .i64 0]) ∧ Below w.heap.size w w') := hid (fun h h1 h2 h3 w => by
    obtain ⟨y, e1, f1⟩ := atv_ok h1
    obtain ⟨z, e2, f2⟩ := atv_ok h2
    obtain ⟨t, e3, f3⟩ := atv_ok h3
    have hs := (adds h).2 y z t e1 e2 e3
    have := addQ_any y z f1 f2 w
    rw [hs.1] at this
    rw [e1, e2, e3]
    rw [show fitN t = t.num from if_pos f3, show fitD t = (t.den : Int) from if_pos f3, show fitE t = 0 from if_pos f3] at this
    exact this)
  obtain ⟨E0, hE0⟩ : ∃ z, sumE c d = z := ⟨_, rfl⟩
  rw [hE0] at SU HRV HWK HAD
  generalize sumL c d = sl at SU VC W3 A3 HRV HWK HAD
  generalize wrkE c n e = We at W1 HWK
  generalize oN (wrkV c n e) = Wa at W1 HWK
  generalize oD (wrkV c n e) = Wb at W1 HWK
  generalize wrkE d n e = Xe at W2 HWK
  generalize oN (wrkV d n e) = Xa at W2 HWK
  generalize oD (wrkV d n e) = Xb at W2 HWK
  generalize wrkE (ofQ sl) n e = Se at W3 HWK
  generalize oN (wrkV (ofQ sl) n e) = Sa at W3 HWK
  generalize oD (wrkV (ofQ sl) n e) = Sb at W3 HWK
  generalize atE c n e = Ye at A1 HAD
  generalize oN (atV c n e) = Ya at A1 HAD
  generalize oD (atV c n e) = Yb at A1 HAD
  generalize atE d n e = Ze at A2 HAD
  generalize oN (atV d n e) = Za at A2 HAD
  generalize oD (atV d n e) = Zb at A2 HAD
  generalize atE (ofQ sl) n e = Te at A3 HAD
  generalize oN (atV (ofQ sl) n e) = Ta at A3 HAD
  generalize oD (atV (ofQ sl) n e) = Tb at A3 HAD
  obtain ⟨a1, c1, rfl, -⟩ := id hc
  obtain ⟨a2, c2, rfl, -⟩ := id hd
  have k0 := Blk.new w #[.int .i64 n, .int .i64 e] 32
  have hB := (Below.refl w.heap.size w).alloc (Nat.le_refl _) (.cells #[.int .i64 n, .int .i64 e] 32)
  clear hE0
  go_enter Tryd.func15, Tryd.ntmps15
  go_wp2_with fail
  obtain ⟨w0, hw0⟩ : ∃ w0, w.alloc (.cells #[.int .i64 n, .int .i64 e] 32) = w0 := ⟨_, rfl⟩
  rw [hw0] at k0 hB ⊢
  clear hw0
  replace hc := hc.below hB
  replace hd := hd.below hB
  have hz0 := hz.below hB
  clear hz
  refine (SU.out _ hc hd hz0).mono ?_
  rintro r w1 ⟨⟨us, rfl, hus⟩, hb1⟩
  replace hc := hc.below hb1
  replace hd := hd.below hb1
  replace hz0 := hz0.below hb1
  replace k0 := k0.below hb1
  have hq := (PsR.mono hus (Nat.zero_le _)).ofQ
  replace hB := hB.trans (hb1.mono hB.size)
  clear SU hus hb1 w0
  by_cases hE : E0 = 0
  case neg =>
    have hEb : (E0 == 0) = false := by simp [hE]
    go_wp2_with fail
    refine (curves_any _ hz0).mono ?_
    rintro r w9 ⟨rfl, hb9⟩
    replace hB := hB.trans (hb9.mono hB.size)
    clear hb9
    go_wp2
    go_ret
    exact ⟨rfl, hB⟩
  subst hE
  obtain ⟨r1, r2, r3⟩ := HRV.out rfl
  rw [decide_eq_true r1] at VA
  rw [decide_eq_true r2] at VB
  rw [decide_eq_true r3] at VC
  replace HWK := hid (HWK.out rfl)
  replace HAD := hid (HAD.out rfl)
  clear HRV r1 r2 r3
  go_wp2_with fail
  refine (VA.out _ hc).mono ?_
  rintro r w2 ⟨rfl, hb1⟩
  replace hc := hc.below hb1
  replace hd := hd.below hb1
  replace hz0 := hz0.below hb1
  replace k0 := k0.below hb1
  replace hq := hq.below hb1
  replace hB := hB.trans (hb1.mono hB.size)
  clear VA hb1
  go_wp2_with fail
  refine (VB.out _ hd).mono ?_
  rintro r w3 ⟨rfl, hb1⟩
  replace hc := hc.below hb1
  replace hd := hd.below hb1
  replace hz0 := hz0.below hb1
  replace k0 := k0.below hb1
  replace hq := hq.below hb1
  replace hB := hB.trans (hb1.mono hB.size)
  clear VB hb1
  go_wp2_with fail
  refine (VC.out _ _ hq).mono ?_
  rintro r w4 ⟨rfl, hb1⟩
  replace hc := hc.below hb1
  replace hd := hd.below hb1
  replace hz0 := hz0.below hb1
  replace k0 := k0.below hb1
  replace hq := hq.below hb1
  replace hB := hB.trans (hb1.mono hB.size)
  clear VC hb1
  have x0 := k0.look 0 rfl
  have x1 := k0.look 1 rfl
  go_wp2_with fail
  refine (W1.out _ hc hz0).mono ?_
  rintro r w1 ⟨rfl, hb1⟩
  have kA := Blk.new w1 #[.int .i64 Wa, .int .i64 Wb] 32
  have ba := alloc_below w1 (.cells #[.int .i64 Wa, .int .i64 Wb] 32)
  replace hb1 := hb1.trans (ba.mono hb1.size)
  replace k0 := k0.below hb1
  replace hc := hc.below hb1
  replace hd := hd.below hb1
  replace hq := hq.below hb1
  replace hz0 := hz0.below hb1
  replace hB := hB.trans (hb1.mono hB.size)
  clear x0 x1 hb1 ba W1
  have x0 := k0.look 0 rfl
  have x1 := k0.look 1 rfl
  go_wp2_with fail
  obtain ⟨g1, hg1⟩ : ∃ g, w1.heap.size = g := ⟨_, rfl⟩
  obtain ⟨wa, hwa⟩ : ∃ W, w1.alloc (.cells #[.int .i64 Wa, .int .i64 Wb] 32) = W := ⟨_, rfl⟩
  rw [hwa] at kA k0 hc hd hq hz0 hB ⊢
  rw [hg1] at kA ⊢
  clear hwa hg1 x0 x1 w1
  refine (W2.out _ hd hz0).mono ?_
  rintro r w1 ⟨rfl, hb1⟩
  have kB := Blk.new w1 #[.int .i64 Xa, .int .i64 Xb] 32
  have ba := alloc_below w1 (.cells #[.int .i64 Xa, .int .i64 Xb] 32)
  replace hb1 := hb1.trans (ba.mono hb1.size)
  replace k0 := k0.below hb1
  replace kA := kA.below hb1
  replace hc := hc.below hb1
  replace hd := hd.below hb1
  replace hq := hq.below hb1
  replace hz0 := hz0.below hb1
  replace hB := hB.trans (hb1.mono hB.size)
  clear hb1 ba W2
  have x0 := k0.look 0 rfl
  have x1 := k0.look 1 rfl
  go_wp2_with fail
  obtain ⟨g2, hg1⟩ : ∃ g, w1.heap.size = g := ⟨_, rfl⟩
  obtain ⟨wb, hwa⟩ : ∃ W, w1.alloc (.cells #[.int .i64 Xa, .int .i64 Xb] 32) = W := ⟨_, rfl⟩
  rw [hwa] at kA kB k0 hc hd hq hz0 hB ⊢
  rw [hg1] at kB ⊢
  clear hwa hg1 x0 x1 w1
  refine (W3.out _ _ hq hz0).mono ?_
  rintro r w1 ⟨rfl, hb1⟩
  have kC := Blk.new w1 #[.int .i64 Sa, .int .i64 Sb] 32
  have ba := alloc_below w1 (.cells #[.int .i64 Sa, .int .i64 Sb] 32)
  replace hb1 := hb1.trans (ba.mono hb1.size)
  replace k0 := k0.below hb1
  replace kA := kA.below hb1
  replace kB := kB.below hb1
  replace hc := hc.below hb1
  replace hd := hd.below hb1
  replace hq := hq.below hb1
  replace hz0 := hz0.below hb1
  replace hB := hB.trans (hb1.mono hB.size)
  clear hb1 ba W3
  by_cases h1 : We = 0
  case neg =>
    clear HWK
    have x0 := k0.look 0 rfl
    have x1 := k0.look 1 rfl
    go_wp2_with fail
    refine (A1.out _ hc hz0).mono ?_
    rintro r w1 ⟨rfl, hb1⟩
    have kA := Blk.new w1 #[.int .i64 Ya, .int .i64 Yb] 32
    have ba := alloc_below w1 (.cells #[.int .i64 Ya, .int .i64 Yb] 32)
    replace hb1 := hb1.trans (ba.mono hb1.size)
    replace k0 := k0.below hb1
    replace hd := hd.below hb1
    replace hq := hq.below hb1
    replace hz0 := hz0.below hb1
    replace hB := hB.trans (hb1.mono hB.size)
    clear x0 x1 hb1 ba hc
    have x0 := k0.look 0 rfl
    have x1 := k0.look 1 rfl
    go_wp2_with fail
    obtain ⟨g1, hg1⟩ : ∃ g, w1.heap.size = g := ⟨_, rfl⟩
    obtain ⟨wa, hwa⟩ : ∃ W, w1.alloc (.cells #[.int .i64 Ya, .int .i64 Yb] 32) = W := ⟨_, rfl⟩
    rw [hwa] at kA k0 hd hq hz0 hB ⊢
    rw [hg1] at kA ⊢
    clear hwa hg1 x0 x1 w1
    refine (A2.out _ hd hz0).mono ?_
    rintro r w1 ⟨rfl, hb1⟩
    have kB := Blk.new w1 #[.int .i64 Za, .int .i64 Zb] 32
    have ba := alloc_below w1 (.cells #[.int .i64 Za, .int .i64 Zb] 32)
    replace hb1 := hb1.trans (ba.mono hb1.size)
    replace k0 := k0.below hb1
    replace kA := kA.below hb1
    replace hq := hq.below hb1
    replace hz0 := hz0.below hb1
    replace hB := hB.trans (hb1.mono hB.size)
    clear hb1 ba hd
    have x0 := k0.look 0 rfl
    have x1 := k0.look 1 rfl
    go_wp2_with fail
    obtain ⟨g2, hg1⟩ : ∃ g, w1.heap.size = g := ⟨_, rfl⟩
    obtain ⟨wb, hwa⟩ : ∃ W, w1.alloc (.cells #[.int .i64 Za, .int .i64 Zb] 32) = W := ⟨_, rfl⟩
    rw [hwa] at kA kB k0 hq hz0 hB ⊢
    rw [hg1] at kB ⊢
    clear hwa hg1 x0 x1 w1
    refine (A3.out _ _ hq hz0).mono ?_
    rintro r w1 ⟨rfl, hb1⟩
    have kC := Blk.new w1 #[.int .i64 Ta, .int .i64 Tb] 32
    have ba := alloc_below w1 (.cells #[.int .i64 Ta, .int .i64 Tb] 32)
    replace hb1 := hb1.trans (ba.mono hb1.size)
    replace kA := kA.below hb1
    replace kB := kB.below hb1
    replace hz0 := hz0.below hb1
    replace hB := hB.trans (hb1.mono hB.size)
    clear hb1 ba hq k0
    have y0 := kA.look 0 rfl
    have y1 := kA.look 1 rfl
    have y2 := kB.look 0 rfl
    have y3 := kB.look 1 rfl
    by_cases hy1 : Ye = 0
    case neg =>
      go_wp2_with fail
      refine (curves_any _ hz0).mono ?_
      rintro r w9 ⟨rfl, hb9⟩
      replace hB := hB.trans (hb9.mono hB.size)
      clear hb9
      go_wp2
      go_ret
      exact ⟨rfl, hB⟩
    by_cases hy2 : Ze = 0
    case neg =>
      go_wp2_with fail
      refine (curves_any _ hz0).mono ?_
      rintro r w9 ⟨rfl, hb9⟩
      replace hB := hB.trans (hb9.mono hB.size)
      clear hb9
      go_wp2
      go_ret
      exact ⟨rfl, hB⟩
    by_cases hy3 : Te = 0
    case neg =>
      go_wp2_with fail
      refine (curves_any _ hz0).mono ?_
      rintro r w9 ⟨rfl, hb9⟩
      replace hB := hB.trans (hb9.mono hB.size)
      clear hb9
      go_wp2
      go_ret
      exact ⟨rfl, hB⟩
    have AD := hid (HAD.out hy1 hy2 hy3)
    clear HAD
    go_wp2_with fail
    obtain ⟨g3, hg1⟩ : ∃ g, w1.heap.size = g := ⟨_, rfl⟩
    obtain ⟨wc, hwa⟩ : ∃ W, w1.alloc (.cells #[.int .i64 Ta, .int .i64 Tb] 32) = W := ⟨_, rfl⟩
    rw [hwa] at kC hz0 hB ⊢
    rw [hg1] at kC ⊢
    clear hwa hg1 y0 y1 y2 y3 w1 kA kB
    refine (AD.out _).mono ?_
    rintro r w1 ⟨rfl, hb1⟩
    have kE := Blk.new w1 #[.int .i64 Ta, .int .i64 Tb] 32
    have ba := alloc_below w1 (.cells #[.int .i64 Ta, .int .i64 Tb] 32)
    replace hb1 := hb1.trans (ba.mono hb1.size)
    replace kC := kC.below hb1
    replace hz0 := hz0.below hb1
    replace hB := hB.trans (hb1.mono hB.size)
    clear hb1 ba
    have y0 := kC.look 0 rfl
    have y1 := kC.look 1 rfl
    have y2 := kE.look 0 rfl
    have y3 := kE.look 1 rfl
    go_wp2_with fail
    refine (curves_any _ hz0).mono ?_
    rintro r w9 ⟨rfl, hb9⟩
    replace hB := hB.trans (hb9.mono hB.size)
    clear hb9
    go_wp2
    go_ret
    exact ⟨rfl, hB⟩
  by_cases h2 : Xe = 0
  case neg =>
    clear HWK
    have x0 := k0.look 0 rfl
    have x1 := k0.look 1 rfl
    go_wp2_with fail
    refine (A1.out _ hc hz0).mono ?_
    rintro r w1 ⟨rfl, hb1⟩
    have kA := Blk.new w1 #[.int .i64 Ya, .int .i64 Yb] 32
    have ba := alloc_below w1 (.cells #[.int .i64 Ya, .int .i64 Yb] 32)
    replace hb1 := hb1.trans (ba.mono hb1.size)
    replace k0 := k0.below hb1
    replace hd := hd.below hb1
    replace hq := hq.below hb1
    replace hz0 := hz0.below hb1
    replace hB := hB.trans (hb1.mono hB.size)
    clear x0 x1 hb1 ba hc
    have x0 := k0.look 0 rfl
    have x1 := k0.look 1 rfl
    go_wp2_with fail
    obtain ⟨g1, hg1⟩ : ∃ g, w1.heap.size = g := ⟨_, rfl⟩
    obtain ⟨wa, hwa⟩ : ∃ W, w1.alloc (.cells #[.int .i64 Ya, .int .i64 Yb] 32) = W := ⟨_, rfl⟩
    rw [hwa] at kA k0 hd hq hz0 hB ⊢
    rw [hg1] at kA ⊢
    clear hwa hg1 x0 x1 w1
    refine (A2.out _ hd hz0).mono ?_
    rintro r w1 ⟨rfl, hb1⟩
    have kB := Blk.new w1 #[.int .i64 Za, .int .i64 Zb] 32
    have ba := alloc_below w1 (.cells #[.int .i64 Za, .int .i64 Zb] 32)
    replace hb1 := hb1.trans (ba.mono hb1.size)
    replace k0 := k0.below hb1
    replace kA := kA.below hb1
    replace hq := hq.below hb1
    replace hz0 := hz0.below hb1
    replace hB := hB.trans (hb1.mono hB.size)
    clear hb1 ba hd
    have x0 := k0.look 0 rfl
    have x1 := k0.look 1 rfl
    go_wp2_with fail
    obtain ⟨g2, hg1⟩ : ∃ g, w1.heap.size = g := ⟨_, rfl⟩
    obtain ⟨wb, hwa⟩ : ∃ W, w1.alloc (.cells #[.int .i64 Za, .int .i64 Zb] 32) = W := ⟨_, rfl⟩
    rw [hwa] at kA kB k0 hq hz0 hB ⊢
    rw [hg1] at kB ⊢
    clear hwa hg1 x0 x1 w1
    refine (A3.out _ _ hq hz0).mono ?_
    rintro r w1 ⟨rfl, hb1⟩
    have kC := Blk.new w1 #[.int .i64 Ta, .int .i64 Tb] 32
    have ba := alloc_below w1 (.cells #[.int .i64 Ta, .int .i64 Tb] 32)
    replace hb1 := hb1.trans (ba.mono hb1.size)
    replace kA := kA.below hb1
    replace kB := kB.below hb1
    replace hz0 := hz0.below hb1
    replace hB := hB.trans (hb1.mono hB.size)
    clear hb1 ba hq k0
    have y0 := kA.look 0 rfl
    have y1 := kA.look 1 rfl
    have y2 := kB.look 0 rfl
    have y3 := kB.look 1 rfl
    by_cases hy1 : Ye = 0
    case neg =>
      go_wp2_with fail
      refine (curves_any _ hz0).mono ?_
      rintro r w9 ⟨rfl, hb9⟩
      replace hB := hB.trans (hb9.mono hB.size)
      clear hb9
      go_wp2
      go_ret
      exact ⟨rfl, hB⟩
    by_cases hy2 : Ze = 0
    case neg =>
      go_wp2_with fail
      refine (curves_any _ hz0).mono ?_
      rintro r w9 ⟨rfl, hb9⟩
      replace hB := hB.trans (hb9.mono hB.size)
      clear hb9
      go_wp2
      go_ret
      exact ⟨rfl, hB⟩
    by_cases hy3 : Te = 0
    case neg =>
      go_wp2_with fail
      refine (curves_any _ hz0).mono ?_
      rintro r w9 ⟨rfl, hb9⟩
      replace hB := hB.trans (hb9.mono hB.size)
      clear hb9
      go_wp2
      go_ret
      exact ⟨rfl, hB⟩
    have AD := hid (HAD.out hy1 hy2 hy3)
    clear HAD
    go_wp2_with fail
    obtain ⟨g3, hg1⟩ : ∃ g, w1.heap.size = g := ⟨_, rfl⟩
    obtain ⟨wc, hwa⟩ : ∃ W, w1.alloc (.cells #[.int .i64 Ta, .int .i64 Tb] 32) = W := ⟨_, rfl⟩
    rw [hwa] at kC hz0 hB ⊢
    rw [hg1] at kC ⊢
    clear hwa hg1 y0 y1 y2 y3 w1 kA kB
    refine (AD.out _).mono ?_
    rintro r w1 ⟨rfl, hb1⟩
    have kE := Blk.new w1 #[.int .i64 Ta, .int .i64 Tb] 32
    have ba := alloc_below w1 (.cells #[.int .i64 Ta, .int .i64 Tb] 32)
    replace hb1 := hb1.trans (ba.mono hb1.size)
    replace kC := kC.below hb1
    replace hz0 := hz0.below hb1
    replace hB := hB.trans (hb1.mono hB.size)
    clear hb1 ba
    have y0 := kC.look 0 rfl
    have y1 := kC.look 1 rfl
    have y2 := kE.look 0 rfl
    have y3 := kE.look 1 rfl
    go_wp2_with fail
    refine (curves_any _ hz0).mono ?_
    rintro r w9 ⟨rfl, hb9⟩
    replace hB := hB.trans (hb9.mono hB.size)
    clear hb9
    go_wp2
    go_ret
    exact ⟨rfl, hB⟩
  by_cases h3 : Se = 0
  case neg =>
    clear HWK
    have x0 := k0.look 0 rfl
    have x1 := k0.look 1 rfl
    go_wp2_with fail
    refine (A1.out _ hc hz0).mono ?_
    rintro r w1 ⟨rfl, hb1⟩
    have kA := Blk.new w1 #[.int .i64 Ya, .int .i64 Yb] 32
    have ba := alloc_below w1 (.cells #[.int .i64 Ya, .int .i64 Yb] 32)
    replace hb1 := hb1.trans (ba.mono hb1.size)
    replace k0 := k0.below hb1
    replace hd := hd.below hb1
    replace hq := hq.below hb1
    replace hz0 := hz0.below hb1
    replace hB := hB.trans (hb1.mono hB.size)
    clear x0 x1 hb1 ba hc
    have x0 := k0.look 0 rfl
    have x1 := k0.look 1 rfl
    go_wp2_with fail
    obtain ⟨g1, hg1⟩ : ∃ g, w1.heap.size = g := ⟨_, rfl⟩
    obtain ⟨wa, hwa⟩ : ∃ W, w1.alloc (.cells #[.int .i64 Ya, .int .i64 Yb] 32) = W := ⟨_, rfl⟩
    rw [hwa] at kA k0 hd hq hz0 hB ⊢
    rw [hg1] at kA ⊢
    clear hwa hg1 x0 x1 w1
    refine (A2.out _ hd hz0).mono ?_
    rintro r w1 ⟨rfl, hb1⟩
    have kB := Blk.new w1 #[.int .i64 Za, .int .i64 Zb] 32
    have ba := alloc_below w1 (.cells #[.int .i64 Za, .int .i64 Zb] 32)
    replace hb1 := hb1.trans (ba.mono hb1.size)
    replace k0 := k0.below hb1
    replace kA := kA.below hb1
    replace hq := hq.below hb1
    replace hz0 := hz0.below hb1
    replace hB := hB.trans (hb1.mono hB.size)
    clear hb1 ba hd
    have x0 := k0.look 0 rfl
    have x1 := k0.look 1 rfl
    go_wp2_with fail
    obtain ⟨g2, hg1⟩ : ∃ g, w1.heap.size = g := ⟨_, rfl⟩
    obtain ⟨wb, hwa⟩ : ∃ W, w1.alloc (.cells #[.int .i64 Za, .int .i64 Zb] 32) = W := ⟨_, rfl⟩
    rw [hwa] at kA kB k0 hq hz0 hB ⊢
    rw [hg1] at kB ⊢
    clear hwa hg1 x0 x1 w1
    refine (A3.out _ _ hq hz0).mono ?_
    rintro r w1 ⟨rfl, hb1⟩
    have kC := Blk.new w1 #[.int .i64 Ta, .int .i64 Tb] 32
    have ba := alloc_below w1 (.cells #[.int .i64 Ta, .int .i64 Tb] 32)
    replace hb1 := hb1.trans (ba.mono hb1.size)
    replace kA := kA.below hb1
    replace kB := kB.below hb1
    replace hz0 := hz0.below hb1
    replace hB := hB.trans (hb1.mono hB.size)
    clear hb1 ba hq k0
    have y0 := kA.look 0 rfl
    have y1 := kA.look 1 rfl
    have y2 := kB.look 0 rfl
    have y3 := kB.look 1 rfl
    by_cases hy1 : Ye = 0
    case neg =>
      go_wp2_with fail
      refine (curves_any _ hz0).mono ?_
      rintro r w9 ⟨rfl, hb9⟩
      replace hB := hB.trans (hb9.mono hB.size)
      clear hb9
      go_wp2
      go_ret
      exact ⟨rfl, hB⟩
    by_cases hy2 : Ze = 0
    case neg =>
      go_wp2_with fail
      refine (curves_any _ hz0).mono ?_
      rintro r w9 ⟨rfl, hb9⟩
      replace hB := hB.trans (hb9.mono hB.size)
      clear hb9
      go_wp2
      go_ret
      exact ⟨rfl, hB⟩
    by_cases hy3 : Te = 0
    case neg =>
      go_wp2_with fail
      refine (curves_any _ hz0).mono ?_
      rintro r w9 ⟨rfl, hb9⟩
      replace hB := hB.trans (hb9.mono hB.size)
      clear hb9
      go_wp2
      go_ret
      exact ⟨rfl, hB⟩
    have AD := hid (HAD.out hy1 hy2 hy3)
    clear HAD
    go_wp2_with fail
    obtain ⟨g3, hg1⟩ : ∃ g, w1.heap.size = g := ⟨_, rfl⟩
    obtain ⟨wc, hwa⟩ : ∃ W, w1.alloc (.cells #[.int .i64 Ta, .int .i64 Tb] 32) = W := ⟨_, rfl⟩
    rw [hwa] at kC hz0 hB ⊢
    rw [hg1] at kC ⊢
    clear hwa hg1 y0 y1 y2 y3 w1 kA kB
    refine (AD.out _).mono ?_
    rintro r w1 ⟨rfl, hb1⟩
    have kE := Blk.new w1 #[.int .i64 Ta, .int .i64 Tb] 32
    have ba := alloc_below w1 (.cells #[.int .i64 Ta, .int .i64 Tb] 32)
    replace hb1 := hb1.trans (ba.mono hb1.size)
    replace kC := kC.below hb1
    replace hz0 := hz0.below hb1
    replace hB := hB.trans (hb1.mono hB.size)
    clear hb1 ba
    have y0 := kC.look 0 rfl
    have y1 := kC.look 1 rfl
    have y2 := kE.look 0 rfl
    have y3 := kE.look 1 rfl
    go_wp2_with fail
    refine (curves_any _ hz0).mono ?_
    rintro r w9 ⟨rfl, hb9⟩
    replace hB := hB.trans (hb9.mono hB.size)
    clear hb9
    go_wp2
    go_ret
    exact ⟨rfl, hB⟩
  obtain ⟨p, q, s, f1, f2, f3, hpq, e1, e2, e3, e4, e5, e6⟩ := HWK.out h1 h2 h3
  clear HWK
  subst e1 e2 e3 e4 e5 e6
  go_wp2_with fail
  obtain ⟨g3, hg1⟩ : ∃ g, w1.heap.size = g := ⟨_, rfl⟩
  obtain ⟨Wz, hwa⟩ : ∃ W, w1.alloc (.cells #[.int .i64 s.num, .int .i64 (s.den : Int)] 32) = W := ⟨_, rfl⟩
  rw [hwa] at kA kB kC k0 hc hd hq hz0 hB ⊢
  rw [hg1] at kC ⊢
  clear hwa hg1 w1
  have V1 := hid (fun w => rvalidQ_any p f1 w)
  have V2 := hid (fun w => rvalidQ_any q f2 w)
  have V3 := hid (fun w => rvalidQ_any s f3 w)
  have O1 := hid (fun w => ofQ_any p f1 w)
  have O2 := hid (fun w => ofQ_any q f2 w)
  have O3 := hid (fun w => ofQ_any s f3 w)
  have S1 := hid (fits_S f1)
  have S2 := hid (fits_S f2)
  have S3 := hid (fits_S f3)
  have HPQ := hid hpq
  unfold frQ at V1 V2 V3 O1 O2 O3
  clear f1 f2 f3 hpq
  have hd0 := (Below.refl Wz.heap.size Wz).drew
  have z0 := fun y : SubT (Below Wz.heap.size) Wz.drew => (kA.below (hd0.trans y.b)).look 0 rfl
  have z1 := fun y : SubT (Below Wz.heap.size) Wz.drew => (kA.below (hd0.trans y.b)).look 1 rfl
  refine wp_walkJ (T := Below (Wz.heap.size)) (belowV_pre _) (.rd 0 (.bt 1 (.rd 2 (.rd 3 (.rd 4 (.bt 5 (.rd 6 (.rd 7 (.rd 8 (.rd 9 (.bt 10 (.rd 11 (.rd 12 (.rd 13 (.rd 14 (.rd 16 (.rd 19 (.mv 15 (.mv 17 (.mv 18 (.bt 20 (.bt 21 (.rd 22 (.rd 23 (.inv []))))))))))))))))))))))))) (by kernel_rfl) rfl (by kernel_rfl) (by kernel_rfl) ?_
  iterate 1 (refine walkJ_rd rfl (fun K hK => ?_); go_simp; refine hK _ ?_; clear hK K)
  clear z0 z1
  (refine walkJ_bt rfl (fun K hK => ?_); go_simp; refine (V1.out _).mono ?_; rintro r wv1 ⟨rfl, hb1⟩; refine ⟨_, rfl, hK _ _ ?_⟩; clear hK K)
  have hd1 := hd0.trans (hb1.mono hd0.size)
  clear hd0 hb1
  have z0 := fun y : SubT (Below Wz.heap.size) wv1 => (kB.below (hd1.trans y.b)).look 0 rfl
  have z1 := fun y : SubT (Below Wz.heap.size) wv1 => (kB.below (hd1.trans y.b)).look 1 rfl
  iterate 3 (refine walkJ_rd rfl (fun K hK => ?_); go_simp; refine hK _ ?_; clear hK K)
  clear z0 z1
  (refine walkJ_bt rfl (fun K hK => ?_); go_simp; refine (V2.out _).mono ?_; rintro r wv2 ⟨rfl, hb1⟩; refine ⟨_, rfl, hK _ _ ?_⟩; clear hK K)
  have hd2 := hd1.trans (hb1.mono hd1.size)
  clear hd1 hb1
  have z0 := fun y : SubT (Below Wz.heap.size) wv2 => (kC.below (hd2.trans y.b)).look 0 rfl
  have z1 := fun y : SubT (Below Wz.heap.size) wv2 => (kC.below (hd2.trans y.b)).look 1 rfl
  iterate 4 (refine walkJ_rd rfl (fun K hK => ?_); go_simp; refine hK _ ?_; clear hK K)
  clear z0 z1
  (refine walkJ_bt rfl (fun K hK => ?_); go_simp; refine (V3.out _).mono ?_; rintro r wv3 ⟨rfl, hb1⟩; refine ⟨_, rfl, hK _ _ ?_⟩; clear hK K)
  have hd3 := hd2.trans (hb1.mono hd2.size)
  clear hd2 hb1
  have z0 := fun y : SubT (Below Wz.heap.size) wv3 => (kA.below (hd3.trans y.b)).look 0 rfl
  have z1 := fun y : SubT (Below Wz.heap.size) wv3 => (kA.below (hd3.trans y.b)).look 1 rfl
  have z2 := fun y : SubT (Below Wz.heap.size) wv3 => (kB.below (hd3.trans y.b)).look 0 rfl
  have z3 := fun y : SubT (Below Wz.heap.size) wv3 => (kB.below (hd3.trans y.b)).look 1 rfl
  have z4 := fun y : SubT (Below Wz.heap.size) wv3 => (kC.below (hd3.trans y.b)).look 0 rfl
  have z5 := fun y : SubT (Below Wz.heap.size) wv3 => (kC.below (hd3.trans y.b)).look 1 rfl
  iterate 6 (refine walkJ_rd rfl (fun K hK => ?_); go_simp; refine hK _ ?_; clear hK K)
  clear z0 z1 z2 z3 z4 z5
  (refine walkJ_mv rfl (fun K hK => ?_); go_simp; refine (O1.out _).mono ?_; rintro r w3 ⟨v1, rfl, h1, hb3⟩; refine ⟨_, rfl, hK _ _ (hb3.mono hd3.size) ?_⟩; clear hK K)
  have hd4 := hd3.trans (hb3.mono hd3.size)
  (refine walkJ_mv rfl (fun K hK => ?_); go_simp; refine (O2.out _).mono ?_; rintro r w4 ⟨v2, rfl, h2, hb4⟩; refine ⟨_, rfl, hK _ _ (hb4.mono hd4.size) ?_⟩; clear hK K)
  have hd5 := hd4.trans (hb4.mono hd4.size)
  (refine walkJ_mv rfl (fun K hK => ?_); go_simp; refine (Plus_any _ _ _ _ _ (h1.below hb4).rat h2.rat S1.out S2.out).mono ?_; rintro r w5 ⟨v3, rfl, h3, hb5⟩; refine ⟨_, rfl, hK _ _ (hb5.mono hd5.size) ?_⟩; clear hK K)
  have hd6 := hd5.trans (hb5.mono hd5.size)
  rw [HPQ.out] at h3
  (refine walkJ_bt rfl (fun K hK => ?_); go_simp; refine (O3.out _).mono ?_; rintro r w6 ⟨v4, rfl, h4, hb6⟩; refine ⟨_, rfl, hK _ _ ?_⟩; clear hK K)
  have hd7 := hd6.trans (hb6.mono hd6.size)
  (refine walkJ_bt rfl (fun K hK => ?_); go_simp; refine (Order_any _ _ _ _ _ (h3.below hb6).rat h4.rat S3.out S3.out).mono ?_; rintro r w7 ⟨rfl, hb7⟩; refine ⟨_, rfl, hK _ _ ?_⟩; clear hK K)
  have hd8 := hd7.trans (hb7.mono hd7.size)
  rw [sgn_same]
  iterate 2 (refine walkJ_rd rfl (fun K hK => ?_); go_simp; refine hK _ ?_; clear hK K)
  refine walkJ_nil ?_
  replace hc := hc.below hd8
  replace hd := hd.below hd8
  replace hq := hq.below hd8
  replace hz0 := hz0.below hd8
  replace k0 := k0.below hd8
  replace hB := hB.trans (hd8.mono hB.size)
  clear h1 h2 h3 h4 hb3 hb4 hb5 hb6 hb7 hd3 hd4 hd5 hd6 hd7 hd8 kA kB kC V1 V2 V3 O1 O2 O3 S1 S2 S3 HPQ
  have x0 := k0.look 0 rfl
  have x1 := k0.look 1 rfl
  go_wp2_with fail
  refine (A1.out _ hc hz0).mono ?_
  rintro r w1 ⟨rfl, hb1⟩
  have kA := Blk.new w1 #[.int .i64 Ya, .int .i64 Yb] 32
  have ba := alloc_below w1 (.cells #[.int .i64 Ya, .int .i64 Yb] 32)
  replace hb1 := hb1.trans (ba.mono hb1.size)
  replace k0 := k0.below hb1
  replace hd := hd.below hb1
  replace hq := hq.below hb1
  replace hz0 := hz0.below hb1
  replace hB := hB.trans (hb1.mono hB.size)
  clear x0 x1 hb1 ba hc
  have x0 := k0.look 0 rfl
  have x1 := k0.look 1 rfl
  go_wp2_with fail
  obtain ⟨g1, hg1⟩ : ∃ g, w1.heap.size = g := ⟨_, rfl⟩
  obtain ⟨wa, hwa⟩ : ∃ W, w1.alloc (.cells #[.int .i64 Ya, .int .i64 Yb] 32) = W := ⟨_, rfl⟩
  rw [hwa] at kA k0 hd hq hz0 hB ⊢
  rw [hg1] at kA ⊢
  clear hwa hg1 x0 x1 w1
  refine (A2.out _ hd hz0).mono ?_
  rintro r w1 ⟨rfl, hb1⟩
  have kB := Blk.new w1 #[.int .i64 Za, .int .i64 Zb] 32
  have ba := alloc_below w1 (.cells #[.int .i64 Za, .int .i64 Zb] 32)
  replace hb1 := hb1.trans (ba.mono hb1.size)
  replace k0 := k0.below hb1
  replace kA := kA.below hb1
  replace hq := hq.below hb1
  replace hz0 := hz0.below hb1
  replace hB := hB.trans (hb1.mono hB.size)
  clear hb1 ba hd
  have x0 := k0.look 0 rfl
  have x1 := k0.look 1 rfl
  go_wp2_with fail
  obtain ⟨g2, hg1⟩ : ∃ g, w1.heap.size = g := ⟨_, rfl⟩
  obtain ⟨wb, hwa⟩ : ∃ W, w1.alloc (.cells #[.int .i64 Za, .int .i64 Zb] 32) = W := ⟨_, rfl⟩
  rw [hwa] at kA kB k0 hq hz0 hB ⊢
  rw [hg1] at kB ⊢
  clear hwa hg1 x0 x1 w1
  refine (A3.out _ _ hq hz0).mono ?_
  rintro r w1 ⟨rfl, hb1⟩
  have kC := Blk.new w1 #[.int .i64 Ta, .int .i64 Tb] 32
  have ba := alloc_below w1 (.cells #[.int .i64 Ta, .int .i64 Tb] 32)
  replace hb1 := hb1.trans (ba.mono hb1.size)
  replace kA := kA.below hb1
  replace kB := kB.below hb1
  replace hz0 := hz0.below hb1
  replace hB := hB.trans (hb1.mono hB.size)
  clear hb1 ba hq k0
  have y0 := kA.look 0 rfl
  have y1 := kA.look 1 rfl
  have y2 := kB.look 0 rfl
  have y3 := kB.look 1 rfl
  by_cases hy1 : Ye = 0
  case neg =>
    go_wp2_with fail
    refine (curves_any _ hz0).mono ?_
    rintro r w9 ⟨rfl, hb9⟩
    replace hB := hB.trans (hb9.mono hB.size)
    clear hb9
    go_wp2
    go_ret
    exact ⟨rfl, hB⟩
  by_cases hy2 : Ze = 0
  case neg =>
    go_wp2_with fail
    refine (curves_any _ hz0).mono ?_
    rintro r w9 ⟨rfl, hb9⟩
    replace hB := hB.trans (hb9.mono hB.size)
    clear hb9
    go_wp2
    go_ret
    exact ⟨rfl, hB⟩
  by_cases hy3 : Te = 0
  case neg =>
    go_wp2_with fail
    refine (curves_any _ hz0).mono ?_
    rintro r w9 ⟨rfl, hb9⟩
    replace hB := hB.trans (hb9.mono hB.size)
    clear hb9
    go_wp2
    go_ret
    exact ⟨rfl, hB⟩
  have AD := hid (HAD.out hy1 hy2 hy3)
  clear HAD
  go_wp2_with fail
  obtain ⟨g3, hg1⟩ : ∃ g, w1.heap.size = g := ⟨_, rfl⟩
  obtain ⟨wc, hwa⟩ : ∃ W, w1.alloc (.cells #[.int .i64 Ta, .int .i64 Tb] 32) = W := ⟨_, rfl⟩
  rw [hwa] at kC hz0 hB ⊢
  rw [hg1] at kC ⊢
  clear hwa hg1 y0 y1 y2 y3 w1 kA kB
  refine (AD.out _).mono ?_
  rintro r w1 ⟨rfl, hb1⟩
  have kE := Blk.new w1 #[.int .i64 Ta, .int .i64 Tb] 32
  have ba := alloc_below w1 (.cells #[.int .i64 Ta, .int .i64 Tb] 32)
  replace hb1 := hb1.trans (ba.mono hb1.size)
  replace kC := kC.below hb1
  replace hz0 := hz0.below hb1
  replace hB := hB.trans (hb1.mono hB.size)
  clear hb1 ba
  have y0 := kC.look 0 rfl
  have y1 := kC.look 1 rfl
  have y2 := kE.look 0 rfl
  have y3 := kE.look 1 rfl
  go_wp2_with fail
  refine (curves_any _ hz0).mono ?_
  rintro r w9 ⟨rfl, hb9⟩
  replace hB := hB.trans (hb9.mono hB.size)
  clear hb9
  go_wp2
  go_ret
  exact ⟨rfl, hB⟩

end Go.Proofs.YtfkclcoipadhmaaDoor
