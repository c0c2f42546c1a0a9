/- Walk of trankref02.Scale. -/
import Derived.Test.YtfkclcoipadhmaaDoorEg
namespace Go.Proofs.YtfkclcoipadhmaaDoor
open Go.RowKit
attribute [local irreducible] seqS seqST walkV walkJ

theorem pairO_no {a b : Rat} (h : ¬ (fits a ∧ fits b)) : pairO a b = none := by
  unfold pairO fitO
  by_cases ha : fits a
  · by_cases hb : fits b
    · exact absurd ⟨ha, hb⟩ h
    · rw [if_pos ha, if_neg hb]; rfl
  · rw [if_neg ha]; rfl
theorem pairO_yes {a b : Rat} (ha : fits a) (hb : fits b) : pairO a b = some (a, b) := by
  unfold pairO fitO
  rw [if_pos ha, if_pos hb]; rfl

set_option maxHeartbeats 8000000 in
set_option maxRecDepth 100000 in
theorem rScale_any (c : List P4) (n1 d1 n2 d2 : Int) (v : Value) (w : World) (h : P4R 0 w v c) :
    Calls Tryd.prog 28 #[v, .agg #[.int .i64 n1, .int .i64 d1], .agg #[.int .i64 n2, .int .i64 d2]] w fun r w' => (∃ v', r = .returned (.tuple #[v', .int .i64 (scaE c n1 d1 n2 d2)]) ∧ PsR w.heap.size w' v' (scaL c n1 d1 n2 d2)) ∧ Below w.heap.size w w' := by
  have VA := hid (fun w h => r2Valid_any c v w h)
  obtain ⟨ao, cap, rfl, hcap, hmax, hc⟩ := id h
  unfold maxLen at hmax
  obtain ⟨E, hE⟩ : ∃ E, scaE c n1 d1 n2 d2 = E := ⟨_, rfl⟩
  obtain ⟨R, hR⟩ : ∃ R, scaL c n1 d1 n2 d2 = R := ⟨_, rfl⟩
  rw [hE, hR]
  have HE := hid hE
  have HR := hid hR
  obtain ⟨L, hL⟩ : ∃ L, c.length = L := ⟨_, rfl⟩
  rw [hL] at VA hcap h ⊢
  have HL := hid hL
  have k0 := (Blk.new w #[.int .i64 n1, .int .i64 d1] 32).alloc (.cells #[.int .i64 n2, .int .i64 d2] 32)
  have k1 := Blk.new (w.alloc (.cells #[.int .i64 n1, .int .i64 d1] 32)) #[.int .i64 n2, .int .i64 d2] 32
  have b0 := ((Below.refl w.heap.size w).alloc (Nat.le_refl _) (.cells #[.int .i64 n1, .int .i64 d1] 32)).alloc (by simp) (.cells #[.int .i64 n2, .int .i64 d2] 32)
  rw [World.size_alloc] at k1
  clear hE hR hL hc
  go_enter Tryd.func28, Tryd.ntmps28
  go_wp2_with fail
  obtain ⟨w0, hw0⟩ : ∃ w0, (w.alloc (.cells #[.int .i64 n1, .int .i64 d1] 32)).alloc (.cells #[.int .i64 n2, .int .i64 d2] 32) = w0 := ⟨_, rfl⟩
  rw [hw0] at k0 k1 b0 ⊢
  clear hw0
  have h0 := h.below b0
  refine (VA.out _ h0).mono ?_
  rintro r w1 ⟨rfl, hb1⟩
  have hB := b0.trans (hb1.mono b0.size)
  have k01 := k0.below hb1
  have k11 := k1.below hb1
  have h1 := h0.below hb1
  clear VA h0 h k0 k1 b0 hb1
  by_cases hrv : RV c
  case neg =>
    rw [decide_eq_false hrv]
    have hno : ¬ scaOK c n1 d1 n2 d2 := fun h => hrv h.1
    have e1 : E = 2 := by rw [← HE.out]; exact if_neg hno
    have e2 : R = [] := by rw [← HR.out]; exact if_neg hno
    subst e1 e2
    clear hno
    go_wp2
    go_ret2
    exact ⟨⟨_, rfl, SlR.nil _ _⟩, hB⟩
  rw [decide_eq_true hrv]
  have HRV := hid hrv
  have c0 := k01.look 0 rfl
  have c1 := k01.look 1 rfl
  clear hrv
  go_wp2_with fail
  refine (Valid_any n1 d1 _).mono ?_
  rintro r w2 ⟨rfl, hb2⟩
  replace hB := hB.trans (hb2.mono hB.size)
  have k02 := k01.below hb2
  have k12 := k11.below hb2
  have h2 := h1.below hb2
  clear k01 k11 h1 hb2 c0 c1
  by_cases hf1 : FV n1 d1
  case neg =>
    rw [decide_eq_false hf1]
    have hno : ¬ scaOK c n1 d1 n2 d2 := fun h => hf1 h.2.1
    have e1 : E = 2 := by rw [← HE.out]; exact if_neg hno
    have e2 : R = [] := by rw [← HR.out]; exact if_neg hno
    subst e1 e2
    clear hno
    go_wp2
    go_ret2
    exact ⟨⟨_, rfl, SlR.nil _ _⟩, hB⟩
  rw [decide_eq_true hf1]
  have HF1 := hid hf1
  have c0 := k12.look 0 rfl
  have c1 := k12.look 1 rfl
  clear hf1
  go_wp2_with fail
  refine (Valid_any n2 d2 _).mono ?_
  rintro r w3 ⟨rfl, hb3⟩
  replace hB := hB.trans (hb3.mono hB.size)
  have k03 := k02.below hb3
  have k13 := k12.below hb3
  have h3 := h2.below hb3
  clear k02 k12 h2 hb3 c0 c1
  have x0 := k03.look 0 rfl
  have x1 := k03.look 1 rfl
  have x2 := k13.look 0 rfl
  have x3 := k13.look 1 rfl
  by_cases hf2 : FV n2 d2
  case neg =>
    rw [decide_eq_false hf2]
    have hno : ¬ scaOK c n1 d1 n2 d2 := fun h => hf2 h.2.2.1
    have e1 : E = 2 := by rw [← HE.out]; exact if_neg hno
    have e2 : R = [] := by rw [← HR.out]; exact if_neg hno
    subst e1 e2
    clear hno
    go_wp2
    go_ret2
    exact ⟨⟨_, rfl, SlR.nil _ _⟩, hB⟩
  rw [decide_eq_true hf2]
  have HF2 := hid hf2
  clear hf2
  by_cases hp1 : n1 ≤ 0
  case pos =>
    have hno : ¬ scaOK c n1 d1 n2 d2 := fun h => by have := h.2.2.2.1; omega
    have e1 : E = 2 := by rw [← HE.out]; exact if_neg hno
    have e2 : R = [] := by rw [← HR.out]; exact if_neg hno
    subst e1 e2
    clear hno
    go_wp2
    go_ret2
    exact ⟨⟨_, rfl, SlR.nil _ _⟩, hB⟩
  by_cases hp2 : n2 ≤ 0
  case pos =>
    have hno : ¬ scaOK c n1 d1 n2 d2 := fun h => by have := h.2.2.2.2; omega
    have e1 : E = 2 := by rw [← HE.out]; exact if_neg hno
    have e2 : R = [] := by rw [← HR.out]; exact if_neg hno
    subst e1 e2
    clear hno
    go_wp2
    go_ret2
    exact ⟨⟨_, rfl, SlR.nil _ _⟩, hB⟩
  have hok : scaOK c n1 d1 n2 d2 := ⟨HRV.out, HF1.out, HF2.out, by omega, by omega⟩
  have e1 : scaE c n1 d1 n2 d2 = (match rowO (scaF n1 d1 n2 d2) (toQ c) c.length with | some _ => 0 | none => 5) := if_pos hok
  have e2 : scaL c n1 d1 n2 d2 = (rowO (scaF n1 d1 n2 d2) (toQ c) c.length).getD [] := if_pos hok
  have HX : Hid (rowO (scaF n1 d1 n2 d2) (toQ c) L = none → E = 5 ∧ R = []) := hid (fun hh => by rw [← HE.out, ← HR.out, e1, e2, HL.out, hh]; exact ⟨rfl, rfl⟩)
  have HY : Hid (∀ l, rowO (scaF n1 d1 n2 d2) (toQ c) L = some l → E = 0 ∧ R = l) := hid (fun l hh => by rw [← HE.out, ← HR.out, e1, e2, HL.out, hh]; exact ⟨rfl, rfl⟩)
  have hq : PsR 0 w3 (.slice ao L cap) (toQ c) := P4R.toQ (h3 : P4R 0 w3 (.slice ao L cap) c) HRV.out
  have hcv := rv_cv HRV.out
  have hlen := toQ_len c
  rw [HL.out] at hlen
  generalize toQ c = C at hq hcv hlen HX HY
  have hL2 : 2 ≤ L := by have := hcv.two; omega
  have hL48 : L ≤ 48 := by have := hcv.most; omega
  have CVC := hid hcv
  have HCL := hid hlen
  obtain ⟨ao2, cap2, he2, -, -, hcc⟩ := hq
  obtain ⟨rfl, -⟩ : ao2 = ao ∧ True := by
    injection he2 with g1 g2 g3
    exact ⟨g1.symm, trivial⟩
  obtain ⟨b, off, rfl, hb, -, -, -, -⟩ := p_cell hcc (show 0 < C.length by omega)
  have HCC := hid hcc
  have M1 := hid (fun p hp w => rMul_any p (vq (n1, d1)) hp (vq_fits HF1.out) w)
  have M2 := hid (fun p hp w => rMul_any p (vq (n2, d2)) hp (vq_fits HF2.out) w)
  rw [frQ_vq HF1.out] at M1
  rw [frQ_vq HF2.out] at M2
  obtain ⟨K1, hK1⟩ : ∃ k, vq (n1, d1) = k := ⟨_, rfl⟩
  obtain ⟨K2, hK2⟩ : ∃ k, vq (n2, d2) = k := ⟨_, rfl⟩
  rw [hK1] at M1
  rw [hK2] at M2
  have HSF : Hid (∀ p, scaF n1 d1 n2 d2 p = pairO (p.1 * K1) (p.2 * K2)) := hid (fun p => by unfold scaF; rw [hK1, hK2])
  generalize scaF n1 d1 n2 d2 = F at HSF HX HY
  obtain ⟨B, hBs⟩ : ∃ B, w3.heap.size = B := ⟨_, rfl⟩
  have HBS := hid hBs
  have HB := hid hB
  have K03 := hid k03
  have K13 := hid k13
  have hlt0 : w.heap.size < B := by rw [← hBs]; exact k03.lt
  have hlt1 : w.heap.size + 1 < B := by rw [← hBs]; exact k13.lt
  rw [hBs] at hb
  clear e1 e2 hok hK1 hK2 hcv hlen he2 hcc h3 k03 k13 hB HE HR
  go_wp2_with fail
  clear hBs
  go_loopw [8, 40] (fun y x wr => ∃ i : Nat, x = .int .i64 i ∧ i ≤ L ∧ (∃ l, rowO F C i = some l ∧ l.length = i ∧ Hid (wr.ownsRow B 52 4 y i (ptsC l))) ∧ Below B w3 wr) (fun _ x _ => L - (intOf x).toNat)
  case atStart => exact ⟨0, rfl, Nat.zero_le _, ⟨[], rfl, rfl, hid (World.ownsRow_nil _ _ _ _)⟩, Below.refl _ _⟩
  case round =>
    obtain ⟨i, rfl, hi, ⟨l, hsl, hll, HO⟩, hbel⟩ := hrel
    have hsr : B ≤ wr.heap.size := by have := hbel.size; have := HBS.out; omega
    have kr0 : Blk wr w.heap.size #[.int .i64 n1, .int .i64 d1] 32 := K03.out.below' hbel hlt0
    have kr1 : Blk wr (w.heap.size + 1) #[.int .i64 n2, .int .i64 d2] 32 := K13.out.below' hbel hlt1
    by_cases hiL : i < L
    · have hi2 : (i : Int) < (L : Int) := by omega
      obtain ⟨b', off', he, hb', x0, x1, x2, x3⟩ := p_cell HCC.out (show i < C.length by rw [HCL.out]; exact hiL)
      cases he
      replace x0 := (hbel.cell (p := ⟨b, off + i * 4, none⟩) hb).trans x0
      replace x1 := (hbel.cell (p := ⟨b, off + i * 4 + 1, none⟩) hb).trans x1
      replace x2 := (hbel.cell (p := ⟨b, off + i * 4 + 2, none⟩) hb).trans x2
      replace x3 := (hbel.cell (p := ⟨b, off + i * 4 + 3, none⟩) hb).trans x3
      have hP := CVC.out.fit i (by rw [HCL.out]; exact hiL)
      have hs1 := fun p (h : F (C.getD i (0, 0)) = some p) => rowO_some hsl h
      have hs2 := fun (h : F (C.getD i (0, 0)) = none) => rowO_stay (rowO_none h) (show i + 1 ≤ L by omega)
      obtain ⟨P, hPe⟩ : ∃ P, C.getD i (0, 0) = P := ⟨_, rfl⟩
      rw [hPe] at x0 x1 x2 x3 hP hs1 hs2
      rw [HSF.out P] at hs1 hs2
      have MA := hid (M1.out P.1 hP.1)
      have MB := hid (M2.out P.2 hP.2)
      obtain ⟨q1, hq1⟩ : ∃ q, P.1 * K1 = q := ⟨_, rfl⟩
      obtain ⟨q2, hq2⟩ : ∃ q, P.2 * K2 = q := ⟨_, rfl⟩
      rw [hq1] at MA hs1 hs2
      rw [hq2] at MB hs1 hs2
      unfold frQ frV at MA MB
      have HS1 := hid hs1
      have HS2 := hid hs2
      have HLL := hid hll
      have bA := alloc_below wr (.cells #[.int .i64 P.1.num, .int .i64 (P.1.den : Int), .int .i64 P.2.num, .int .i64 (P.2.den : Int)] 52)
      have xk0 := (kr0.below bA).look 0 rfl
      have xk1 := (kr0.below bA).look 1 rfl
      have hltr := kr0.lt
      clear hs1 hs2 hll hq1 hq2 hPe hP hsl
      go_wp2_with fail
      have kp := Blk.new wr #[.int .i64 P.1.num, .int .i64 (P.1.den : Int), .int .i64 P.2.num, .int .i64 (P.2.den : Int)] 52
      refine (MA.out _).mono ?_
      rintro r w4 ⟨rfl, hb4⟩
      have bb4 := bA.trans (hb4.mono bA.size)
      have kp4 := kp.below hb4
      have kr14 := kr1.below bb4
      have HO4 := hid (owns_below HO.out bb4)
      have hbel4 := hbel.trans (bb4.mono hsr)
      have hs4 := Nat.le_trans hsr bb4.size
      obtain ⟨m1, hm1⟩ : ∃ z, fitN q1 = z := ⟨_, rfl⟩
      obtain ⟨m2, hm2⟩ : ∃ z, fitD q1 = z := ⟨_, rfl⟩
      obtain ⟨m3, hm3⟩ : ∃ z, fitE q1 = z := ⟨_, rfl⟩
      rw [hm1, hm2, hm3]
      have HM1 := hid hm1
      have HM2 := hid hm2
      have HM3 := hid hm3
      clear hb4 bb4 bA kp kr0 kr1 x0 x1 x2 x3 xk0 xk1 MA HO hbel hsr hm1 hm2 hm3
      have bB := alloc_below w4 (.cells #[.int .i64 m1, .int .i64 m2] 32)
      have kX := Blk.new w4 #[.int .i64 m1, .int .i64 m2] 32
      have x2 := kp4.look 2 rfl
      have x3 := kp4.look 3 rfl
      have x4 := (kr14.below bB).look 0 rfl
      have x5 := (kr14.below bB).look 1 rfl
      have x6 := (kp4.below bB).look 2 rfl
      have x7 := (kp4.below bB).look 3 rfl
      have hltr1 := kr14.lt
      have hltr2 := kp4.lt
      go_wp2_with fail
      refine (MB.out _).mono ?_
      rintro r w5 ⟨rfl, hb5⟩
      have bb5 := bB.trans (hb5.mono bB.size)
      have kX5 := kX.below hb5
      have HO5 := hid (owns_below HO4.out bb5)
      have hbel5 := hbel4.trans (bb5.mono hs4)
      have hs5 := Nat.le_trans hs4 bb5.size
      obtain ⟨m4, hm4⟩ : ∃ z, fitN q2 = z := ⟨_, rfl⟩
      obtain ⟨m5, hm5⟩ : ∃ z, fitD q2 = z := ⟨_, rfl⟩
      obtain ⟨m6, hm6⟩ : ∃ z, fitE q2 = z := ⟨_, rfl⟩
      rw [hm4, hm5, hm6]
      have HM4 := hid hm4
      have HM5 := hid hm5
      have HM6 := hid hm6
      clear hb5 bb5 bB kX kr14 x2 x3 x4 x5 x6 x7 hltr1 hltr2 MB HO4 hbel4 hs4 hm4 hm5 hm6 kp4
      have bC := alloc_below w5 (.cells #[.int .i64 m4, .int .i64 m5] 32)
      have kX6 := kX5.below bC
      have kY6 := Blk.new w5 #[.int .i64 m4, .int .i64 m5] 32
      have HO6 := hid (owns_below HO5.out bC)
      have hbel6 := hbel5.trans (bC.mono hs5)
      have hs6 := Nat.le_trans hs5 bC.size
      by_cases hf : fits q1 ∧ fits q2
      · have e3 : m3 = 0 := by rw [← HM3.out]; exact if_pos hf.1
        have e6 : m6 = 0 := by rw [← HM6.out]; exact if_pos hf.2
        have HPC : Hid (ptsC [(q1, q2)] = [.int .i64 m1, .int .i64 m2, .int .i64 m4, .int .i64 m5]) := hid (by
          have a1 : fitN q1 = q1.num := if_pos hf.1
          have a2 : fitD q1 = (q1.den : Int) := if_pos hf.1
          have a4 : fitN q2 = q2.num := if_pos hf.2
          have a5 : fitD q2 = (q2.den : Int) := if_pos hf.2
          rw [← HM1.out, ← HM2.out, ← HM4.out, ← HM5.out, a1, a2, a4, a5]
          rfl)
        have HST := hid (HS1.out _ (pairO_yes hf.1 hf.2))
        subst e3 e6
        have y0 := kX5.look 0 rfl
        have y1 := kX5.look 1 rfl
        have y2 := kX6.look 0 rfl
        have y3 := kX6.look 1 rfl
        have hltx := kX5.lt
        clear hf HM1 HM2 HM3 HM4 HM5 HM6 HS1 HS2 HX kX5 bC kX6 kY6
        go_wp2_with (first
          | (at_builtin; refine wpList_appH rfl (.tmp 64) (.tmp 68) _ rfl B 52 (.agg #[.int .i64 0, .int .i64 0, .int .i64 0, .int .i64 0]) 4 32 Tryd.underlying22 infoPoint rfl (by decide) 52 _ _ _ rfl HO6.out [.int .i64 m1, .int .i64 m2, .int .i64 m4, .int .i64 m5] _ (by first | rfl | simp) rfl rfl (by simp [Value.oneCell']) (by unfold maxLen; omega) (by omega) (by omega) ?_; intro g7 gcap w7 ho7 hb7 _ _ _))
        go_roundw
        case rel =>
          refine ⟨i + 1, by go_num, by omega, ⟨l ++ [(q1, q2)], HST.out, by rw [List.length_append, HLL.out]; rfl, ?_⟩, hbel6.trans hb7⟩
          rw [ptsC_append, HPC.out]
          exact hid ho7
        case measure => simp [intOf]; omega
      · obtain ⟨rfl, rfl⟩ := HX.out (HS2.out (pairO_no hf))
        have hw6 : Below w.heap.size w (w5.alloc (.cells #[.int .i64 m4, .int .i64 m5] 32)) := HB.out.trans ((show Below w3.heap.size w3 _ by rw [HBS.out]; exact hbel6).mono HB.out.size)
        by_cases h3 : fits q1
        · have e3 : m3 = 0 := by rw [← HM3.out]; exact if_pos h3
          have e6 : m6 = 5 := by rw [← HM6.out]; exact if_neg (fun h => hf ⟨h3, h⟩)
          subst e3 e6
          clear hf h3 HM1 HM2 HM3 HM4 HM5 HM6 HS1 HS2 HX HY kX5 bC kX6 kY6 HO6 hbel6
          go_wp2
          go_ret2
          exact ⟨⟨_, rfl, SlR.nil _ _⟩, hw6⟩
        · have e3 : m3 = 5 := by rw [← HM3.out]; exact if_neg h3
          subst e3
          clear hf h3 HM1 HM2 HM3 HM4 HM5 HM6 HS1 HS2 HX HY kX5 bC kX6 kY6 HO6 hbel6
          go_wp2
          go_ret2
          exact ⟨⟨_, rfl, SlR.nil _ _⟩, hw6⟩
    · obtain rfl : L = i := by omega
      have hi2 : ¬ (L : Int) < (L : Int) := by omega
      obtain ⟨ao3, c3, rfl, -⟩ := id (SlR.of_owns HO.out)
      have hBw : Below w.heap.size w wr := HB.out.trans ((show Below w3.heap.size w3 wr by rw [HBS.out]; exact hbel).mono HB.out.size)
      have hr := SlR.mono (SlR.of_owns HO.out) (show w.heap.size ≤ B by omega)
      obtain ⟨rfl, rfl⟩ := HY.out l hsl
      have HRR := hid hr
      have HLL := hid hll
      clear hr hll hsl HX HY
      go_wp2
      go_ret2
      refine ⟨⟨_, rfl, ?_⟩, hBw⟩
      unfold PsR
      rw [HLL.out]
      exact HRR.out

end Go.Proofs.YtfkclcoipadhmaaDoor
