/- Walk of tranklaw04.GradeEnds. -/
import Derived.Test.YtmknengmjepdaaaLi
import Derived.Test.YtmknengmjepdaaaUb
import Derived.Test.YtmknengmjepdaaaVc
namespace Go.Proofs.Ytmknengmjepdaaa
open Go.RowKit

theorem above_zero {c d n m : Int} (hm : 1 ≤ m) (h : c * m + d * n = 0) : sgnQ ((c : Rat) + (d : Rat) * ((n : Rat) / (m : Rat))) = 0 := by
  have h1 := rat_pos hm
  have h2 := rat_ne hm
  have key : ((c : Rat) + (d : Rat) * ((n : Rat) / (m : Rat))) * (m : Rat) = ((c * m + d * n : Int) : Rat) := by
    push_cast
    grind
  rw [h] at key
  have : (c : Rat) + (d : Rat) * ((n : Rat) / (m : Rat)) = 0 := by
    rcases Rat.mul_eq_zero.1 (by simpa using key) with h3 | h3
    · exact h3
    · exact absurd h3 h2
  rw [this]
  rfl

/-- What the law asks of the lower end's loop. -/
def EndOk (p : Pat) (w : World) (v : Value) (n d : Int) (neg : Prop) (sC sD : Int) : Prop :=
  ∃ es : List (Int × Rul), LoopIn p 0 w v es ∧ sumC es = sC ∧ sumD es = sD ∧ neg ∧ sC * d + sD * n = 0

set_option maxHeartbeats 4000000 in
set_option maxRecDepth 100000 in
theorem GradeEnds_any (p : Pat) (v : Value) (w : World) (h : PatF 0 w v p) :
    Calls Try.prog 11 #[v] w fun e w' => e = .returned (.bool true) ∧ Below w.heap.size w w' := by
  obtain ⟨sv, rfl, -⟩ := id h
  have H := hid h
  go_enter Try.func11, Try.ntmps11
  go_wp2_with fail
  have k0 := Blk.new w #[.int .i64 p.n, sv] 24
  have b0 := (Below.refl w.heap.size w).alloc (Nat.le_refl _) (.cells #[.int .i64 p.n, sv] 24)
  obtain ⟨w0, hw0⟩ : ∃ w0, w.alloc (.cells #[.int .i64 p.n, sv] 24) = w0 := ⟨_, rfl⟩
  rw [hw0] at k0 b0 ⊢
  clear hw0 h
  have c0 := k0.look 0 rfl
  have c1 := k0.look 1 rfl
  go_wp2_with fail
  refine (of_any p _ _ (H.out.below b0)).mono ?_
  rintro e w1 ⟨v1, rfl, hv1, hb1⟩
  replace b0 := b0.trans (hb1.mono b0.size)
  replace k0 := k0.below hb1
  obtain ⟨s1, rfl, -⟩ := id hv1
  clear c0 c1 hb1
  go_wp2_with fail
  refine (gEnds_any (p71 p) _ _ (hv1.mono (Nat.zero_le _))).mono ?_
  rintro e w2 ⟨⟨low, high, E, rfl, hg⟩, hb2⟩
  replace b0 := b0.trans (hb2.mono b0.size)
  replace k0 := k0.below hb2
  have hs2 := b0.size
  have HG := hid hg
  have c0 := k0.look 0 rfl
  have c1 := k0.look 1 rfl
  clear hg hb2 hv1
  go_wp2_with fail
  refine (rSizes_any p _ _ (H.out.below b0)).mono ?_
  rintro e w4 ⟨⟨ln, ld, hn, hd, E2, rfl, hg2⟩, hb4⟩
  have b1 := b0.trans (hb4.mono hs2)
  replace k0 := k0.below hb4
  clear c0 c1
  have hs4 := b1.size
  have u0 := (Blk.new w4 #[.int .i64 ln, .int .i64 ld] 26).alloc (.cells #[.int .i64 hn, .int .i64 hd] 26)
  have u1 := Blk.new (w4.alloc (.cells #[.int .i64 ln, .int .i64 ld] 26)) #[.int .i64 hn, .int .i64 hd] 26
  have b2 := (b1.alloc hs4 (.cells #[.int .i64 ln, .int .i64 ld] 26)).alloc (by simp <;> omega) (.cells #[.int .i64 hn, .int .i64 hd] 26)
  have k2 := (k0.alloc (.cells #[.int .i64 ln, .int .i64 ld] 26)).alloc (.cells #[.int .i64 hn, .int .i64 hd] 26)
  simp only [World.size_alloc] at u1
  have b24 : Below w2.heap.size w2 ((w4.alloc (.cells #[.int .i64 ln, .int .i64 ld] 26)).alloc (.cells #[.int .i64 hn, .int .i64 hd] 26)) := (hb4.alloc hb4.size _).alloc (by have := hb4.size; simp <;> omega) _
  obtain ⟨B, hBB⟩ : ∃ B, w4.heap.size = B := ⟨_, rfl⟩
  rcases HG.out with ⟨h1, rfl, rfl, rfl⟩ | ⟨h1, h2, rfl, rfl, rfl⟩ | ⟨h1, rfl, ln', ld', hn', hd', hok, hlow, hhigh⟩
  · have hE2 : E2 = 2 := by
      rcases hg2 with ⟨_, h3, _⟩ | ⟨h3, _⟩ | ⟨h3, _⟩
      · exact h3
      · exact absurd ((p71_cases p).elim (fun h4 => by rw [h4]; exact h3) (fun h4 => absurd h3 h4.1)) h1
      · exact absurd ((p71_cases p).elim (fun h4 => by rw [h4]; exact h3) (fun h4 => absurd h3 h4.1)) h1
    subst hE2
    clear hg2 hb4 k0 k2 u0 u1 hBB b24 hs4
    go_wp2_with fail
    refine (awake_any _).mono ?_
    rintro e wz ⟨rfl, hbz⟩
    go_wp2
    go_ret
    exact ⟨rfl, b2.trans (hbz.mono b2.size)⟩
  · have e71 : p71 p = p := (p71_cases p).resolve_right fun hh => hh.2 h1
    rw [e71] at h1 h2
    have hE2 : E2 = 10 := by
      rcases hg2 with ⟨h3, _⟩ | ⟨_, _, h3, _⟩ | ⟨_, _, h3⟩
      · exact absurd h1 h3
      · exact h3
      · exact (szok_no h3 h2).elim
    subst hE2
    clear hg2 hb4 k0 k2 u0 u1 hBB b24 hs4
    go_wp2_with fail
    refine (awake_any _).mono ?_
    rintro e wz ⟨rfl, hbz⟩
    go_wp2
    go_ret
    exact ⟨rfl, b2.trans (hbz.mono b2.size)⟩
  · have e71 : p71 p = p := (p71_cases p).resolve_right fun hh => hh.2 h1
    rw [e71] at h1 hok hlow hhigh
    have hE2 : E2 = 0 ∧ ln' = ln ∧ ld' = ld ∧ hn' = hn ∧ hd' = hd := by
      rcases hg2 with ⟨h3, _⟩ | ⟨_, h3, _⟩ | ⟨_, h4, h3⟩
      · exact absurd h1 h3
      · exact (szok_no hok h3).elim
      · exact ⟨h4, szok_unique hok h3⟩
    obtain ⟨rfl, rfl, rfl, rfl, rfl⟩ := hE2
    have HP := hid h1
    have HOK := hid hok
    replace hlow := (hlow.of fun es he => he.below b24).mono (Nat.zero_le _)
    replace hhigh := (hhigh.of fun es he => he.below b24).mono (Nat.zero_le _)
    clear hg2 hb4 k0 hs4 h1 hok
    go_wp2_with fail
    obtain ⟨w5, hw5⟩ : ∃ w5, (w4.alloc (.cells #[.int .i64 ln', .int .i64 ld'] 26)).alloc (.cells #[.int .i64 hn', .int .i64 hd'] 26) = w5 := ⟨_, rfl⟩
    rw [hw5] at u0 u1 b2 b24 k2 hlow hhigh ⊢
    rw [hBB] at u0 u1
    clear hw5 hBB b24
    refine (awake_any _).mono ?_
    rintro e w6 ⟨rfl, hb6⟩
    have b6 := b2.trans (hb6.mono b2.size)
    have k6 := k2.below hb6
    have x0 := u0.below hb6
    have x1 := u1.below hb6
    replace hlow := hlow.of fun es he => he.below hb6
    replace hhigh := hhigh.of fun es he => he.below hb6
    clear hb6 b2 k2 u0 u1 HG
    have c0 := x0.look 0 rfl
    have c1 := x0.look 1 rfl
    have c2 := x1.look 0 rfl
    have c3 := x1.look 1 rfl
    have p0 := k6.look 0 rfl
    have p1 := k6.look 1 rfl
    rcases hlow.2.2.2 with ⟨rfl, rfl, rfl⟩ | ⟨hln, es, hli, hsd, hz⟩
    · rcases hhigh.2.2.2 with ⟨rfl, rfl, rfl⟩ | ⟨hhn, es2, hli2, hsd2, hz2⟩
      · go_wp2
        go_ret
        exact ⟨rfl, b6⟩
      · skip
        obtain ⟨a2, hok2⟩ := hli2.ok
        obtain ⟨bv, ov, cv, hvl⟩ := hli2.shape
        have hpos2 := hli2.pos
        have hle2 := hli2.le
        have hbd2 := sumcd_bd HP.out es2 hok2.mem
        have AB2 : Hid (∀ W, Calls Try.prog 34 #[.int .i64 (sumC es2), .int .i64 (sumD es2), .agg #[.int .i64 hn', .int .i64 hd']] W fun e w' => e = .returned (.int .i64 0) ∧ Below W.heap.size W w') := hid (fun W => by
          have hfv := hhigh.1.1
          unfold FV at hfv
          have := above_any (sumC es2) (sumD es2) hn' hd' W (by omega) (by omega) (by omega) (by omega) (by omega)
          rw [above_zero hfv.1 hz2] at this
          exact this)
        obtain ⟨sC2, hsC2⟩ : ∃ z, sumC es2 = z := ⟨_, rfl⟩
        obtain ⟨sD2, hsD2⟩ : ∃ z, sumD es2 = z := ⟨_, rfl⟩
        rw [hsC2, hsD2] at AB2
        rw [hsD2] at hsd2
        have HSC2 := hid hsC2
        have HSD2 := hid hsD2
        have hsd3 : ¬ sD2 ≤ 0 := by omega
        have hn0 : ¬ ((es2.length : Int) = 0) := by omega
        have HFS := hid hhigh.1
        have HHN := hid hhn
        subst hvl
        clear hbd2 hsC2 hsD2 hz2 hhigh hsd2 hpos2 hle2 hhn
        have hliH := hli2
        have BW := b6
        have xH := x1
        by_cases h40 : hn' = 40
        · have h41 : ¬ hd' = 1 := by have := HHN.out; omega
          subst h40
          go_wp2_with fail
          refine (rLoop_any p es2 a2 _ _ _ (H.out.below BW) hliH.rd HP.out hok2 hliH.le hliH.pos).mono ?_
          rintro e w9 ⟨rfl, hb9⟩
          rw [HSC2.out, HSD2.out]
          have b9 := BW.trans (hb9.mono BW.size)
          have x9 := xH.below hb9
          have c2 := x9.look 0 rfl
          have c3 := x9.look 1 rfl
          clear hb9 BW xH
          go_wp2_with fail
          refine (AB2.out _).mono ?_
          rintro e w10 ⟨rfl, hb10⟩
          go_wp2
          go_ret
          exact ⟨rfl, b9.trans (hb10.mono b9.size)⟩
        · go_wp2_with fail
          refine (rLoop_any p es2 a2 _ _ _ (H.out.below BW) hliH.rd HP.out hok2 hliH.le hliH.pos).mono ?_
          rintro e w9 ⟨rfl, hb9⟩
          rw [HSC2.out, HSD2.out]
          have b9 := BW.trans (hb9.mono BW.size)
          have x9 := xH.below hb9
          have c2 := x9.look 0 rfl
          have c3 := x9.look 1 rfl
          clear hb9 BW xH
          go_wp2_with fail
          refine (AB2.out _).mono ?_
          rintro e w10 ⟨rfl, hb10⟩
          go_wp2
          go_ret
          exact ⟨rfl, b9.trans (hb10.mono b9.size)⟩
    · skip
      obtain ⟨a1, hok1⟩ := hli.ok
      obtain ⟨bu, ou, cu, hvu⟩ := hli.shape
      have hpos1 := hli.pos
      have hle1 := hli.le
      have hbd1 := sumcd_bd HP.out es hok1.mem
      have AB1 : Hid (∀ W, Calls Try.prog 34 #[.int .i64 (sumC es), .int .i64 (sumD es), .agg #[.int .i64 ln', .int .i64 ld']] W fun e w' => e = .returned (.int .i64 0) ∧ Below W.heap.size W w') := hid (fun W => by
        have hfv := hlow.1.1
        unfold FV at hfv
        have := above_any (sumC es) (sumD es) ln' ld' W (by omega) (by omega) (by omega) (by omega) (by omega)
        rw [above_zero hfv.1 hz] at this
        exact this)
      obtain ⟨sC1, hsC1⟩ : ∃ z, sumC es = z := ⟨_, rfl⟩
      obtain ⟨sD1, hsD1⟩ : ∃ z, sumD es = z := ⟨_, rfl⟩
      rw [hsC1, hsD1] at AB1
      rw [hsD1] at hsd
      have HSC1 := hid hsC1
      have HSD1 := hid hsD1
      have hsd1 : ¬ 0 ≤ sD1 := by omega
      have hln0 : ¬ ln' = 0 := by omega
      subst hvu
      clear hbd1 hsC1 hsD1 hz hlow hsd hpos1 hle1 hln
      rcases hhigh.2.2.2 with ⟨rfl, rfl, rfl⟩ | ⟨hhn, es2, hli2, hsd2, hz2⟩
      · go_wp2_with fail
        refine (rLoop_any p es a1 _ _ _ (H.out.below b6) hli.rd HP.out hok1 hli.le hli.pos).mono ?_
        rintro e w7 ⟨rfl, hb7⟩
        rw [HSC1.out, HSD1.out]
        have b7 := b6.trans (hb7.mono b6.size)
        replace x0 := x0.below hb7
        replace x1 := x1.below hb7
        replace k6 := k6.below hb7
        have e0 := x0.look 0 rfl
        have e1 := x0.look 1 rfl
        clear c0 c1 c2 c3 p0 p1
        go_wp2_with fail
        refine (AB1.out _).mono ?_
        rintro e w8 ⟨rfl, hb8⟩
        have b8 := b7.trans (hb8.mono b7.size)
        replace x1 := x1.below hb8
        replace k6 := k6.below hb8
        clear e0 e1 x0
        have c2 := x1.look 0 rfl
        have c3 := x1.look 1 rfl
        have p0 := k6.look 0 rfl
        have p1 := k6.look 1 rfl
        go_wp2
        go_ret
        exact ⟨rfl, b8⟩
      · skip
        obtain ⟨a2, hok2⟩ := hli2.ok
        obtain ⟨bv, ov, cv, hvl⟩ := hli2.shape
        have hpos2 := hli2.pos
        have hle2 := hli2.le
        have hbd2 := sumcd_bd HP.out es2 hok2.mem
        have AB2 : Hid (∀ W, Calls Try.prog 34 #[.int .i64 (sumC es2), .int .i64 (sumD es2), .agg #[.int .i64 hn', .int .i64 hd']] W fun e w' => e = .returned (.int .i64 0) ∧ Below W.heap.size W w') := hid (fun W => by
          have hfv := hhigh.1.1
          unfold FV at hfv
          have := above_any (sumC es2) (sumD es2) hn' hd' W (by omega) (by omega) (by omega) (by omega) (by omega)
          rw [above_zero hfv.1 hz2] at this
          exact this)
        obtain ⟨sC2, hsC2⟩ : ∃ z, sumC es2 = z := ⟨_, rfl⟩
        obtain ⟨sD2, hsD2⟩ : ∃ z, sumD es2 = z := ⟨_, rfl⟩
        rw [hsC2, hsD2] at AB2
        rw [hsD2] at hsd2
        have HSC2 := hid hsC2
        have HSD2 := hid hsD2
        have hsd3 : ¬ sD2 ≤ 0 := by omega
        have hn0 : ¬ ((es2.length : Int) = 0) := by omega
        have HFS := hid hhigh.1
        have HHN := hid hhn
        subst hvl
        clear hbd2 hsC2 hsD2 hz2 hhigh hsd2 hpos2 hle2 hhn
        by_cases h40 : hn' = 40
        · have h41 : ¬ hd' = 1 := by have := HHN.out; omega
          subst h40
          go_wp2_with fail
          refine (rLoop_any p es a1 _ _ _ (H.out.below b6) hli.rd HP.out hok1 hli.le hli.pos).mono ?_
          rintro e w7 ⟨rfl, hb7⟩
          rw [HSC1.out, HSD1.out]
          have b7 := b6.trans (hb7.mono b6.size)
          replace x0 := x0.below hb7
          replace x1 := x1.below hb7
          replace k6 := k6.below hb7
          have e0 := x0.look 0 rfl
          have e1 := x0.look 1 rfl
          clear c0 c1 c2 c3 p0 p1
          go_wp2_with fail
          refine (AB1.out _).mono ?_
          rintro e w8 ⟨rfl, hb8⟩
          have b8 := b7.trans (hb8.mono b7.size)
          replace x1 := x1.below hb8
          replace k6 := k6.below hb8
          clear e0 e1 x0
          have c2 := x1.look 0 rfl
          have c3 := x1.look 1 rfl
          have p0 := k6.look 0 rfl
          have p1 := k6.look 1 rfl
          have hliH := (hli2.below hb7).below hb8
          have BW := b8
          have xH := x1
          go_wp2_with fail
          refine (rLoop_any p es2 a2 _ _ _ (H.out.below BW) hliH.rd HP.out hok2 hliH.le hliH.pos).mono ?_
          rintro e w9 ⟨rfl, hb9⟩
          rw [HSC2.out, HSD2.out]
          have b9 := BW.trans (hb9.mono BW.size)
          have x9 := xH.below hb9
          have c2 := x9.look 0 rfl
          have c3 := x9.look 1 rfl
          clear hb9 BW xH
          go_wp2_with fail
          refine (AB2.out _).mono ?_
          rintro e w10 ⟨rfl, hb10⟩
          go_wp2
          go_ret
          exact ⟨rfl, b9.trans (hb10.mono b9.size)⟩
        · go_wp2_with fail
          refine (rLoop_any p es a1 _ _ _ (H.out.below b6) hli.rd HP.out hok1 hli.le hli.pos).mono ?_
          rintro e w7 ⟨rfl, hb7⟩
          rw [HSC1.out, HSD1.out]
          have b7 := b6.trans (hb7.mono b6.size)
          replace x0 := x0.below hb7
          replace x1 := x1.below hb7
          replace k6 := k6.below hb7
          have e0 := x0.look 0 rfl
          have e1 := x0.look 1 rfl
          clear c0 c1 c2 c3 p0 p1
          go_wp2_with fail
          refine (AB1.out _).mono ?_
          rintro e w8 ⟨rfl, hb8⟩
          have b8 := b7.trans (hb8.mono b7.size)
          replace x1 := x1.below hb8
          replace k6 := k6.below hb8
          clear e0 e1 x0
          have c2 := x1.look 0 rfl
          have c3 := x1.look 1 rfl
          have p0 := k6.look 0 rfl
          have p1 := k6.look 1 rfl
          have hliH := (hli2.below hb7).below hb8
          have BW := b8
          have xH := x1
          go_wp2_with fail
          refine (rLoop_any p es2 a2 _ _ _ (H.out.below BW) hliH.rd HP.out hok2 hliH.le hliH.pos).mono ?_
          rintro e w9 ⟨rfl, hb9⟩
          rw [HSC2.out, HSD2.out]
          have b9 := BW.trans (hb9.mono BW.size)
          have x9 := xH.below hb9
          have c2 := x9.look 0 rfl
          have c3 := x9.look 1 rfl
          clear hb9 BW xH
          go_wp2_with fail
          refine (AB2.out _).mono ?_
          rintro e w10 ⟨rfl, hb10⟩
          go_wp2
          go_ret
          exact ⟨rfl, b9.trans (hb10.mono b9.size)⟩

end Go.Proofs.Ytmknengmjepdaaa
