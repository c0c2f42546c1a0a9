/- Walk of tranklaw04.GradeChains. -/
import Derived.Test.YtmknengmjepdaaaJx
import Derived.Test.YtmknengmjepdaaaUb
import Derived.Test.YtmknengmjepdaaaVf
import Derived.Test.YtmknengmjepdaaaSa
import Derived.Test.YtmknengmjepdaaaQj
namespace Go.Proofs.Ytmknengmjepdaaa
open Go.RowKit
attribute [local irreducible] seqS seqST walkV

theorem p71_n (p : Pat) : (p71 p).n = p.n := rfl
theorem chain_val {p : Pat} {n d : Int} (hp : PValid p) (hs : FSize n d) (hb : chBad p n d = false) {at_ : List Nat} {i : Nat} {es : List (Int × Rul)} (h : Way p n d at_ i 0 es) (hi : i < p.n.toNat) :
    sgnQ (((sumC es : Int) : Rat) + ((sumD es : Int) : Rat) * ((n : Rat) / (d : Rat)) - (((leastF p n d i).1 : Int) : Rat) / (((leastF p n d i).2 : Int) : Rat)) = 0 := by
  have h1 := (least_fv hp hs hb hi).2
  have h2 := way_wts es i 0 (fun e he => (h.mem e he).2) h.walk
  rw [chain_zero hp hs hb, wts_cd, ← sumC_eq, ← sumD_eq] at h2
  have hd := hs.1.1
  have h3 := rat_ne hd
  have h4 : ((sumC es * d + sumD es * n : Int) : Rat) = ((chainM p n d i 0 : Int) : Rat) := by rw [h2]; simp
  have h5 : ((sumC es : Int) : Rat) + ((sumD es : Int) : Rat) * ((n : Rat) / (d : Rat)) - (((leastF p n d i).1 : Int) : Rat) / (((leastF p n d i).2 : Int) : Rat) = 0 := by
    rw [h1]
    push_cast at h4
    grind
  rw [h5]
  rfl

set_option maxHeartbeats 8000000 in
set_option maxRecDepth 100000 in
theorem GradeChains_any (p : Pat) (n d i : Int) (v : Value) (w : World) (h : PatF 0 w v p) (hi64 : I64 i) :
    Calls Try.prog 7 #[v, .agg #[.int .i64 n, .int .i64 d], .int .i64 i] w fun e w' => e = .returned (.bool true) ∧ Below w.heap.size w w' := by
  obtain ⟨sv, rfl, -⟩ := id h
  go_enter Try.func7, Try.ntmps7
  go_wp2_with fail
  obtain ⟨w0, hw0, k0, k1, hB, hsz⟩ := one_new w #[.int .i64 p.n, sv] #[.int .i64 n, .int .i64 d] 24 26
  rw [hw0]
  clear hw0
  have fin : Hid (∀ W, Below w0.heap.size w0 W → Below w.heap.size w W) := hid (fun W hb => hB.trans (hb.mono hB.size))
  have h0 := h.below hB
  obtain ⟨S, hS⟩ : ∃ S, w.heap.size = S := ⟨_, rfl⟩
  rw [hS] at k0 k1 hsz ⊢
  clear hS h hB
  have b1 : Below w0.heap.size w0 w0.drew := (Below.refl _ _).drew
  have z0 := fun x : Sub w0.drew => ((k0.below b1).below x.b).look 0 rfl
  have z1 := fun x : Sub w0.drew => ((k0.below b1).below x.b).look 1 rfl
  have z2 := fun x : Sub w0.drew => ((k1.below b1).below x.b).look 0 rfl
  have z3 := fun x : Sub w0.drew => ((k1.below b1).below x.b).look 1 rfl
  refine wp_seq [(0, false), (2, false), (3, false), (1, true), (4, true), (5, false), (6, false), (7, false), (8, false), (9, false)] [(_, false), (_, false), (_, false), (_, true), (_, true), (_, false), (_, false), (_, false), (_, false), (_, false)] (by kernel_rfl) rfl rfl (by kernel_rfl) ?_
  iterate 3 (refine seqS_read (fun K hK => ?_); go_simp; refine hK _ ?_; clear hK K)
  clear z0 z1 z2 z3
  (refine seqS_call (fun K hK => ?_); go_simp; refine (of_any p _ _ (h0.below b1)).mono ?_; rintro e w1 ⟨v1, rfl, hv1, hb1⟩; refine ⟨_, rfl, hK _ _ hb1 ?_⟩; clear hK K)
  have b2 := b1.trans (hb1.mono b1.size)
  refine seqS_call (fun K hK => ?_)
  go_simp
  refine (gChain_any (p71 p) n d i _ _ (hv1.mono (Nat.zero_le _))).mono ?_
  rintro e w2 ⟨⟨vl, E, rfl, hcase⟩, hb2⟩
  have b3 := b2.trans (hb2.mono b2.size)
  refine ⟨_, rfl, hK _ _ hb2 ?_⟩
  clear hK K
  have c0 := (k0.below b3).look 0 rfl
  have c1 := (k0.below b3).look 1 rfl
  have c2 := (k1.below b3).look 0 rfl
  have c3 := (k1.below b3).look 1 rfl
  rcases hcase with ⟨hno, rfl, rfl⟩ | ⟨hp, hs, hi0, hi1, hb, rfl, rfl⟩ | ⟨hp, hs, hi0, hi1, hb, rfl, es, at_, hway, hlen, hvl⟩
  · iterate 5 (refine seqS_read (fun K hK => ?_); go_simp; refine hK _ ?_; clear hK K)
    refine seqS_nil ?_
    go_wp2_with fail
    refine (Good_any p n d _ _ (h0.below b3)).mono ?_
    rintro e w3 ⟨rfl, hb3⟩
    have b4 := b3.trans (hb3.mono b3.size)
    clear c0 c1 c2 c3
    have c0 := (k0.below b4).look 0 rfl
    by_cases hg : PValid p ∧ FSize n d
    · rw [decide_eq_true hg.1, decide_eq_true hg.2]
      have e71 : p71 p = p := (p71_cases p).resolve_right fun hh => hh.2 (by rcases p71_cases p with he | ⟨h1, _⟩; rw [he]; exact hg.1; exact absurd hg.1 h1)
      rw [e71] at hno
      by_cases hi0 : i < 0
      · clear hno e71 hg
        go_wp2_with fail
        refine (awake_any _).mono ?_
        rintro e w5 ⟨rfl, hb5⟩
        go_wp2
        go_ret
        exact ⟨rfl, fin.out _ (b4.trans (hb5.mono b4.size))⟩
      · have hi1 : p.n ≤ i := by
          apply Decidable.byContradiction
          intro hn
          exact hno ⟨hg.1, hg.2, by omega, by omega⟩
        clear hno e71 hg
        go_wp2_with fail
        refine (awake_any _).mono ?_
        rintro e w5 ⟨rfl, hb5⟩
        go_wp2
        go_ret
        exact ⟨rfl, fin.out _ (b4.trans (hb5.mono b4.size))⟩
    · have hg2 : (decide (PValid p) && decide (FSize n d)) = false := by
        by_cases h1 : PValid p
        · rw [decide_eq_false (fun h2 => hg ⟨h1, h2⟩)]; simp
        · rw [decide_eq_false h1]; rfl
      rw [hg2]
      clear hno hg hg2
      go_wp2_with fail
      refine (awake_any _).mono ?_
      rintro e w5 ⟨rfl, hb5⟩
      go_wp2
      go_ret
      exact ⟨rfl, fin.out _ (b4.trans (hb5.mono b4.size))⟩
  · have e71 : p71 p = p := (p71_cases p).resolve_right fun hh => hh.2 hp
    rw [e71] at hp hb hi1
    have HE := hid (show rLeastE p n d = 10 by unfold rLeastE; rw [decide_eq_true hp, decide_eq_true hs, hb]; rfl)
    have HG := hid (show (decide (PValid p) && decide (FSize n d)) = true by rw [decide_eq_true hp, decide_eq_true hs]; rfl)
    clear hp hs hb e71
    iterate 5 (refine seqS_read (fun K hK => ?_); go_simp; refine hK _ ?_; clear hK K)
    refine seqS_nil ?_
    go_wp2_with fail
    refine (Good_any p n d _ _ (h0.below b3)).mono ?_
    rintro e w3 ⟨rfl, hb3⟩
    rw [HG.out]
    have b4 := b3.trans (hb3.mono b3.size)
    clear c0 c1 c2 c3
    have c0 := (k0.below b4).look 0 rfl
    have c1 := (k0.below b4).look 1 rfl
    have c2 := (k1.below b4).look 0 rfl
    have c3 := (k1.below b4).look 1 rfl
    go_wp2_with fail
    refine (rLeast_any p n d _ _ (h0.below b4)).mono ?_
    rintro e w4 ⟨⟨vm, rfl, -⟩, hb4⟩
    rw [HE.out]
    have b5 := b4.trans (hb4.mono b4.size)
    clear c0 c1 c2 c3
    go_wp2_with fail
    refine (awake_any _).mono ?_
    rintro e w5 ⟨rfl, hb5⟩
    go_wp2
    go_ret
    exact ⟨rfl, fin.out _ (b5.trans (hb5.mono b5.size))⟩
  · have e71 : p71 p = p := (p71_cases p).resolve_right fun hh => hh.2 hp
    rw [e71] at hp hb hi1 hway
    obtain ⟨I, rfl⟩ : ∃ I : Nat, i = I := ⟨i.toNat, by omega⟩
    rw [Int.toNat_natCast] at hway
    have hIN : I < p.n.toNat := by omega
    have hval := chain_val hp hs hb hway hIN
    have hok := way_ok hway
    have hE0 : rLeastE p n d = 0 := by unfold rLeastE; rw [decide_eq_true hp, decide_eq_true hs, hb]; rfl
    have HE := hid hE0
    have HL := hid (show rLeastL p n d = leastL p n d by unfold rLeastL; rw [if_pos hE0])
    have HG := hid (show (decide (PValid p) && decide (FSize n d)) = true by rw [decide_eq_true hp, decide_eq_true hs]; rfl)
    have hbd := sumcd_bd hp es hok.mem
    have hfl := (least_fv hp hs hb hIN).1
    have hfv := hs.1
    have hgl : (leastL p n d)[I]? = some (leastF p n d I) := by unfold leastL; rw [List.getElem?_map, List.getElem?_range hIN]; rfl
    have hll : (leastL p n d).length = p.n.toNat := by unfold leastL; rw [List.length_map, List.length_range]
    have hzero : I = 0 → es.length = 0 := by
      intro h0
      apply Decidable.byContradiction
      intro hne
      have h1 := hway.dist 0 es.length (by omega) (Nat.le_refl _)
      rw [vert_zero, chain_end hway.walk, h0] at h1
      exact h1 rfl
    have CH : Hid (∀ W, Below w2.heap.size w2 W → Calls Try.prog 39 #[.agg #[.int .i64 p.n, sv], vl, .int .i64 (I : Int), .int .i64 0] W fun e w' => e = .returned (.tuple #[.int .i64 (sumC es), .int .i64 (sumD es), .bool true]) ∧ Below W.heap.size W w') :=
      hid (fun W hb => rChain_any p es I 0 vl _ W ((h0.below b3).below hb) (SlR.mono (SlR.below hvl hb) (Nat.zero_le _)) hp hok (by omega))
    obtain ⟨avl, capl, rfl, -⟩ := hvl
    rw [List.length_map] at CH ⊢
    obtain ⟨EL, hEL⟩ : ∃ z, es.length = z := ⟨_, rfl⟩
    obtain ⟨sC, hsC⟩ : ∃ z, sumC es = z := ⟨_, rfl⟩
    obtain ⟨sD, hsD⟩ : ∃ z, sumD es = z := ⟨_, rfl⟩
    obtain ⟨fn, hfn⟩ : ∃ z, (leastF p n d I).1 = z := ⟨_, rfl⟩
    obtain ⟨fd, hfd⟩ : ∃ z, (leastF p n d I).2 = z := ⟨_, rfl⟩
    rw [hEL] at CH hzero hlen ⊢
    rw [hsC, hsD] at CH
    rw [hsC, hsD, hfn, hfd] at hval
    rw [hEL, hsC, hsD] at hbd
    rw [hfn, hfd] at hfl
    have hFL : leastF p n d I = (fn, fd) := Prod.ext hfn hfd
    rw [hFL] at hgl
    have hsD2 : -1600 ≤ sD ∧ sD ≤ 1600 ∨ True := .inr trivial
    have I1 := hid (fun w => Int_any sC w (by omega) (by omega))
    have I2 := hid (fun w => Int_any sD w (by omega) (by omega))
    have O1 := hid (fun w => Of_any n d w (by have := hfv.2.2.1; omega) (by have := hfv.2.2.2.1; omega) (by have := hfv.1; omega) (by have := hfv.2.1; omega) (by have := hfv.1; omega))
    have O2 := hid (fun w => Of_any fn fd w (by have := hfl.2.2.1; omega) (by have := hfl.2.2.2.1; omega) (by have := hfl.1; omega) (by have := hfl.2.1; omega) (by have := hfl.1; omega))
    have s1 : Hid (QS 268435456 (sC : Rat)) := hid ((int_size (z := sC) (by omega) (by omega)).mono (by decide))
    have s2 : Hid (QS 4 (sD : Rat)) := hid ((int_size (z := sD) (by omega) (by omega)).mono (by decide))
    have s3 : Hid (QS 4 ((n : Rat) / (d : Rat))) := hid (QS_of (by have := hfv.2.2.1; omega) (by have := hfv.2.2.2.1; omega) (by have := hfv.1; omega) (by have := hfv.2.1; omega) (by have := hfv.1; omega))
    have s4 : Hid (QS 268435456 ((sD : Rat) * ((n : Rat) / (d : Rat)))) := hid ((QS_mul s2.out s3.out).mono (by decide))
    have s5 : Hid (QS 268435456 ((sC : Rat) + (sD : Rat) * ((n : Rat) / (d : Rat)))) := hid ((QS_add (k := 8) ((int_size (z := sC) (by omega) (by omega)).mono (by decide)) (QS_mul s2.out s3.out)).mono (by decide))
    have s6 : Hid (QS 268435456 ((fn : Rat) / (fd : Rat))) := hid ((QS_of (by have := hfl.2.2.1; omega) (by have := hfl.2.2.2.1; omega) (by have := hfl.1; omega) (by have := hfl.2.1; omega) (by have := hfl.1; omega)).mono (by decide))
    have HV := hid hval
    have HZ := hid hzero
    have HLL := hid hll
    have HGL := hid hgl
    have HIN := hid hIN
    clear hp hs hb e71 hway hok hE0 hbd hfl hfv hll hEL hsC hsD hfn hfd hval hzero hFL hgl hsD2 hlen
    iterate 5 (refine seqS_read (fun K hK => ?_); go_simp; refine hK _ ?_; clear hK K)
    refine seqS_nil ?_
    go_wp2_with fail
    refine (Good_any p n d _ _ (h0.below b3)).mono ?_
    rintro e w3 ⟨rfl, hb3⟩
    rw [HG.out]
    have b4 := b3.trans (hb3.mono b3.size)
    clear c0 c1 c2 c3
    have c0 := (k0.below b4).look 0 rfl
    have c1 := (k0.below b4).look 1 rfl
    have c2 := (k1.below b4).look 0 rfl
    have c3 := (k1.below b4).look 1 rfl
    go_wp2_with fail
    refine (rLeast_any p n d _ _ (h0.below b4)).mono ?_
    rintro e w4 ⟨⟨vm, rfl, hvm⟩, hb4⟩
    rw [HE.out]
    rw [HL.out] at hvm
    obtain ⟨am, capm, rfl, hcapm, hmaxm, hcm⟩ := hvm
    rw [HLL.out] at hcapm ⊢
    have b5 := b4.trans (hb4.mono b4.size)
    clear c0 c1 c2 c3
    have c0 := (k0.below b5).look 0 rfl
    have c1 := (k0.below b5).look 1 rfl
    go_wp2_with fail
    refine (CH.out _ (hb3.trans (hb4.mono hb3.size))).mono ?_
    rintro e w5 ⟨rfl, hb5⟩
    have b6 := b5.trans (hb5.mono b5.size)
    have hcm5 := hcm.below hb5
    clear c0 c1 hcm
    go_wp2_with fail
    have hd : Below w5.heap.size w5 w5.drew := (Below.refl _ _).drew
    have z0 := fun x : SubT (Below w5.heap.size) w5.drew => (k1.below (b6.trans ((hd.trans x.b).mono b6.size))).look 0 rfl
    have z1 := fun x : SubT (Below w5.heap.size) w5.drew => (k1.below (b6.trans ((hd.trans x.b).mono b6.size))).look 1 rfl
    refine wp_walkV (T := Below (w5.heap.size)) (belowV_pre _) (.rd 0 (.rd 2 (.rd 4 (.two 1 (.two 3 (.two 5 (.two 6 (.two 7 (.mv 8 (.bt 9 .nil)) 8 (.mv 7 (.bt 9 .nil))) 8 (.mv 6 (.mv 7 (.bt 9 .nil)))) 8 (.mv 5 (.mv 6 (.mv 7 (.bt 9 .nil))))) 8 (.mv 3 (.mv 5 (.mv 6 (.mv 7 (.bt 9 .nil)))))) 8 (.mv 1 (.mv 3 (.mv 5 (.mv 6 (.mv 7 (.bt 9 .nil)))))))))) (by kernel_rfl) rfl rfl (by kernel_rfl) (by kernel_rfl) ?_
    iterate 3 (refine walkV_rd rfl (fun K hK => ?_); go_simp; refine hK _ ?_; clear hK K)
    clear z0 z1
    obtain ⟨BB, hBB⟩ : ∃ BB, w5.heap.size = BB := ⟨_, rfl⟩
    obtain ⟨W, hW⟩ : ∃ W, w5.drew = W := ⟨_, rfl⟩
    have hs : BB ≤ W.heap.size := by rw [← hW, ← hBB]; exact Nat.le_refl _
    have bt : Below BB w5 W := by rw [← hW, ← hBB]; exact hd
    have HB := hid hBB
    rw [hBB, hW]
    clear hBB hW hd
    refine walkV_named (fun a0 ha0 => ?_)
    refine walkV_cut (R := fun a' W => ∃ (bA : Nat) (v1 v2 v3 v4 v5 : Value), a' = (((((a0.put (some 14) (.pointer (some ⟨bA, 0, none⟩))).put (some 75) v1).put (some 77) v2).put (some 79) v3).put (some 80) v4).put (some 81) v5 ∧ Below BB w5 W ∧ BB ≤ bA ∧ Blk W bA #[.bool false, .slice none 0 0, .slice none 0 0] 43 ∧ QR W v5 ((sC : Rat) + (sD : Rat) * ((n : Rat) / (d : Rat)))) (r := (.bt 9 .nil)) ?_ (.two 1 (.two 3 (.two 5 (.two 6 (.two 7 (.mv 8 .nil) 8 (.mv 7 .nil)) 8 (.mv 6 (.mv 7 .nil))) 8 (.mv 5 (.mv 6 (.mv 7 .nil)))) 8 (.mv 3 (.mv 5 (.mv 6 (.mv 7 .nil))))) 8 (.mv 1 (.mv 3 (.mv 5 (.mv 6 (.mv 7 .nil)))))) _ _ ?_
    rotate_left
    · subst ha0
      refine walkV_two rfl rfl (fun K hK => ?_) (fun K hK => ?_)
      · skip
        go_simp
        refine (I1.out _).mono ?_
        rintro e W ⟨v1, rfl, h1, hb⟩
        refine ⟨_, rfl, hK _ _ (hb.mono hs) ?_⟩
        clear hK K
        replace bt := bt.trans (hb.mono hs)
        replace hs := Nat.le_trans hs hb.size
        clear hb
        refine walkV_two rfl rfl (fun K hK => ?_) (fun K hK => ?_)
        · skip
          go_simp
          refine (I2.out _).mono ?_
          rintro e W ⟨v2, rfl, h2, hb⟩
          refine ⟨_, rfl, hK _ _ (hb.mono hs) ?_⟩
          clear hK K
          replace h1 := h1.below hb
          replace bt := bt.trans (hb.mono hs)
          replace hs := Nat.le_trans hs hb.size
          clear hb
          refine walkV_two rfl rfl (fun K hK => ?_) (fun K hK => ?_)
          · skip
            go_simp
            refine (O1.out _).mono ?_
            rintro e W ⟨v3, rfl, h3, hb⟩
            refine ⟨_, rfl, hK _ _ (hb.mono hs) ?_⟩
            clear hK K
            replace h1 := h1.below hb
            replace h2 := h2.below hb
            replace bt := bt.trans (hb.mono hs)
            replace hs := Nat.le_trans hs hb.size
            clear hb
            refine walkV_two rfl rfl (fun K hK => ?_) (fun K hK => ?_)
            · skip
              go_simp
              refine (Times_any _ _ _ _ _ h2.rat h3.rat (s2.out.mono (by decide)) (s3.out.mono (by decide))).mono ?_
              rintro e W ⟨v4, rfl, h4, hb⟩
              refine ⟨_, rfl, hK _ _ (hb.mono hs) ?_⟩
              clear hK K
              replace h1 := h1.below hb
              replace h2 := h2.below hb
              replace h3 := h3.below hb
              replace bt := bt.trans (hb.mono hs)
              replace hs := Nat.le_trans hs hb.size
              clear hb
              refine walkV_two rfl rfl (fun K hK => ?_) (fun K hK => ?_)
              · skip
                go_simp
                refine (Plus_any _ _ _ _ _ h1.rat h4.rat s1.out s4.out).mono ?_
                rintro e W ⟨v5, rfl, h5, hb⟩
                refine ⟨_, rfl, hK _ _ (hb.mono hs) ?_⟩
                clear hK K
                replace h1 := h1.below hb
                replace h2 := h2.below hb
                replace h3 := h3.below hb
                replace h4 := h4.below hb
                replace bt := bt.trans (hb.mono hs)
                replace hs := Nat.le_trans hs hb.size
                clear hb
                refine walkV_mv rfl (fun K hK => ?_)
                go_simp
                refine hK _ _ ((Below.refl _ _).alloc hs _) ?_
                clear hK K
                have kA := Blk.new W #[.bool false, .slice none 0 0, .slice none 0 0] 43
                have hb := (Below.refl W.heap.size W).alloc (Nat.le_refl _) (.cells #[.bool false, .slice none 0 0, .slice none 0 0] 43)
                have hA := hs
                generalize W.heap.size = bA at kA hA ⊢
                generalize W.alloc (.cells #[.bool false, .slice none 0 0, .slice none 0 0] 43) = W at kA hb ⊢
                replace h1 := h1.below hb
                replace h2 := h2.below hb
                replace h3 := h3.below hb
                replace h4 := h4.below hb
                replace h5 := h5.below hb
                replace bt := bt.trans (hb.mono hs)
                replace hs := Nat.le_trans hs hb.size
                clear hb
                exact walkV_nil ⟨bA, v1, v2, v3, v4, v5, by go_simp, bt, hA, kA, h5.rat⟩
              · skip
                go_simp
                refine hK _ _ ((Below.refl _ _).alloc hs _) ?_
                clear hK K
                have kA := Blk.new W #[.bool false, .slice none 0 0, .slice none 0 0] 43
                have hb := (Below.refl W.heap.size W).alloc (Nat.le_refl _) (.cells #[.bool false, .slice none 0 0, .slice none 0 0] 43)
                have hA := hs
                generalize W.heap.size = bA at kA hA ⊢
                generalize W.alloc (.cells #[.bool false, .slice none 0 0, .slice none 0 0] 43) = W at kA hb ⊢
                replace h1 := h1.below hb
                replace h2 := h2.below hb
                replace h3 := h3.below hb
                replace h4 := h4.below hb
                replace bt := bt.trans (hb.mono hs)
                replace hs := Nat.le_trans hs hb.size
                clear hb
                refine walkV_mv rfl (fun K hK => ?_)
                go_simp
                refine (Plus_any _ _ _ _ _ h1.rat h4.rat s1.out s4.out).mono ?_
                rintro e W ⟨v5, rfl, h5, hb⟩
                refine ⟨_, rfl, hK _ _ (hb.mono hs) ?_⟩
                clear hK K
                replace h1 := h1.below hb
                replace h2 := h2.below hb
                replace h3 := h3.below hb
                replace h4 := h4.below hb
                replace kA := kA.below hb
                replace bt := bt.trans (hb.mono hs)
                replace hs := Nat.le_trans hs hb.size
                clear hb
                exact walkV_nil ⟨bA, v1, v2, v3, v4, v5, by go_simp, bt, hA, kA, h5.rat⟩
            · skip
              go_simp
              refine hK _ _ ((Below.refl _ _).alloc hs _) ?_
              clear hK K
              have kA := Blk.new W #[.bool false, .slice none 0 0, .slice none 0 0] 43
              have hb := (Below.refl W.heap.size W).alloc (Nat.le_refl _) (.cells #[.bool false, .slice none 0 0, .slice none 0 0] 43)
              have hA := hs
              generalize W.heap.size = bA at kA hA ⊢
              generalize W.alloc (.cells #[.bool false, .slice none 0 0, .slice none 0 0] 43) = W at kA hb ⊢
              replace h1 := h1.below hb
              replace h2 := h2.below hb
              replace h3 := h3.below hb
              replace bt := bt.trans (hb.mono hs)
              replace hs := Nat.le_trans hs hb.size
              clear hb
              refine walkV_mv rfl (fun K hK => ?_)
              go_simp
              refine (Times_any _ _ _ _ _ h2.rat h3.rat (s2.out.mono (by decide)) (s3.out.mono (by decide))).mono ?_
              rintro e W ⟨v4, rfl, h4, hb⟩
              refine ⟨_, rfl, hK _ _ (hb.mono hs) ?_⟩
              clear hK K
              replace h1 := h1.below hb
              replace h2 := h2.below hb
              replace h3 := h3.below hb
              replace kA := kA.below hb
              replace bt := bt.trans (hb.mono hs)
              replace hs := Nat.le_trans hs hb.size
              clear hb
              refine walkV_mv rfl (fun K hK => ?_)
              go_simp
              refine (Plus_any _ _ _ _ _ h1.rat h4.rat s1.out s4.out).mono ?_
              rintro e W ⟨v5, rfl, h5, hb⟩
              refine ⟨_, rfl, hK _ _ (hb.mono hs) ?_⟩
              clear hK K
              replace h1 := h1.below hb
              replace h2 := h2.below hb
              replace h3 := h3.below hb
              replace h4 := h4.below hb
              replace kA := kA.below hb
              replace bt := bt.trans (hb.mono hs)
              replace hs := Nat.le_trans hs hb.size
              clear hb
              exact walkV_nil ⟨bA, v1, v2, v3, v4, v5, by go_simp, bt, hA, kA, h5.rat⟩
          · skip
            go_simp
            refine hK _ _ ((Below.refl _ _).alloc hs _) ?_
            clear hK K
            have kA := Blk.new W #[.bool false, .slice none 0 0, .slice none 0 0] 43
            have hb := (Below.refl W.heap.size W).alloc (Nat.le_refl _) (.cells #[.bool false, .slice none 0 0, .slice none 0 0] 43)
            have hA := hs
            generalize W.heap.size = bA at kA hA ⊢
            generalize W.alloc (.cells #[.bool false, .slice none 0 0, .slice none 0 0] 43) = W at kA hb ⊢
            replace h1 := h1.below hb
            replace h2 := h2.below hb
            replace bt := bt.trans (hb.mono hs)
            replace hs := Nat.le_trans hs hb.size
            clear hb
            refine walkV_mv rfl (fun K hK => ?_)
            go_simp
            refine (O1.out _).mono ?_
            rintro e W ⟨v3, rfl, h3, hb⟩
            refine ⟨_, rfl, hK _ _ (hb.mono hs) ?_⟩
            clear hK K
            replace h1 := h1.below hb
            replace h2 := h2.below hb
            replace kA := kA.below hb
            replace bt := bt.trans (hb.mono hs)
            replace hs := Nat.le_trans hs hb.size
            clear hb
            refine walkV_mv rfl (fun K hK => ?_)
            go_simp
            refine (Times_any _ _ _ _ _ h2.rat h3.rat (s2.out.mono (by decide)) (s3.out.mono (by decide))).mono ?_
            rintro e W ⟨v4, rfl, h4, hb⟩
            refine ⟨_, rfl, hK _ _ (hb.mono hs) ?_⟩
            clear hK K
            replace h1 := h1.below hb
            replace h2 := h2.below hb
            replace h3 := h3.below hb
            replace kA := kA.below hb
            replace bt := bt.trans (hb.mono hs)
            replace hs := Nat.le_trans hs hb.size
            clear hb
            refine walkV_mv rfl (fun K hK => ?_)
            go_simp
            refine (Plus_any _ _ _ _ _ h1.rat h4.rat s1.out s4.out).mono ?_
            rintro e W ⟨v5, rfl, h5, hb⟩
            refine ⟨_, rfl, hK _ _ (hb.mono hs) ?_⟩
            clear hK K
            replace h1 := h1.below hb
            replace h2 := h2.below hb
            replace h3 := h3.below hb
            replace h4 := h4.below hb
            replace kA := kA.below hb
            replace bt := bt.trans (hb.mono hs)
            replace hs := Nat.le_trans hs hb.size
            clear hb
            exact walkV_nil ⟨bA, v1, v2, v3, v4, v5, by go_simp, bt, hA, kA, h5.rat⟩
        · skip
          go_simp
          refine hK _ _ ((Below.refl _ _).alloc hs _) ?_
          clear hK K
          have kA := Blk.new W #[.bool false, .slice none 0 0, .slice none 0 0] 43
          have hb := (Below.refl W.heap.size W).alloc (Nat.le_refl _) (.cells #[.bool false, .slice none 0 0, .slice none 0 0] 43)
          have hA := hs
          generalize W.heap.size = bA at kA hA ⊢
          generalize W.alloc (.cells #[.bool false, .slice none 0 0, .slice none 0 0] 43) = W at kA hb ⊢
          replace h1 := h1.below hb
          replace bt := bt.trans (hb.mono hs)
          replace hs := Nat.le_trans hs hb.size
          clear hb
          refine walkV_mv rfl (fun K hK => ?_)
          go_simp
          refine (I2.out _).mono ?_
          rintro e W ⟨v2, rfl, h2, hb⟩
          refine ⟨_, rfl, hK _ _ (hb.mono hs) ?_⟩
          clear hK K
          replace h1 := h1.below hb
          replace kA := kA.below hb
          replace bt := bt.trans (hb.mono hs)
          replace hs := Nat.le_trans hs hb.size
          clear hb
          refine walkV_mv rfl (fun K hK => ?_)
          go_simp
          refine (O1.out _).mono ?_
          rintro e W ⟨v3, rfl, h3, hb⟩
          refine ⟨_, rfl, hK _ _ (hb.mono hs) ?_⟩
          clear hK K
          replace h1 := h1.below hb
          replace h2 := h2.below hb
          replace kA := kA.below hb
          replace bt := bt.trans (hb.mono hs)
          replace hs := Nat.le_trans hs hb.size
          clear hb
          refine walkV_mv rfl (fun K hK => ?_)
          go_simp
          refine (Times_any _ _ _ _ _ h2.rat h3.rat (s2.out.mono (by decide)) (s3.out.mono (by decide))).mono ?_
          rintro e W ⟨v4, rfl, h4, hb⟩
          refine ⟨_, rfl, hK _ _ (hb.mono hs) ?_⟩
          clear hK K
          replace h1 := h1.below hb
          replace h2 := h2.below hb
          replace h3 := h3.below hb
          replace kA := kA.below hb
          replace bt := bt.trans (hb.mono hs)
          replace hs := Nat.le_trans hs hb.size
          clear hb
          refine walkV_mv rfl (fun K hK => ?_)
          go_simp
          refine (Plus_any _ _ _ _ _ h1.rat h4.rat s1.out s4.out).mono ?_
          rintro e W ⟨v5, rfl, h5, hb⟩
          refine ⟨_, rfl, hK _ _ (hb.mono hs) ?_⟩
          clear hK K
          replace h1 := h1.below hb
          replace h2 := h2.below hb
          replace h3 := h3.below hb
          replace h4 := h4.below hb
          replace kA := kA.below hb
          replace bt := bt.trans (hb.mono hs)
          replace hs := Nat.le_trans hs hb.size
          clear hb
          exact walkV_nil ⟨bA, v1, v2, v3, v4, v5, by go_simp, bt, hA, kA, h5.rat⟩
      · skip
        go_simp
        refine hK _ _ ((Below.refl _ _).alloc hs _) ?_
        clear hK K
        have kA := Blk.new W #[.bool false, .slice none 0 0, .slice none 0 0] 43
        have hb := (Below.refl W.heap.size W).alloc (Nat.le_refl _) (.cells #[.bool false, .slice none 0 0, .slice none 0 0] 43)
        have hA := hs
        generalize W.heap.size = bA at kA hA ⊢
        generalize W.alloc (.cells #[.bool false, .slice none 0 0, .slice none 0 0] 43) = W at kA hb ⊢
        replace bt := bt.trans (hb.mono hs)
        replace hs := Nat.le_trans hs hb.size
        clear hb
        refine walkV_mv rfl (fun K hK => ?_)
        go_simp
        refine (I1.out _).mono ?_
        rintro e W ⟨v1, rfl, h1, hb⟩
        refine ⟨_, rfl, hK _ _ (hb.mono hs) ?_⟩
        clear hK K
        replace kA := kA.below hb
        replace bt := bt.trans (hb.mono hs)
        replace hs := Nat.le_trans hs hb.size
        clear hb
        refine walkV_mv rfl (fun K hK => ?_)
        go_simp
        refine (I2.out _).mono ?_
        rintro e W ⟨v2, rfl, h2, hb⟩
        refine ⟨_, rfl, hK _ _ (hb.mono hs) ?_⟩
        clear hK K
        replace h1 := h1.below hb
        replace kA := kA.below hb
        replace bt := bt.trans (hb.mono hs)
        replace hs := Nat.le_trans hs hb.size
        clear hb
        refine walkV_mv rfl (fun K hK => ?_)
        go_simp
        refine (O1.out _).mono ?_
        rintro e W ⟨v3, rfl, h3, hb⟩
        refine ⟨_, rfl, hK _ _ (hb.mono hs) ?_⟩
        clear hK K
        replace h1 := h1.below hb
        replace h2 := h2.below hb
        replace kA := kA.below hb
        replace bt := bt.trans (hb.mono hs)
        replace hs := Nat.le_trans hs hb.size
        clear hb
        refine walkV_mv rfl (fun K hK => ?_)
        go_simp
        refine (Times_any _ _ _ _ _ h2.rat h3.rat (s2.out.mono (by decide)) (s3.out.mono (by decide))).mono ?_
        rintro e W ⟨v4, rfl, h4, hb⟩
        refine ⟨_, rfl, hK _ _ (hb.mono hs) ?_⟩
        clear hK K
        replace h1 := h1.below hb
        replace h2 := h2.below hb
        replace h3 := h3.below hb
        replace kA := kA.below hb
        replace bt := bt.trans (hb.mono hs)
        replace hs := Nat.le_trans hs hb.size
        clear hb
        refine walkV_mv rfl (fun K hK => ?_)
        go_simp
        refine (Plus_any _ _ _ _ _ h1.rat h4.rat s1.out s4.out).mono ?_
        rintro e W ⟨v5, rfl, h5, hb⟩
        refine ⟨_, rfl, hK _ _ (hb.mono hs) ?_⟩
        clear hK K
        replace h1 := h1.below hb
        replace h2 := h2.below hb
        replace h3 := h3.below hb
        replace h4 := h4.below hb
        replace kA := kA.below hb
        replace bt := bt.trans (hb.mono hs)
        replace hs := Nat.le_trans hs hb.size
        clear hb
        exact walkV_nil ⟨bA, v1, v2, v3, v4, v5, by go_simp, bt, hA, kA, h5.rat⟩
    rintro _ W2 ⟨bA, v1, v2, v3, v4, v5, rfl, bt2, hA, kA, h5⟩
    subst ha0
    obtain ⟨a3, n3, c3, a4, n4, c4, hv5⟩ := q_shape h5
    generalize decide (((sC : Rat) + (sD : Rat) * ((n : Rat) / (d : Rat))).num < 0) = b0 at hv5
    subst hv5
    have qA0 := kA.look 0 rfl
    have qA1 := kA.look 1 rfl
    have qA2 := kA.look 2 rfl
    have fA := kA.frozen
    obtain ⟨h5z, kz⟩ := q_box h5 kA
    have bz := ((bt2.setCell (p := ⟨bA, 0, none⟩) hA (.bool b0)).setCell (p := ⟨bA, 1, none⟩) hA (.slice a3 n3 c3)).setCell (p := ⟨bA, 2, none⟩) hA (.slice a4 n4 c4)
    have H5 := hid h5z
    clear h5 bt2 h5z
    refine walkV_bt rfl (fun K hK => ?_)
    go_simp
    refine hK _ _ ?_
    clear hK K
    refine walkV_nil ?_
    clear qA0 qA1 qA2 fA kA
    generalize ((W2.setCell ⟨bA, 0, none⟩ (.bool b0)).setCell ⟨bA, 1, none⟩ (.slice a3 n3 c3)).setCell ⟨bA, 2, none⟩ (.slice a4 n4 c4) = Wz at kz bz H5 ⊢
    have hIl : I < (leastL p n d).length := by rw [HLL.out]; exact hIN
    obtain ⟨bm, om, rfl, hbm, m0, m1⟩ := fr_cell hcm5 hIl
    have hgd : (leastL p n d).getD I (0, 0) = (fn, fd) := by rw [List.getD_eq_getElem?_getD, HGL.out]; rfl
    rw [hgd] at m0 m1
    have hbmB : bm < BB := by have := HB.out; omega
    have hb7 := b6.trans (bz.mono (by have := HB.out; have := b6.size; omega))
    have hd2 : Below Wz.heap.size Wz Wz.drew := (Below.refl _ _).drew
    have z0 := fun x : Sub Wz.drew => (kz.below (hd2.trans x.b)).look 0 rfl
    have z1 := fun x : Sub Wz.drew => (kz.below (hd2.trans x.b)).look 1 rfl
    have z2 := fun x : Sub Wz.drew => (kz.below (hd2.trans x.b)).look 2 rfl
    have hBz : BB ≤ Wz.heap.size := by have := bz.size; have := HB.out; omega
    have z3 := fun x : Sub Wz.drew => ((bz.trans ((hd2.trans x.b).mono hBz)).cell (p := ⟨bm, om + I * 2, none⟩) hbmB).trans m0
    have z4 := fun x : Sub Wz.drew => ((bz.trans ((hd2.trans x.b).mono hBz)).cell (p := ⟨bm, om + I * 2 + 1, none⟩) hbmB).trans m1
    have hI2 : (I : Int) < max p.n 0 := by omega
    clear hcm5 hgd hIl
    by_cases hI0 : I = 0
    · have hEL := HZ.out hI0
      subst hI0
      subst hEL
      have hI4 : (0 : Int) < max p.n 0 := by omega
      have z5 : ∀ x : Sub Wz.drew, x.w.cell? ⟨bm, om, none⟩ = some (.int .i64 fn) := fun x => by simpa using z3 x
      have z6 : ∀ x : Sub Wz.drew, x.w.cell? ⟨bm, om + 1, none⟩ = some (.int .i64 fd) := fun x => by simpa using z4 x
      clear z3 z4
      go_wp2_with fail
      refine wp_seq [(0, false), (1, false), (2, false), (3, false), (4, false), (5, false), (6, false), (7, false), (8, false), (9, false), (10, false), (11, true), (12, true), (13, false), (14, false), (15, false), (16, false), (17, false), (18, false), (19, false), (20, false), (21, false), (22, false), (23, false), (24, false), (25, true), (26, false), (27, false)] [(_, false), (_, false), (_, false), (_, false), (_, false), (_, false), (_, false), (_, false), (_, false), (_, false), (_, false), (_, true), (_, true), (_, false), (_, false), (_, false), (_, false), (_, false), (_, false), (_, false), (_, false), (_, false), (_, false), (_, false), (_, false), (_, true), (_, false), (_, false)] (by kernel_rfl) rfl rfl (by kernel_rfl) ?_
      iterate 11 (refine seqS_read (fun K hK => ?_); go_simp; refine hK _ ?_; clear hK K)
      clear z0 z1 z2 z5 z6
      (refine seqS_call (fun K hK => ?_); go_simp; refine (O2.out _).mono ?_; rintro e w7 ⟨v7, rfl, h7, hb8⟩; refine ⟨_, rfl, hK _ _ hb8 ?_⟩; clear hK K)
      (refine seqS_call (fun K hK => ?_); go_simp; refine (Order_any _ _ _ _ _ (H5.out.below (hd2.trans hb8)).rat h7.rat s5.out s6.out).mono ?_; rintro e w8 ⟨rfl, hb9⟩; refine ⟨_, rfl, hK _ _ hb9 ?_⟩; clear hK K)
      rw [HV.out]
      iterate 12 (refine seqS_read (fun K hK => ?_); go_simp; refine hK _ ?_; clear hK K)
      (refine seqS_call (fun K hK => ?_); go_simp; refine (awake_any _).mono ?_; rintro e w9 ⟨rfl, hb10⟩; refine ⟨_, rfl, hK _ _ hb10 ?_⟩; clear hK K)
      iterate 2 (refine seqS_read (fun K hK => ?_); go_simp; refine hK _ ?_; clear hK K)
      refine seqS_nil ?_
      go_wp2
      go_ret
      exact ⟨rfl, fin.out _ (hb7.trans (((hd2.trans hb8).trans ((hb9.trans (hb10.mono hb9.size)).mono hb8.size)).mono hb7.size))⟩
    · have hI3 : (0 : Int) < (I : Int) := by omega
      have hI4 : 0 < I := by omega
      go_wp2_with fail
      refine wp_seq [(0, false), (1, false), (2, false), (3, false), (4, false), (5, false), (6, false), (7, false), (8, false), (9, false), (10, false), (11, true), (12, true), (13, false), (14, false), (15, false), (16, false), (17, false), (18, false), (19, false), (20, false), (21, false), (22, false), (23, false), (24, false), (25, true), (26, false), (27, false)] [(_, false), (_, false), (_, false), (_, false), (_, false), (_, false), (_, false), (_, false), (_, false), (_, false), (_, false), (_, true), (_, true), (_, false), (_, false), (_, false), (_, false), (_, false), (_, false), (_, false), (_, false), (_, false), (_, false), (_, false), (_, false), (_, true), (_, false), (_, false)] (by kernel_rfl) rfl rfl (by kernel_rfl) ?_
      iterate 11 (refine seqS_read (fun K hK => ?_); go_simp; refine hK _ ?_; clear hK K)
      clear z0 z1 z2 z3 z4
      (refine seqS_call (fun K hK => ?_); go_simp; refine (O2.out _).mono ?_; rintro e w7 ⟨v7, rfl, h7, hb8⟩; refine ⟨_, rfl, hK _ _ hb8 ?_⟩; clear hK K)
      (refine seqS_call (fun K hK => ?_); go_simp; refine (Order_any _ _ _ _ _ (H5.out.below (hd2.trans hb8)).rat h7.rat s5.out s6.out).mono ?_; rintro e w8 ⟨rfl, hb9⟩; refine ⟨_, rfl, hK _ _ hb9 ?_⟩; clear hK K)
      rw [HV.out]
      iterate 12 (refine seqS_read (fun K hK => ?_); go_simp; refine hK _ ?_; clear hK K)
      (refine seqS_call (fun K hK => ?_); go_simp; refine (awake_any _).mono ?_; rintro e w9 ⟨rfl, hb10⟩; refine ⟨_, rfl, hK _ _ hb10 ?_⟩; clear hK K)
      iterate 2 (refine seqS_read (fun K hK => ?_); go_simp; refine hK _ ?_; clear hK K)
      refine seqS_nil ?_
      go_wp2
      go_ret
      exact ⟨rfl, fin.out _ (hb7.trans (((hd2.trans hb8).trans ((hb9.trans (hb10.mono hb9.size)).mono hb8.size)).mono hb7.size))⟩

end Go.Proofs.Ytmknengmjepdaaa
