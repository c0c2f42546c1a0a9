/- Walk of calc.at. -/
import Derived.Test.YtfkclcoipadhmaaDoorDi
namespace Go.Proofs.YtfkclcoipadhmaaDoor
open Go.RowKit
attribute [local irreducible] seqS seqST walkV walkJ

theorem seg_comm (p q : Pt) (x : Rat) : segO p q x = (fitO (x - p.1)).bind fun d => (slO p q).bind fun s => (fitO (d * s)).bind fun m => fitO (p.2 + m) := by
  unfold segO
  cases slO p q with
  | none => cases fitO (x - p.1) <;> rfl
  | some s => cases fitO (x - p.1) <;> rfl
theorem seg_cal (ok : Bool) (p q : Pt) (x : Rat) (k1 k2 k3 : Bool) (v1 v2 v3 : Rat) (h1 : k1 = calK ok (fitO (x - p.1))) (e1 : v1 = calV ok (fitO (x - p.1))) (h2 : k2 = calK k1 (slO p q)) (e2 : v2 = calV k1 (slO p q))
    (h3 : k3 = calK k2 (fitO (v1 * v2))) (e3 : v3 = calV k2 (fitO (v1 * v2))) : calK k3 (fitO (p.2 + v3)) = calK ok (segO p q x) ∧ calV k3 (fitO (p.2 + v3)) = calV ok (segO p q x) := by
  have a3 := cal_bind k2 (fitO (v1 * v2)) (fun m => fitO (p.2 + m))
  rw [← h3, ← e3] at a3
  have a2 := cal_bind k1 (slO p q) (fun s => (fitO (v1 * s)).bind fun m => fitO (p.2 + m))
  rw [← h2, ← e2] at a2
  have a1 := cal_bind ok (fitO (x - p.1)) (fun d => (slO p q).bind fun s => (fitO (d * s)).bind fun m => fitO (p.2 + m))
  rw [← h1, ← e1] at a1
  rw [seg_comm]
  exact ⟨a3.1.trans (a2.1.trans a1.1), a3.2.trans (a2.2.trans a1.2)⟩
theorem segO_fits {p q : Pt} {x r : Rat} (h : segO p q x = some r) : fits r := by
  rw [seg_comm] at h
  cases h1 : fitO (x - p.1) with
  | none => rw [h1] at h; cases h
  | some d =>
    cases h2 : slO p q with
    | none => rw [h1, h2] at h; cases h
    | some s =>
      cases h3 : fitO (d * s) with
      | none => rw [h1, h2] at h; simp only [Option.bind_some] at h; rw [h3] at h; cases h
      | some m =>
        rw [h1, h2] at h
        simp only [Option.bind_some] at h
        rw [h3] at h
        exact (fitO_fits h).1
/-- What the search finds, in the domain of a curve. -/
theorem found_at {C : List Pt} (hc : CV C) {x : Rat} (hd : InDom C x) {i : Nat} {f : Bool} (h : Found C x i f) :
    (f = true ∧ i < C.length ∧ atO C x = some (C.getD i (0, 0)).2) ∨ (f = false ∧ 1 ≤ i ∧ i < C.length ∧ (C.getD (i - 1) (0, 0)).1 ≠ (C.getD i (0, 0)).1 ∧ atO C x = segO (C.getD (i - 1) (0, 0)) (C.getD i (0, 0)) x) := by
  cases f with
  | true =>
    have hy := h.yes.1 rfl
    exact .inl ⟨rfl, hy.1, at_same hc hy.1 hy.2⟩
  | false =>
    right
    have hn : ¬ (i < C.length ∧ (C.getD i (0, 0)).1 = x) := fun hh => by have := h.yes.2 hh; cases this
    have hL := hc.two
    have hi : i < C.length := by
      apply Decidable.byContradiction
      intro hi
      have h1 := h.lo (C.length - 1) (by omega)
      have h2 := hd.2
      grind
    have hi1 : 1 ≤ i := by
      apply Decidable.byContradiction
      intro h0
      obtain rfl : i = 0 := by omega
      have h1 := h.hi 0 (Nat.le_refl _) (by omega)
      have h2 := hd.1
      have h3 := hc.first
      rw [h3] at h1
      refine hn ⟨by omega, ?_⟩
      rw [h3]
      exact Rat.le_antisymm h2 h1
    have h1 := h.lo (i - 1) (by omega)
    have h2 := h.hi i (Nat.le_refl _) hi
    have h3 : x < (C.getD i (0, 0)).1 := by
      have : (C.getD i (0, 0)).1 ≠ x := fun e => hn ⟨hi, e⟩
      grind
    have hb := at_between hc (i := i - 1) (by omega) h1 (by rw [show i - 1 + 1 = i by omega]; exact h3)
    rw [show i - 1 + 1 = i by omega] at hb
    exact ⟨rfl, hi1, hi, fun e => by grind, hb⟩
structure AtR (C : List Pt) (x : Rat) (g : Nat) (ok : Bool) (w : World) (r : Ending) (w' : World) : Prop where
  out : ∃ V, r = .returned (frQ V) ∧ fits V ∧ (calK ok (atO C x) = true → atO C x = some V)
  cal : CalB w' g (calK ok (atO C x))
  tr : CalT g w w'

set_option maxHeartbeats 4000000 in
set_option maxRecDepth 100000 in
theorem at_any (C : List Pt) (x : Rat) (v : Value) (hc : CV C) (hd : InDom C x) (hx : fits x) (g : Nat) (ok : Bool) (w : World) (h : PsR 0 w v C) (hz : Z0 w) (hk : CalB w g ok) :
    Calls Tryd.prog 73 #[.pointer (some ⟨g, 0, none⟩), v, frQ x] w fun r w' => AtR C x g ok w r w' := by
  obtain ⟨ao, cap, rfl, hcap, hmax, hcells⟩ := id h
  unfold maxLen at hmax
  have SE := hid (fun w h => search_any C x (.slice ao C.length cap) w h (fun i hi => (hc.fit i hi).1) (fun i j hij hj => (hc.lt hij hj).1) hc.most hx)
  obtain ⟨L, hL⟩ : ∃ L, C.length = L := ⟨_, rfl⟩
  have HL := hid hL
  rw [hL] at hcap SE h ⊢
  have HCC := hid hcells
  have HCV := hid hc
  have HDM := hid hd
  have hL2 : 2 ≤ L := by have := hc.two; omega
  have hL48 : L ≤ 48 := by have := hc.most; omega
  unfold frQ at SE ⊢
  clear hL hcells hc hd
  go_enter Tryd.func73, Tryd.ntmps73
  have k0 := (Blk.new w #[.int .i64 x.num, .int .i64 (x.den : Int)] 32).alloc (.cells #[.int .i64 0, .int .i64 0] 32)
  have k1 := Blk.new (w.alloc (.cells #[.int .i64 x.num, .int .i64 (x.den : Int)] 32)) #[.int .i64 0, .int .i64 0] 32
  have b0 := ((Below.refl w.heap.size w).alloc (Nat.le_refl _) (.cells #[.int .i64 x.num, .int .i64 (x.den : Int)] 32)).alloc (by simp) (.cells #[.int .i64 0, .int .i64 0] 32)
  rw [World.size_alloc] at k1
  have c0 := k0.look 0 rfl
  have c1 := k0.look 1 rfl
  go_wp2_with fail
  obtain ⟨w0, hw0⟩ : ∃ w0, (w.alloc (.cells #[.int .i64 x.num, .int .i64 (x.den : Int)] 32)).alloc (.cells #[.int .i64 0, .int .i64 0] 32) = w0 := ⟨_, rfl⟩
  rw [hw0] at k0 k1 b0 ⊢
  clear hw0 c0 c1
  refine (SE.out _ (PsR.below h b0)).mono ?_
  rintro r w1 ⟨⟨⟨i, f, rfl, hf⟩⟩, hb1⟩
  have hfa := found_at HCV.out HDM.out hf
  rw [HL.out] at hfa
  have b1 := b0.trans (hb1.mono b0.size)
  have kx1 := k0.below hb1
  have kr1 := k1.below hb1
  have hg : g < w.heap.size := hk.lt
  have hk1 := CalB.below hk b1
  have hz1 := hz.below b1
  clear hb1 k0 k1 b0 hf
  have hgr : w.heap.size + 1 ≠ g := by omega
  rcases hfa with ⟨rfl, hiL, hat⟩ | ⟨rfl, hi1, hiL, hne, hat⟩
  · obtain ⟨b, off, rfl, hb, e0, e1, e2, e3⟩ := p_cell HCC.out (show i < C.length by rw [HL.out]; exact hiL)
    have hfp := HCV.out.fit i (by rw [HL.out]; exact hiL)
    have HAT := hid hat
    obtain ⟨P, hP⟩ : ∃ P, C.getD i (0, 0) = P := ⟨_, rfl⟩
    rw [hP] at e0 e1 e2 e3 hfp HAT
    have hiL2 : (i : Int) < (L : Int) := by omega
    obtain ⟨n, hn⟩ : ∃ n, P.2.num = n := ⟨_, rfl⟩
    obtain ⟨d, hd⟩ : ∃ n, (P.2.den : Int) = n := ⟨_, rfl⟩
    have x2 := (b1.cell (p := ⟨b, off + i * 4 + 2, none⟩) hb).trans e2
    have x3 := (b1.cell (p := ⟨b, off + i * 4 + 3, none⟩) hb).trans e3
    rw [hn] at x2
    rw [hd] at x3
    have HFP := hid hfp
    have HN := hid hn
    have HD := hid hd
    have q0 := kr1.look 0 rfl
    have q1 := kr1.look 1 rfl
    have f2 := kr1.frozen
    have k24 := (kr1.set 0 (.int .i64 n)).set 1 (.int .i64 d)
    have F1 := hid (Blk.other (Blk.other hk1 (p := ⟨w.heap.size + 1, 0, none⟩) (Ne.symm hgr) (.int .i64 n)) (p := ⟨w.heap.size + 1, 1, none⟩) (Ne.symm hgr) (.int .i64 d))
    have F2 := hid (((CalT.of_below (g := g) b1).setOwn (p := ⟨w.heap.size + 1, 0, none⟩) (by show w.heap.size ≤ w.heap.size + 1; omega) (.int .i64 n)).setOwn (p := ⟨w.heap.size + 1, 1, none⟩) (by show w.heap.size ≤ w.heap.size + 1; omega) (.int .i64 d))
    have r0 : _ = some (Value.int .i64 n) := k24.look 0 rfl
    have r1 : _ = some (Value.int .i64 d) := k24.look 1 rfl
    have R0 := hid r0
    have R1 := hid r1
    clear hn hd hk1 kr1 k24 r0 r1 hat hP e0 e1 e2 e3 hfp
    go_wp2
    refine bodyPost_ret (v := .agg #[.int .i64 n, .int .i64 d]) ?_ rfl ⟨⟨P.2, by unfold frQ; rw [HN.out, HD.out], HFP.out.2, fun _ => HAT.out⟩, ?_, F2.out⟩
    · have r0 := R0.out
      have r1 := R1.out
      simp [results, Tryd.results73, go_sem, r0, r1]
    · rw [HAT.out]
      have : calK ok (some P.2) = ok := by unfold calK; simp
      rw [this]
      exact F1.out
  · obtain ⟨I, hI⟩ : ∃ I : Nat, i = I + 1 := ⟨i - 1, by omega⟩
    have eI : i - 1 = I := by omega
    rw [eI] at hne hat
    have hIL : I < L := by omega
    obtain ⟨b, off, rfl, hb, e0, e1, e2, e3⟩ := p_cell HCC.out (show I < C.length by rw [HL.out]; exact hIL)
    obtain ⟨b', off', he', hb', y0, y1, y2, y3⟩ := p_cell HCC.out (show i < C.length by rw [HL.out]; exact hiL)
    obtain ⟨rfl, rfl⟩ : b = b' ∧ off = off' := by simpa using he'
    have hfp := HCV.out.fit I (by rw [HL.out]; exact hIL)
    have hfq := HCV.out.fit i (by rw [HL.out]; exact hiL)
    obtain ⟨P, hP⟩ : ∃ P, C.getD I (0, 0) = P := ⟨_, rfl⟩
    obtain ⟨Q, hQ⟩ : ∃ P, C.getD i (0, 0) = P := ⟨_, rfl⟩
    rw [hP] at e0 e1 e2 e3 hfp hne hat
    rw [hQ] at y0 y1 y2 y3 hfq hne hat
    have hbg : b ≠ g := calB_ne (off := off + I * 4) hk e1
    have hiL2 : (i : Int) < (L : Int) := by omega
    have hIL2 : (I : Int) < (L : Int) := by omega
    have wI : IntKind.i64.wrap ((i : Int) - 1) = (I : Int) := by rw [IntWalk.i64_left]; unfold wrap64; omega
    -- the operations
    have S1 := hid (fun w hz hk => calc_sub x P.1 hx hfp.1 g ok w hz hk)
    rw [(cop_cal ok (x - P.1)).1, (cop_cal ok (x - P.1)).2] at S1
    have F1 := calV_fits (ok := ok) (o := fitO (x - P.1)) (fun r hr => (fitO_fits hr).1)
    obtain ⟨k1, hk1e⟩ : ∃ o, calK ok (fitO (x - P.1)) = o := ⟨_, rfl⟩
    obtain ⟨v1, hv1e⟩ : ∃ o, calV ok (fitO (x - P.1)) = o := ⟨_, rfl⟩
    rw [hk1e, hv1e] at S1
    rw [hv1e] at F1
    have S2 := hid (fun w hz hk => slope_any P Q hfp hfq hne g k1 w hz hk)
    have F2 := calV_fits (ok := k1) (o := slO P Q) (fun r hr => slO_fits hr)
    obtain ⟨k2, hk2e⟩ : ∃ o, calK k1 (slO P Q) = o := ⟨_, rfl⟩
    obtain ⟨v2, hv2e⟩ : ∃ o, calV k1 (slO P Q) = o := ⟨_, rfl⟩
    rw [hk2e, hv2e] at S2
    rw [hv2e] at F2
    have S3 := hid (fun w hz hk => calc_mul v1 v2 F1 F2 g k2 w hz hk)
    rw [(cop_cal k2 (v1 * v2)).1, (cop_cal k2 (v1 * v2)).2] at S3
    have F3 := calV_fits (ok := k2) (o := fitO (v1 * v2)) (fun r hr => (fitO_fits hr).1)
    obtain ⟨k3, hk3e⟩ : ∃ o, calK k2 (fitO (v1 * v2)) = o := ⟨_, rfl⟩
    obtain ⟨v3, hv3e⟩ : ∃ o, calV k2 (fitO (v1 * v2)) = o := ⟨_, rfl⟩
    rw [hk3e, hv3e] at S3
    rw [hv3e] at F3
    have S4 := hid (fun w hz hk => calc_add P.2 v3 hfp.2 F3 g k3 w hz hk)
    have hfin := seg_cal ok P Q x k1 k2 k3 v1 v2 v3 hk1e.symm hv1e.symm hk2e.symm hv2e.symm hk3e.symm hv3e.symm
    rw [(cop_cal k3 (P.2 + v3)).1, (cop_cal k3 (P.2 + v3)).2, hfin.1, hfin.2] at S4
    have F4 := calV_fits (ok := ok) (o := segO P Q x) (fun r hr => segO_fits hr)
    have hK4 : calK ok (segO P Q x) = true → segO P Q x = some (calV ok (segO P Q x)) := by
      intro hh
      obtain ⟨-, q, h1, h2⟩ := calV_of hh
      rw [h2, h1]
    rw [← hat] at S4 F4 hK4
    obtain ⟨k4, hk4e⟩ : ∃ o, calK ok (atO C x) = o := ⟨_, rfl⟩
    obtain ⟨v4, hv4e⟩ : ∃ o, calV ok (atO C x) = o := ⟨_, rfl⟩
    rw [hk4e, hv4e] at S4
    rw [hk4e, hv4e] at hK4
    rw [hv4e] at F4
    have HK4E := hid hk4e
    have HK4 := hid hK4
    have HF4 := hid F4
    unfold frQ at S1 S2 S3 S4
    unfold ptQ at S2
    clear F1 F2 F3 hfin hk1e hv1e hk2e hv2e hk3e hv3e hk4e hv4e hK4 F4 hat hne hP hQ hfp hfq he' hI eI
    obtain ⟨p1, hp1⟩ : ∃ z, P.1.num = z := ⟨_, rfl⟩
    obtain ⟨p2, hp2⟩ : ∃ z, (P.1.den : Int) = z := ⟨_, rfl⟩
    obtain ⟨p3, hp3⟩ : ∃ z, P.2.num = z := ⟨_, rfl⟩
    obtain ⟨p4, hp4⟩ : ∃ z, (P.2.den : Int) = z := ⟨_, rfl⟩
    obtain ⟨q1, hq1⟩ : ∃ z, Q.1.num = z := ⟨_, rfl⟩
    obtain ⟨q2, hq2⟩ : ∃ z, (Q.1.den : Int) = z := ⟨_, rfl⟩
    obtain ⟨q3, hq3⟩ : ∃ z, Q.2.num = z := ⟨_, rfl⟩
    obtain ⟨q4, hq4⟩ : ∃ z, (Q.2.den : Int) = z := ⟨_, rfl⟩
    rw [hp1, hp2] at S1
    rw [hp1, hp2, hp3, hp4, hq1, hq2, hq3, hq4] at S2
    rw [hp3, hp4] at S4
    rw [hp1] at e0
    rw [hp2] at e1
    rw [hp3] at e2
    rw [hp4] at e3
    rw [hq1] at y0
    rw [hq2] at y1
    rw [hq3] at y2
    rw [hq4] at y3
    clear hp1 hp2 hp3 hp4 hq1 hq2 hq3 hq4
    have x0 := (b1.cell (p := ⟨b, off + I * 4, none⟩) hb).trans e0
    have x1 := (b1.cell (p := ⟨b, off + I * 4 + 1, none⟩) hb).trans e1
    have x2 := (b1.cell (p := ⟨b, off + I * 4 + 2, none⟩) hb).trans e2
    have x3 := (b1.cell (p := ⟨b, off + I * 4 + 3, none⟩) hb).trans e3
    have kpA := Blk.new w1 #[.int .i64 p1, .int .i64 p2, .int .i64 p3, .int .i64 p4] 52
    have ba := alloc_below w1 (.cells #[.int .i64 p1, .int .i64 p2, .int .i64 p3, .int .i64 p4] 52)
    have kxA := kx1.below ba
    have krA := kr1.below ba
    have hkA := CalB.below hk1 ba
    have hzA := hz1.below ba
    have tA := CalT.alloc (CalT.of_below (g := g) b1) (.cells #[.int .i64 p1, .int .i64 p2, .int .i64 p3, .int .i64 p4] 52)
    have c0 := kxA.look 0 rfl
    have c1 := kxA.look 1 rfl
    have c2 := kpA.look 0 rfl
    have c3 := kpA.look 1 rfl
    have hg1 : g < w1.heap.size := hk1.lt
    have KPA := hid kpA
    have KXA := hid kxA
    have KRA := hid krA
    have HKA := hid hkA
    have HZA := hid hzA
    have TA := hid tA
    clear kx1 kr1 hk1 hz1 b1 kpA kxA krA hkA hzA tA ba e0 e1 e2 e3
    go_wp2_with fail
    clear x0 x1 x2 x3 c0 c1 c2 c3
    refine (S1.out _ HZA.out HKA.out).mono ?_
    rintro r w2 ⟨rfl, hk2, ht2⟩
    have t2 := (calT_pre g).trans TA.out ht2
    have kp2 := CalT.blk ht2 KPA.out (by omega)
    have kr2 := CalT.blk ht2 KRA.out (by omega)
    have hz2 := HZA.out.calT HKA.out ht2
    have hs2 : w1.heap.size < w2.heap.size := kp2.lt
    obtain ⟨n1, hn1⟩ : ∃ n, v1.num = n := ⟨_, rfl⟩
    obtain ⟨d1, hd1⟩ : ∃ n, (v1.den : Int) = n := ⟨_, rfl⟩
    rw [hn1, hd1] at S3 ⊢
    clear KPA KXA KRA HKA HZA TA ht2 hn1 hd1
    have kdA := Blk.new w2 #[.int .i64 n1, .int .i64 d1] 32
    have ba := alloc_below w2 (.cells #[.int .i64 n1, .int .i64 d1] 32)
    have kpA := kp2.below ba
    have krA := kr2.below ba
    have hkA := CalB.below hk2 ba
    have hzA := hz2.below ba
    have tA := CalT.alloc t2 (.cells #[.int .i64 n1, .int .i64 d1] 32)
    clear kp2 kr2 hk2 hz2 t2 ba
    go_wp2_with fail
    obtain ⟨W, hW⟩ : ∃ W, w2.alloc (.cells #[.int .i64 n1, .int .i64 d1] 32) = W := ⟨_, rfl⟩
    rw [hW] at kdA kpA krA hkA hzA tA ⊢
    clear hW
    have hd : CalT g W W.drew := CalT.of_below (Below.refl W.heap.size W).drew
    have tx := fun y : SubT (CalT g) W.drew => (calT_pre g).trans hd y.b
    have z0 := fun y : SubT (CalT g) W.drew => (CalT.blk (tx y) kpA (by omega)).look 0 rfl
    have z1 := fun y : SubT (CalT g) W.drew => (CalT.blk (tx y) kpA (by omega)).look 1 rfl
    have z2 := fun y : SubT (CalT g) W.drew => (CalT.blk (tx y) kpA (by omega)).look 2 rfl
    have z3 := fun y : SubT (CalT g) W.drew => (CalT.blk (tx y) kpA (by omega)).look 3 rfl
    have z4 := fun y : SubT (CalT g) W.drew => (CalT.blk (tx y) kdA (by omega)).look 0 rfl
    have z5 := fun y : SubT (CalT g) W.drew => (CalT.blk (tx y) kdA (by omega)).look 1 rfl
    have z6 := fun y : SubT (CalT g) W.drew => (((calT_pre g).trans tA (tx y)).cell (p := ⟨b, off + i * 4, none⟩) hb hbg).trans y0
    have z7 := fun y : SubT (CalT g) W.drew => (((calT_pre g).trans tA (tx y)).cell (p := ⟨b, off + i * 4 + 1, none⟩) hb hbg).trans y1
    have z8 := fun y : SubT (CalT g) W.drew => (((calT_pre g).trans tA (tx y)).cell (p := ⟨b, off + i * 4 + 2, none⟩) hb hbg).trans y2
    have z9 := fun y : SubT (CalT g) W.drew => (((calT_pre g).trans tA (tx y)).cell (p := ⟨b, off + i * 4 + 3, none⟩) hb hbg).trans y3
    clear tx
    refine wp_walkJ (T := CalT g) (calT_pre g) (.rd 0 (.rd 1 (.rd 2 (.rd 3 (.rd 4 (.rd 5 (.rd 6 (.rd 7 (.rd 8 (.rd 9 (.rd 10 (.mv 11 (.mv 12 (.bt 13 (.bt 14 (.inv [])))))))))))))))) (by kernel_rfl) rfl (by kernel_rfl) (by kernel_rfl) ?_
    iterate 11 (refine walkJ_rd rfl (fun K hK => ?_); go_simp; refine hK _ ?_; clear hK K)
    clear z0 z1 z2 z3 z4 z5 z6 z7 z8 z9
    have hkd : CalB W.drew g k1 := CalB.below hkA (Below.refl W.heap.size W).drew
    have hzd := hzA.below (Below.refl W.heap.size W).drew
    (refine walkJ_mv rfl (fun K hK => ?_); go_simp; refine (S2.out _ hzd hkd).mono ?_; rintro e w3 ⟨rfl, hk3, ht3⟩; refine ⟨_, rfl, hK _ _ ht3 ?_⟩; clear hK K)
    have hz3 := hzd.calT hkd ht3
    (refine walkJ_mv rfl (fun K hK => ?_); go_simp; refine (S3.out _ hz3 hk3).mono ?_; rintro e w4 ⟨rfl, hk4, ht4⟩; refine ⟨_, rfl, hK _ _ ht4 ?_⟩; clear hK K)
    have hz4 := hz3.calT hk3 ht4
    (refine walkJ_bt rfl (fun K hK => ?_); go_simp; refine (S4.out _ hz4 hk4).mono ?_; rintro e w5 ⟨rfl, hk5, ht5⟩; refine ⟨_, rfl, hK _ _ ?_⟩; clear hK K)
    have t5 := (calT_pre g).trans hd ((calT_pre g).trans ht3 ((calT_pre g).trans ht4 ht5))
    have kr5 := CalT.blk t5 krA hgr
    have hw5 := (calT_pre g).trans tA t5
    clear hd t5 krA tA kpA kdA hkA hzA hkd hzd ht3 ht4 ht5 hz3 hz4 hk3 hk4
    obtain ⟨n, hn⟩ : ∃ n, v4.num = n := ⟨_, rfl⟩
    obtain ⟨d, hd⟩ : ∃ n, (v4.den : Int) = n := ⟨_, rfl⟩
    rw [hn, hd]
    have HN := hid hn
    have HD := hid hd
    have q0 := kr5.look 0 rfl
    have q1 := kr5.look 1 rfl
    have f2 := kr5.frozen
    have k24 := (kr5.set 0 (.int .i64 n)).set 1 (.int .i64 d)
    have F1 := hid (Blk.other (Blk.other hk5 (p := ⟨w.heap.size + 1, 0, none⟩) (Ne.symm hgr) (.int .i64 n)) (p := ⟨w.heap.size + 1, 1, none⟩) (Ne.symm hgr) (.int .i64 d))
    have F2 := hid ((hw5.setOwn (p := ⟨w.heap.size + 1, 0, none⟩) (by show w.heap.size ≤ w.heap.size + 1; omega) (.int .i64 n)).setOwn (p := ⟨w.heap.size + 1, 1, none⟩) (by show w.heap.size ≤ w.heap.size + 1; omega) (.int .i64 d))
    have r0 : _ = some (Value.int .i64 n) := k24.look 0 rfl
    have r1 : _ = some (Value.int .i64 d) := k24.look 1 rfl
    have R0 := hid r0
    have R1 := hid r1
    clear hn hd hk5 kr5 k24 r0 r1 hw5
    (refine walkJ_bt rfl (fun K hK => ?_); go_simp; refine hK _ _ ?_; clear hK K)
    refine walkJ_nil ?_
    go_wp2
    refine bodyPost_ret (v := .agg #[.int .i64 n, .int .i64 d]) ?_ rfl ⟨⟨v4, by unfold frQ; rw [HN.out, HD.out], HF4.out, fun hh => HK4.out (by rw [← HK4E.out]; exact hh)⟩, by rw [HK4E.out]; exact F1.out, F2.out⟩
    have r0 := R0.out
    have r1 := R1.out
    simp [results, Tryd.results73, go_sem, r0, r1]

end Go.Proofs.YtfkclcoipadhmaaDoor
