/- Walk of trankref04.Greatest. -/
import Derived.Test.YtmknengmjepdaaaYt
import Derived.Test.YtmknengmjepdaaaKx
namespace Go.Proofs.Ytmknengmjepdaaa
open Go.RowKit
attribute [local irreducible] seqS seqST walkV walkJ

theorem order_lim {a b c e : Int} (h : FV a b) (k : FV c e) {u v : Value} {l1 l2 : Nat} {w : World} (hu : QF l1 w u ((a : Rat) / (b : Rat))) (hv : QF l2 w v ((c : Rat) / (e : Rat))) :
    Calls Try.prog 28 #[u, v] w fun x w' => (∃ z : Int, x = .returned (.int .i64 z) ∧ (z ≤ 0 ↔ a * e ≤ c * b)) ∧ Below w.heap.size w w' :=
  (Order_any _ _ _ _ _ hu.rat hv.rat ((qs_fr h).mono (by decide)) ((qs_fr k).mono (by decide))).mono fun _ _ hh => ⟨⟨_, hh.1, sgn_div_le h.1 k.1⟩, hh.2⟩

set_option maxHeartbeats 40000000 in
set_option maxRecDepth 100000 in
theorem rGreatest_any (p : Pat) (n d mn md : Int) (v : Value) (w : World) (h : PatF 0 w v p) :
    Calls Try.prog 59 #[v, .agg #[.int .i64 n, .int .i64 d], .agg #[.int .i64 mn, .int .i64 md]] w fun e w' => (∃ vm, e = .returned (.tuple #[vm, .int .i64 (grE p n d mn md)]) ∧ FrsR w.heap.size w' vm (grL p n d mn md)) ∧ Below w.heap.size w w' := by
  obtain ⟨sv, rfl, hsl⟩ := id h
  obtain ⟨ge, hge⟩ : ∃ g, grE p n d mn md = g := ⟨_, rfl⟩
  obtain ⟨gl, hgl⟩ : ∃ g, grL p n d mn md = g := ⟨_, rfl⟩
  have HGE := hid hge
  have HGL := hid hgl
  rw [hge, hgl]
  clear hge hgl
  go_enter Try.func59, Try.ntmps59
  go_wp2_with fail
  obtain ⟨w0, hw0, k0, k1, k2, hB0, hsz⟩ := three_new w #[.int .i64 p.n, sv] #[.int .i64 n, .int .i64 d] #[.int .i64 mn, .int .i64 md] 24 26 26
  rw [hw0]
  clear hw0
  have h0 := h.below hB0
  obtain ⟨S, hS⟩ : ∃ S, w.heap.size = S := ⟨_, rfl⟩
  rw [hS] at k0 k1 k2 hsz hB0 ⊢
  have hS0 : S ≤ w0.heap.size := by omega
  have HS := hid hS
  clear h hsl hS hsz
  have c0 := k0.look 0 rfl
  have c1 := k0.look 1 rfl
  have c2 := k1.look 0 rfl
  have c3 := k1.look 1 rfl
  go_wp2_with fail
  refine (rLeast_any p n d _ _ h0).mono ?_
  rintro e w1 ⟨⟨vx, rfl, hvx⟩, b1⟩
  have HVX := hid hvx
  have hB := hB0.trans (b1.mono hS0)
  have h1 := h0.below b1
  have k01 := k0.below b1
  have k11 := k1.below b1
  have k21 := k2.below b1
  have hS1 : S ≤ w1.heap.size := Nat.le_trans hS0 b1.size
  clear hvx k0 k1 k2 h0 b1 hB0 c0 c1 c2 c3
  have hB1 := hB
  clear hB
  have c0 := k01.look 0 rfl
  have c1 := k01.look 1 rfl
  have c2 := k11.look 0 rfl
  have c3 := k11.look 1 rfl
  go_wp2_with fail
  refine (Good_any p n d _ _ h1).mono ?_
  rintro e w2 ⟨rfl, b2⟩
  clear c0 c1 c2 c3
  have hB := hB1.trans (b2.mono hS1)
  by_cases hps : PValid p ∧ FSize n d
  case neg =>
    have hbb : (decide (PValid p) && decide (FSize n d)) = false := by rw [← Bool.decide_and]; exact decide_eq_false hps
    rw [hbb]
    have hn : ¬ (PValid p ∧ FSize n d ∧ FMost mn md) := fun hh => hps ⟨hh.1, hh.2.1⟩
    clear hps hbb
    have E1 := hid (HGE.out.symm.trans (gr_two hn).1)
    have E2 := hid (HGL.out.symm.trans (gr_two hn).2)
    clear hn
    go_wp2
    go_ret2
    refine ⟨⟨_, by rw [E1.out]; rfl, ?_⟩, by rw [HS.out]; exact hB⟩
    rw [E2.out]
    exact SlR.nil _ _
  have HP := hid hps.1
  have HF := hid hps.2
  rw [decide_eq_true hps.1, decide_eq_true hps.2, Bool.and_self]
  clear hps
  have h2 := h1.below b2
  have k02 := k01.below b2
  have k12 := k11.below b2
  have k22 := k21.below b2
  have HVX2 := hid (HVX.out.below b2)
  have hS2 : S ≤ w2.heap.size := Nat.le_trans hS1 b2.size
  clear k01 k11 k21 h1 b2 hB1 hS1 HVX
  have hB2 := hB
  clear hB
  have c0 := k22.look 0 rfl
  have c1 := k22.look 1 rfl
  go_wp2_with fail
  refine (Most_any mn md _).mono ?_
  rintro e w3 ⟨rfl, b3⟩
  clear c0 c1
  have hB := hB2.trans (b3.mono hS2)
  by_cases hm : FMost mn md
  case neg =>
    rw [decide_eq_false hm]
    have hn : ¬ (PValid p ∧ FSize n d ∧ FMost mn md) := fun hh => hm hh.2.2
    clear hm
    have E1 := hid (HGE.out.symm.trans (gr_two hn).1)
    have E2 := hid (HGL.out.symm.trans (gr_two hn).2)
    clear hn
    go_wp2
    go_ret2
    refine ⟨⟨_, by rw [E1.out]; rfl, ?_⟩, by rw [HS.out]; exact hB⟩
    rw [E2.out]
    exact SlR.nil _ _
  rw [decide_eq_true hm]
  have HM := hid hm
  have hn : PValid p ∧ FSize n d ∧ FMost mn md := ⟨HP.out, HF.out, hm⟩
  have HN := hid hn
  have h3 := h2.below b3
  have k03 := k02.below b3
  have k13 := k12.below b3
  have k23 := k22.below b3
  have HVX3 := hid (HVX2.out.below b3)
  have hS3 : S ≤ w3.heap.size := Nat.le_trans hS2 b3.size
  clear k02 k12 k22 h2 b3 hB2 hS2 hm hn HVX2
  rw [leastE_of HP.out HF.out]
  cases hbad : chBad p n d with
  | true =>
    rw [if_pos rfl]
    have E1 := hid (HGE.out.symm.trans (gr_ten HN.out hbad).1)
    have E2 := hid (HGL.out.symm.trans (gr_ten HN.out hbad).2)
    clear hbad
    go_wp2
    go_ret2
    refine ⟨⟨_, by rw [E1.out]; rfl, ?_⟩, by rw [HS.out]; exact hB⟩
    rw [E2.out]
    exact SlR.nil _ _
  | false =>
  rw [if_neg (by decide)]
  have HBAD := hid hbad
  have hlist : rLeastL p n d = leastL p n d := by unfold rLeastL; rw [leastE_of HP.out HF.out, hbad]; rfl
  have hvx := HVX3.out
  rw [hlist] at hvx
  have HAS := hid (least_asg HP.out HF.out hbad)
  have HB3 := hid hB
  clear hlist hbad HVX3
  obtain ⟨N, hNN⟩ : ∃ N : Nat, p.n = N := ⟨p.n.toNat, by have := HP.out.1; omega⟩
  have hN1 : 1 ≤ N := by have := HP.out.1; omega
  have hN16 : N ≤ 16 := by have := HP.out.2.1; omega
  have hpn : p.n.toNat = N := by rw [hNN, Int.toNat_natCast]
  have HPN := hid hpn
  rw [hNN] at k03 h3 ⊢
  have hll : (leastL p n d).length = N := by have := HAS.out.1; omega
  have HLL := hid hll
  clear hNN hB
  obtain ⟨ax, cx, rfl, hcx, hmx, hlx⟩ := hvx
  unfold maxLen at hmx
  rw [hll] at hcx ⊢
  have HLX := hid hlx
  clear hlx hll hpn
  go_wp2_with fail
  go_loopw [42] (fun x wr => ∃ i : Nat, x = .int .i64 i ∧ i ≤ N ∧ (∀ j, j < i → ¬ mn * d < chainM p n d j 0 * md) ∧ Below w3.heap.size w3 wr) (fun x _ => N - (intOf x).toNat)
  case atStart => exact ⟨0, rfl, Nat.zero_le _, fun j hj => by omega, Below.refl _ _⟩
  case round =>
    obtain ⟨i, rfl, hi, hall, hbel⟩ := hrel
    have HALL := hid hall
    clear hall
    by_cases hiN : i < N
    · have hiN2 : (i : Int) < (N : Int) := by omega
      obtain ⟨bx, offx, rfl, hbx, y0, y1⟩ := fr_cell HLX.out (show i < (leastL p n d).length by rw [HLL.out]; exact hiN)
      rw [least_getD (by rw [HPN.out]; exact hiN)] at y0 y1
      have hfv := (fv_at HAS.out (i := i) (by rw [HPN.out]; exact hiN)).2
      rw [least_getD (by rw [HPN.out]; exact hiN)] at hfv
      have HSI := hid (short_iff HP.out HF.out HBAD.out HM.out (v := i) (by rw [HPN.out]; exact hiN))
      generalize (leastF p n d i).1 = na at y0 hfv HSI
      generalize (leastF p n d i).2 = da at y1 hfv HSI
      have HFV := hid hfv
      have x0 := (hbel.cell (p := ⟨bx, offx + i * 2, none⟩) hbx).trans y0
      have x1 := (hbel.cell (p := ⟨bx, offx + i * 2 + 1, none⟩) hbx).trans y1
      clear hfv y0 y1
      go_wp2_with fail
      have kb := Blk.new wr #[.int .i64 na, .int .i64 da] 26
      have hbA := alloc_below wr (.cells #[.int .i64 na, .int .i64 da] 26)
      obtain ⟨W, hw2⟩ : ∃ w2, wr.alloc (.cells #[.int .i64 na, .int .i64 da] 26) = w2 := ⟨_, rfl⟩
      rw [hw2] at kb hbA ⊢
      clear hw2 x0 x1
      have hbelW := hbel.trans (hbA.mono hbel.size)
      have k2W := k23.below hbelW
      clear hbA
      have hd := (Below.refl W.heap.size W).drew
      have z0 := fun x : SubT (Below W.heap.size) W.drew => (kb.below (hd.trans x.b)).look 0 rfl
      have z1 := fun x : SubT (Below W.heap.size) W.drew => (kb.below (hd.trans x.b)).look 1 rfl
      have z2 := fun x : SubT (Below W.heap.size) W.drew => (k2W.below (hd.trans x.b)).look 0 rfl
      have z3 := fun x : SubT (Below W.heap.size) W.drew => (k2W.below (hd.trans x.b)).look 1 rfl
      refine wp_walkJ (T := Below (W.heap.size)) (belowV_pre _) (.rd 0 (.rd 2 (.mv 1 (.bt 3 (.bt 4 (.rd 5 (.inv []))))))) (by kernel_rfl) rfl (by kernel_rfl) (by kernel_rfl) ?_
      iterate 2 (refine walkJ_rd rfl (fun K hK => ?_); go_simp; refine hK _ ?_; clear hK K)
      clear z0 z1 z2 z3
      (refine walkJ_mv rfl (fun K hK => ?_); go_simp; refine (of_fr HFV.out _).mono ?_; rintro e w12 ⟨q1, rfl, hq1, hb1⟩; refine ⟨_, rfl, hK _ _ hb1 ?_⟩; clear hK K)
      (refine walkJ_bt rfl (fun K hK => ?_); go_simp; refine (of_fr HM.out.1 _).mono ?_; rintro e w13 ⟨q2, rfl, hq2, hb2⟩; refine ⟨_, rfl, hK _ _ ?_⟩; clear hK K)
      (refine walkJ_bt rfl (fun K hK => ?_); go_simp; refine (order_lim HFV.out HM.out.1 (hq1.below hb2) hq2).mono ?_; rintro e w14 ⟨⟨z, rfl, hz⟩, hb3⟩; refine ⟨_, rfl, hK _ _ ?_⟩; clear hK K)
      have hb12 := hb1.trans (hb2.mono hb1.size)
      have hb13 := hb12.trans (hb3.mono hb12.size)
      have hb14 : Below W.heap.size W w14 := hd.trans hb13
      have hbel14 := hbelW.trans (hb14.mono hbelW.size)
      have hB := HB3.out.trans (hbel14.mono hS3)
      have HZI := hid (hz.trans HSI.out)
      clear hb12 hb13 hb1 hb2 hb3 hd hz hq1 hq2
      by_cases hz0 : z ≤ 0
      · have hz1 : ¬ 0 < z := by omega
        iterate 1 (refine walkJ_rd rfl (fun K hK => ?_); go_simp; refine hK _ ?_; clear hK K)
        refine walkJ_nil ?_
        go_wp2
        refine ⟨⟨i + 1, by go_num, by omega, fun j hj => ?_, hbel14⟩, by simp [intOf]; omega⟩
        by_cases hji : j = i
        · subst hji
          exact Int.not_lt.2 (HZI.out.1 hz0)
        · exact Int.not_lt.2 (HALL.out j (by omega))
      · have hz1 : 0 < z := by omega
        have hsh : grShort p n d mn md = true := by
          unfold grShort
          rw [List.any_eq_true]
          refine ⟨i, List.mem_range.2 (by rw [HPN.out]; exact hiN), decide_eq_true ?_⟩
          apply Decidable.byContradiction
          intro hn
          exact hz0 (HZI.out.2 (Int.not_lt.1 hn))
        have E1 := hid (HGE.out.symm.trans (gr_eleven HN.out HBAD.out hsh).1)
        have E2 := hid (HGL.out.symm.trans (gr_eleven HN.out HBAD.out hsh).2)
        clear hsh
        iterate 1 (refine walkJ_rd rfl (fun K hK => ?_); go_simp; refine hK _ ?_; clear hK K)
        refine walkJ_nil ?_
        go_wp2
        go_ret2
        refine ⟨⟨_, by rw [E1.out]; rfl, ?_⟩, by rw [HS.out]; exact hB⟩
        rw [E2.out]
        exact SlR.nil _ _
    · obtain rfl : N = i := by omega
      have hiN2 : ¬ (N : Int) < (N : Int) := by omega
      have hsh : grShort p n d mn md = false := by
        unfold grShort
        rw [List.any_eq_false]
        intro j hj
        rw [List.mem_range, HPN.out] at hj
        simpa using HALL.out j hj
      have HSH := hid hsh
      clear hsh HALL HLX hcx hmx
      have hS4 : S ≤ wr.heap.size := Nat.le_trans hS3 hbel.size
      have hB4 := HB3.out.trans (hbel.mono hS3)
      have k04 := k03.below hbel
      have k14 := k13.below hbel
      have k24 := k23.below hbel
      have h4 := h3.below hbel
      clear hbel k03 k13 k23 h3 HB3 hS3
      have c0 := k04.look 0 rfl
      have c1 := k04.look 1 rfl
      have c2 := k14.look 0 rfl
      have c3 := k14.look 1 rfl
      go_wp2_with fail
      refine (chains_any p n d _ _ h4 HP.out HF.out).mono ?_
      rintro e w5 ⟨⟨vm, ok, rfl, hok⟩, b5⟩
      rcases hok with ⟨-, -, a, ha1, ha2⟩ | ⟨rfl, -, hmat⟩
      · have := chBad_false.1 HBAD.out a ha1
        omega
      rw [HPN.out] at hmat
      obtain ⟨mo, mb, rfl, -, -, hmo, hmr⟩ := hmat
      have HMO := hid hmo
      have HMR := hid hmr
      have hB5 := hB4.trans (b5.mono hS4)
      have k05 := k04.below b5
      have k15 := k14.below b5
      have k25 := k24.below b5
      have hS5 : S ≤ w5.heap.size := Nat.le_trans hS4 b5.size
      clear c0 c1 c2 c3 k04 k14 k24 h4 b5 hB4 hmo hmr
      go_wp2_with fail
      have kb := Blk.new w5 #[.int .i64 0, .int .i64 1] 26
      have hbA := alloc_below w5 (.cells #[.int .i64 0, .int .i64 1] 26)
      obtain ⟨W, hw2⟩ : ∃ w2, w5.alloc (.cells #[.int .i64 0, .int .i64 1] 26) = w2 := ⟨_, rfl⟩
      rw [hw2] at kb hbA ⊢
      clear hw2
      have HZ := hid (grF_zero HP.out HF.out HM.out HBAD.out HSH.out)
      have ho1 := owns_one2 kb (Nat.le_refl _)
      obtain ⟨B0, hB0⟩ : ∃ B, w5.heap.size = B := ⟨_, rfl⟩
      have HB5 := hid hB5
      have HB0 := hid hB0
      rw [hB0] at ho1 hbA hS5 ⊢
      clear kb hB5 hB0
      go_wp2_with fail
      go_loopw [14, 15] (fun y x wr => ∃ i : Nat, x = .int .i64 i ∧ 1 ≤ i ∧ i ≤ N ∧ (∀ j, j < i → newE (grZ p n d mn md j N) (d * md) = 0) ∧ wr.ownsRow B0 26 2 y i (frCells ((List.range i).map (grF p n d mn md))) ∧ Below B0 w5 wr) (fun _ x _ => N - (intOf x).toNat)
      case atStart =>
        refine ⟨1, rfl, Nat.le_refl _, hN1, fun j hj => ?_, ?_, hbA⟩
        · obtain rfl : j = 0 := by omega
          rw [← HPN.out]
          exact HZ.out.2
        · have e : frCells ((List.range 1).map (grF p n d mn md)) = [.int .i64 0, .int .i64 1] := by
            show frCells [grF p n d mn md 0] = _
            rw [HZ.out.1]
            rfl
          rw [e]
          exact ho1
      case round =>
        obtain ⟨i, rfl, hi1, hi, hall, ho, hbel⟩ := hrel
        have HALL := hid hall
        have HO := hid ho
        have hBr := HB5.out.trans (hbel.mono hS5)
        have hk0 := k05.below' hbel (by rw [← HB0.out]; exact k05.lt)
        have hk1 := k15.below' hbel (by rw [← HB0.out]; exact k15.lt)
        have hk2 := k25.below' hbel (by rw [← HB0.out]; exact k25.lt)
        have hlt0 : B0 ≤ wr.heap.size := by have := hbel.size; have := HB0.out; omega
        clear hall ho ho1 hbA
        by_cases hiN : i < N
        · have hiN2 : (i : Int) < (N : Int) := by omega
          have c0 := hk0.look 0 rfl
          have c1 := hk2.look 0 rfl
          have c2 := hk2.look 1 rfl
          go_wp2_with fail
          refine (of_fr HM.out.1 _).mono ?_
          rintro e w6 ⟨v6, rfl, hq6, hb6⟩
          obtain ⟨y1, n1, e1, y2, n2, e2, hv6⟩ := q_shape hq6
          generalize decide (((mn : Rat) / (md : Rat)).num < 0) = b6 at hv6
          subst hv6
          clear c0 c1 c2
          have kE := Blk.new w6 #[.bool b6, .slice y1 n1 e1, .slice y2 n2 e2] 43
          have ba := alloc_below w6 (.cells #[.bool b6, .slice y1 n1 e1, .slice y2 n2 e2] 43)
          have c0 := ((hk0.below hb6).below ba).look 0 rfl
          go_wp2_with fail
          obtain ⟨W6, hW6⟩ : ∃ W, w6.alloc (.cells #[.bool b6, .slice y1 n1 e1, .slice y2 n2 e2] 43) = W := ⟨_, rfl⟩
          obtain ⟨H6, hH6⟩ : ∃ H, w6.heap.size = H := ⟨_, rfl⟩
          have BX := RBox.fresh (hq6.mono (Nat.zero_le _)) hH6 hW6
          have hlt6 : wr.heap.size ≤ H6 := by rw [← hH6]; exact hb6.size
          have hb6' : Below wr.heap.size wr W6 := by rw [← hW6]; exact hb6.trans (ba.mono hb6.size)
          have ba' : Below H6 W6 W6 := Below.refl _ _
          rw [hW6, hH6]
          have HI6 := hid (Nat.le_trans hlt0 hlt6)
          have kn0 := hk0.below hb6'
          have kn1 := hk1.below hb6'
          have kn2 := hk2.below hb6'
          have HO6 := hid (owns_below HO.out hb6')
          have hbel6 := hbel.trans (hb6'.mono hlt0)
          have hB6 := hBr.trans (hb6'.mono (Nat.le_trans hS5 hlt0))
          have hl1 : S + 1 < H6 := by have := hk1.lt; omega
          have hl2 : S + 1 + 1 < H6 := by have := hk2.lt; omega
          have hHW : H6 ≤ W6.heap.size := Nat.le_of_lt BX.k.lt
          clear kE ba c0 hW6 hH6 hq6 hb6 hk0 hk1 hk2 HO6 hbel hBr
          go_loopw [71] (fun x wr => ∃ a : Nat, x = .int .i64 a ∧ a ≤ N ∧ (∃ b x1 g1 l1 x2 g2 l2, Hid (RBox wr H6 (grQ p n d mn md i a) b x1 g1 l1 x2 g2 l2)) ∧ Below H6 W6 wr) (fun x _ => N - (intOf x).toNat)
          case atStart => exact ⟨0, rfl, Nat.zero_le _, ⟨_, _, _, _, _, _, _, hid (by rw [grQ_zero i HF.out.1.1 HM.out.1.1]; exact BX)⟩, ba'⟩
          case round =>
            obtain ⟨a, rfl, ha, ⟨b, x1, g1, l1, x2, g2, l2, BXr⟩, hbel3⟩ := hrel
            have hA := hbel6.trans (hbel3.mono HI6.out)
            have hk1 := kn1.below' hbel3 hl1
            have hk2 := kn2.below' hbel3 hl2
            clear BX
            by_cases haN : a < N
            · have haN2 : (a : Int) < (N : Int) := by omega
              obtain ⟨m, hm⟩ : ∃ m, chainM p n d a i = m := ⟨_, rfl⟩
              have hko := HMO.out.below' hA (by rw [← HB0.out]; exact HMO.out.lt)
              have hka := (HMR.out a haN).below' hA (by rw [← HB0.out]; exact (HMR.out a haN).lt)
              have m0 := hko.look a (outArr_get haN haN)
              have m1 := (hka.look i (rowArr_get hiN)).trans (congrArg (fun y => some (Value.int .i64 y)) hm)
              by_cases h1 : m = NONE
              · have hn1 : m = -1152921504606846976 := h1
                rw [hn1] at m1
                have HQ := hid (grQ_none (mn := mn) (md := md) (hm.trans h1))
                clear h1 hn1 hm
                go_wp2_with fail
                exact ⟨⟨a + 1, by go_num, by omega, ⟨_, _, _, _, _, _, _, hid (by rw [HQ.out]; exact BXr.out)⟩, hbel3⟩, by simp [intOf]; omega⟩
              · have hn1 : ¬ m = -1152921504606846976 := h1
                have hc0 : chainM p n d a i ≠ NONE := by rw [hm]; exact h1
                have hcb := chain_small HP.out HF.out HBAD.out (i := i) (j := a) (by rw [HPN.out]; exact haN) (by rw [HPN.out]; exact hiN) hc0
                have hgb := grC_bd HP.out HF.out HM.out HBAD.out (i := i) (j := a) (by rw [HPN.out]; exact haN) (by rw [HPN.out]; exact hiN) hc0
                have hzb := grZ_bd HP.out HF.out HM.out HBAD.out (i := i) (k := a) (by rw [HPN.out]; exact hiN) (by rw [HPN.out]; exact ha)
                have hmb := most_bd HF.out HM.out
                have hst := grQ_step (mn := mn) (md := md) hmb.2.2.1 hc0
                have hcr := grC_rat (mn := mn) (i := i) (j := a) (p := p) (n := n) HF.out.1.1 HM.out.1.1
                have hs1 : QS 4 (grQ p n d mn md i a) := gr_qs hzb hmb.2.2
                have hs2 := gr_qs hgb hmb.2.2
                rw [hm] at hcb hcr
                obtain ⟨zq, hzq⟩ : ∃ q, grQ p n d mn md i a = q := ⟨_, rfl⟩
                obtain ⟨yq, hyq⟩ : ∃ q, (grC p n d mn md i a : Rat) / ((d * md : Int) : Rat) = q := ⟨_, rfl⟩
                have HST := hid hst
                rw [hzq, hyq] at HST
                rw [hzq] at BXr hs1
                rw [hyq] at hs2 hcr
                have SZ := hid hs1
                have SY := hid hs2
                have SM := hid ((int_size (z := m) (by omega) (by omega)).mono (k' := 268435456) (by decide))
                have SD := hid ((int_size (z := d) (by have := HF.out.1.1; omega) (by have := HF.out.2.2.1; omega)).mono (k' := 268435456) (by decide))
                have SMD := hid ((QS_of (n := m) (d := d) (by omega) (by omega) (by have := HF.out.1.1; omega) (by have := HF.out.2.2.1; omega) (by have := HF.out.1.1; omega)).mono (k' := 268435456) (by decide))
                have HMB := hid (show -9223372036854775808 ≤ m ∧ m ≤ 9223372036854775807 by omega)
                have HDB := hid (show -9223372036854775808 ≤ d ∧ d ≤ 9223372036854775807 by have := HF.out.1.1; have := HF.out.2.2.1; omega)
                have HD0 := hid (rat_pos HF.out.1.1)
                clear hst hzq hyq hs1 hs2 hcb hgb hzb hmb hc0 h1
                have c1 := hk2.look 0 rfl
                have c2 := hk2.look 1 rfl
                go_wp2_with fail
                refine (of_fr HM.out.1 _).mono ?_
                rintro e w7 ⟨v7, rfl, hq7, hb7⟩
                obtain ⟨y1, n1, e1, y2, n2, e2, hv7⟩ := q_shape hq7
                generalize decide (((mn : Rat) / (md : Rat)).num < 0) = b7 at hv7
                subst hv7
                clear c1 c2 m0 m1
                have hHr : H6 ≤ wr.heap.size := Nat.le_trans hHW hbel3.size
                have hbel7 := hbel3.trans (hb7.mono hHr)
                have hk17 := hk1.below hb7
                have hko7 := hko.below hb7
                have hka7 := hka.below hb7
                have BX7 := hid (BXr.out.below hb7)
                have hH7 : H6 ≤ w7.heap.size := Nat.le_trans hHr hb7.size
                have BF7 := RBox.fresh (hq7.mono (Nat.zero_le _)) rfl (rfl : w7.alloc (.cells #[.bool b7, .slice y1 n1 e1, .slice y2 n2 e2] 43) = _)
                have ba := alloc_below w7 (.cells #[.bool b7, .slice y1 n1 e1, .slice y2 n2 e2] 43)
                have hk18 := hk17.below ba
                have hko8 := hko7.below ba
                have hka8 := hka7.below ba
                have BX8 := hid (BX7.out.below ba)
                have hbel8 := hbel7.trans (ba.mono hH7)
                have hlo : mo < w7.heap.size := hko7.lt
                have hla : mb + a < w7.heap.size := hka7.lt
                have hll1 : S + 1 < w7.heap.size := hk17.lt
                have hHS : H6 < w7.heap.size := BX7.out.k.lt
                clear hko hka hko7 hka7 hk17 BX7 hbel7 hq7
                by_cases ha0 : a = 0
                · have ha02 : (a : Int) = 0 := by omega
                  go_wp2_with fail
                  refine (Int_any 0 _ (by decide) (by decide)).mono ?_
                  rintro e w8 ⟨v8, rfl, hq8, hb8⟩
                  obtain ⟨u1, r1, s1, u2, r2, s2, hv8⟩ := q_shape hq8
                  generalize decide ((((0 : Int) : Rat)).num < 0) = b8 at hv8
                  subst hv8
                  have BF9 := BF7.below hb8
                  have ff := BF9.k.frozen
                  have f0 := BF9.k.look 0 rfl
                  have f1 := BF9.k.look 1 rfl
                  have f2 := BF9.k.look 2 rfl
                  have kF9 := BF9.k
                  have hBF8 := hid (BF9.put (hq8.mono (Nat.zero_le _)))
                  have hBX8 := hid ((BX8.out.below hb8).keep (b' := b8) (y1 := u1) (n1 := r1) (e1 := s1) (y2 := u2) (n2 := r2) (e2 := s2) kF9 (Nat.ne_of_lt hHS))
                  have bS : Below w7.heap.size w8 (((w8.setCell ⟨w7.heap.size, 0, none⟩ (.bool b8)).setCell ⟨w7.heap.size, 1, none⟩ (.slice u1 r1 s1)).setCell ⟨w7.heap.size, 2, none⟩ (.slice u2 r2 s2)) := (((Below.refl w7.heap.size w8).setCell (p := ⟨w7.heap.size, 0, none⟩) (Nat.le_refl _) (.bool b8)).setCell (p := ⟨w7.heap.size, 1, none⟩) (Nat.le_refl _) (.slice u1 r1 s1)).setCell (p := ⟨w7.heap.size, 2, none⟩) (Nat.le_refl _) (.slice u2 r2 s2)
                  have hk19 := (hk18.below hb8).below' bS hll1
                  have hko9 := (hko8.below hb8).below' bS hlo
                  have hka9 := (hka8.below hb8).below' bS hla
                  have hbel9 := (hbel8.trans (hb8.mono (Nat.le_trans hHW hbel8.size))).trans (bS.mono hH7)
                  have hfq : ((0 : Int) : Rat) - (m : Rat) / (d : Rat) = yq := by
                    rw [if_pos ha0] at hcr
                    exact hcr
                  have HFQ := hid hfq
                  have SF := hid ((int_size (z := 0) (by decide) (by decide)).mono (k' := 268435456) (by decide))
                  clear hcr hfq BF7 ba hk18 hko8 hka8 BX8 hbel8 hb8 BF9 kF9 hq8
                  go_wp2_with fail
                  clear ff f0 f1 f2
                  obtain ⟨W8, hW8⟩ : ∃ W8, (((w8.setCell ⟨w7.heap.size, 0, none⟩ (.bool b8)).setCell ⟨w7.heap.size, 1, none⟩ (.slice u1 r1 s1)).setCell ⟨w7.heap.size, 2, none⟩ (.slice u2 r2 s2)) = W8 := ⟨_, rfl⟩
                  rw [hW8] at hBF8 hBX8 bS hk19 hko9 hka9 hbel9 ⊢
                  have BF8 := hBF8
                  have BX8 := hBX8
                  have hbel8 := hbel9
                  have hk18 := hk19
                  have HZ3 : Hid (∀ W', Below W8.heap.size W8 W' → W'.cell? ⟨mo, 0, none⟩ = some (.slice (some ⟨mb, 0, none⟩) N N)) := hid (fun W' hb => by
                    have := (hko9.below hb).look a (outArr_get haN haN)
                    rw [ha0] at this
                    simpa using this)
                  have HZ4 : Hid (∀ W', Below W8.heap.size W8 W' → W'.cell? ⟨mb, i, none⟩ = some (.int .i64 m)) := hid (fun W' hb => by
                    have := ((hka9.below hb).look i (rowArr_get hiN)).trans (congrArg (fun y => some (Value.int .i64 y)) hm)
                    rw [ha0] at this
                    simpa using this)
                  have hN0 : 0 < N := by omega
                  clear hBF8 hBX8 hW8 bS hk19 hko9 hka9 hbel9
                  obtain ⟨H7, hH7e⟩ : ∃ H, w7.heap.size = H := ⟨_, rfl⟩
                  rw [hH7e] at BF8 ⊢
                  have HH7 := hid (show H6 ≤ H7 by omega)
                  have hd := (Below.refl W8.heap.size W8).drew
                  have z0 := fun x : SubT (Below W8.heap.size) W8.drew => (BF8.out.k.below (hd.trans x.b)).look 0 rfl
                  have z1 := fun x : SubT (Below W8.heap.size) W8.drew => (BF8.out.k.below (hd.trans x.b)).look 1 rfl
                  have z2 := fun x : SubT (Below W8.heap.size) W8.drew => (BF8.out.k.below (hd.trans x.b)).look 2 rfl
                  have z3 := fun x : SubT (Below W8.heap.size) W8.drew => HZ3.out x.w (hd.trans x.b)
                  have z4 := fun x : SubT (Below W8.heap.size) W8.drew => HZ4.out x.w (hd.trans x.b)
                  have z5 := fun x : SubT (Below W8.heap.size) W8.drew => (hk18.below (hd.trans x.b)).look 1 rfl
                  refine wp_walkJ (T := Below (W8.heap.size)) (belowV_pre _) (.rd 0 (.rd 1 (.rd 2 (.rd 3 (.rd 4 (.rd 5 (.rd 6 (.rd 7 (.rd 9 (.rd 10 (.inv [8, 11, 12, 13, 14, 15]))))))))))) (by kernel_rfl) rfl (by kernel_rfl) (by kernel_rfl) ?_
                  iterate 10 (refine walkJ_rd rfl (fun K hK => ?_); go_simp; refine hK _ ?_; clear hK K)
                  clear z0 z1 z2 z3 z4 z5
                  obtain ⟨W1, hW1⟩ : ∃ W1, W8.drew = W1 := ⟨_, rfl⟩
                  have hs9 : W8.heap.size = W1.heap.size := by rw [← hW1]; rfl
                  rw [hW1] at hd ⊢
                  clear hW1
                  have HS9 := hid hs9
                  clear hs9 hH7e
                  refine walkJ_inv (GrI W8.heap.size W8 m d yq) [(8, 95), (11, 98), (12, 99), (13, 100), (14, 19)] (by kernel_rfl) ?_ ?_ ?_
                  · exact ⟨hd, fun h => (by cases h), fun h => (by cases h), fun h => (by cases h), fun h => (by cases h), fun h => (by cases h)⟩
                  · refine stepsI_cons [] [11, 12, 13, 15] [] rfl (by kernel_rfl) (by kernel_rfl) (by kernel_rfl) (fun K l V x hx hl hds hn hI hK => ?_) ?_
                    · go_simp
                      have hsx : W8.heap.size ≤ x.heap.size := by rw [HS9.out]; exact hx.size
                      refine (Int_any m _ HMB.out.1 HMB.out.2).mono ?_
                      rintro e w9 ⟨v9, rfl, hq9, hb9⟩
                      refine ⟨_, rfl, hK _ _ (hb9.mono hsx) ?_⟩
                      have hI' := hI.below hb9 hsx
                      exact ⟨hI'.b, fun _ => hq9.mono (Nat.zero_le _), fun h => hI'.i11 h, fun h => hI'.i12 h, fun h => hI'.i13 h, fun h => hI'.i14 h⟩
                    refine stepsI_cons [8] [12, 13, 15] [(8, 95)] rfl (by kernel_rfl) (by kernel_rfl) (by kernel_rfl) (fun K l V x hx hl hds hn hI hK => ?_) ?_
                    · go_simp
                      have hsx : W8.heap.size ≤ x.heap.size := by rw [HS9.out]; exact hx.size
                      refine (Int_any d _ HDB.out.1 HDB.out.2).mono ?_
                      rintro e w9 ⟨v9, rfl, hq9, hb9⟩
                      refine ⟨_, rfl, hK _ _ (hb9.mono hsx) ?_⟩
                      have hI' := hI.below hb9 hsx
                      exact ⟨hI'.b, fun h => hI'.i8 h, fun _ => hq9.mono (Nat.zero_le _), fun h => hI'.i12 h, fun h => hI'.i13 h, fun h => hI'.i14 h⟩
                    refine stepsI_cons [8, 11] [13, 15] [(8, 95), (11, 98)] rfl (by kernel_rfl) (by kernel_rfl) (by kernel_rfl) (fun K l V x hx hl hds hn hI hK => ?_) ?_
                    · simp only [putsP]
                      go_simp
                      have hsx : W8.heap.size ≤ x.heap.size := by rw [HS9.out]; exact hx.size
                      refine (Over_any _ _ _ _ _ (hI.i8 hl.1).rat (hI.i11 hl.2.1).rat SM.out SD.out HD0.out).mono ?_
                      rintro e w9 ⟨v9, rfl, hq9, hb9⟩
                      refine ⟨_, rfl, hK _ _ (hb9.mono hsx) ?_⟩
                      have hI' := hI.below hb9 hsx
                      exact ⟨hI'.b, fun h => hI'.i8 h, fun h => hI'.i11 h, fun _ => hq9.mono (Nat.zero_le _), fun h => hI'.i13 h, fun h => hI'.i14 h⟩
                    refine stepsI_cons [8, 11, 12] [15] [(8, 95), (11, 98), (12, 99)] rfl (by kernel_rfl) (by kernel_rfl) (by kernel_rfl) (fun K l V x hx hl hds hn hI hK => ?_) ?_
                    · simp only [putsP]
                      go_simp
                      have hsx : W8.heap.size ≤ x.heap.size := by rw [HS9.out]; exact hx.size
                      refine (Less_any _ _ _ _ _ (BF8.out.qf.below hI.b).rat (hI.i12 hl.2.2.1).rat SF.out SMD.out).mono ?_
                      rintro e w9 ⟨v9, rfl, hq9, hb9⟩
                      rw [HFQ.out] at hq9
                      refine ⟨_, rfl, hK _ _ (hb9.mono hsx) ?_⟩
                      have hI' := hI.below hb9 hsx
                      exact ⟨hI'.b, fun h => hI'.i8 h, fun h => hI'.i11 h, fun h => hI'.i12 h, fun _ => hq9.mono (Nat.zero_le _), fun h => hI'.i14 h⟩
                    refine stepsI_cons [] [15] [] rfl (by kernel_rfl) (by kernel_rfl) (by kernel_rfl) (fun K l V x hx hl hds hn hI hK => ?_) ?_
                    · go_simp
                      have hsx : W8.heap.size ≤ x.heap.size := by rw [HS9.out]; exact hx.size
                      have hb9 := alloc_below x (.cells #[.bool false, .slice none 0 0, .slice none 0 0] 43)
                      refine hK _ _ (hb9.mono hsx) ?_
                      have hI' := hI.below hb9 hsx
                      exact ⟨hI'.b, fun h => hI'.i8 h, fun h => hI'.i11 h, fun h => hI'.i12 h, fun h => hI'.i13 h, fun _ => ⟨x.heap.size, false, none, 0, 0, none, 0, 0, rfl, hsx, Blk.new x _ _, fun h => by
                        have h2 : l 15 = true := h
                        rw [hds.1] at h2
                        cases h2⟩⟩
                    refine stepsI_cons [8, 11, 12, 13, 14] [] [(8, 95), (11, 98), (12, 99), (13, 100), (14, 19)] rfl (by kernel_rfl) (by kernel_rfl) (by kernel_rfl) (fun K l V x hx hl hds hn hI hK => ?_) ?_
                    · obtain ⟨g, b0, f1, p1, q1, f2, p2, q2, e14, hg, kg, -⟩ := hI.i14 hl.2.2.2.2.1
                      have h13 := hI.i13 hl.2.2.2.1
                      obtain ⟨y1', n1', e1', y2', n2', e2', hv13⟩ := q_shape h13
                      have hb9 := row_below (Below.refl W8.heap.size x) hg #[.bool (decide (yq.num < 0)), .slice y1' n1' e1', .slice y2' n2' e2']
                      refine ⟨rfl, gives_store_row 43 (.tmp 19) (.tmp 100) rfl g _ e14 hv13 43 _ kg pinfoQ rfl (by simp [Value.oneCell']) (hK _ _ hb9 ?_)⟩
                      refine ⟨hI.b.trans hb9, fun h => q_row (hI.i8 h) kg _, fun h => q_row (hI.i11 h) kg _, fun h => q_row (hI.i12 h) kg _, fun h => q_row (hI.i13 h) kg _, fun _ => ⟨g, _, _, _, _, _, _, _, e14, hg, row_blk kg, fun _ => ?_⟩⟩
                      have := q_row h13 kg #[.bool (decide (yq.num < 0)), .slice y1' n1' e1', .slice y2' n2' e2']
                      rw [hv13] at this
                      exact this
                    exact stepsI_nil
                  intro V W2 hW2 hI
                  obtain ⟨g, b9, f1, p1, q1, f2, p2, q2, e14, hg, kg, hqf⟩ := hI.i14 rfl
                  have hq9 := hqf rfl
                  have hb2 := hI.b
                  clear hI hqf
                  simp only [putsP, e14]
                  generalize V 8 = v8
                  generalize V 11 = v11
                  generalize V 12 = v12
                  generalize V 13 = v13
                  go_simp
                  clear e14
                  have BX2 := hid (BX8.out.below hb2)
                  have hbel2 := hbel8.trans (hb2.mono (Nat.le_trans hHW hbel8.size))
                  have hH2 : H6 ≤ W2.heap.size := Nat.le_trans hHW hbel2.size
                  have z0 := kg.look 0 rfl
                  have z1 := kg.look 1 rfl
                  have z2 := kg.look 2 rfl
                  have z3 := BX2.out.k.look 0 rfl
                  have z4 := BX2.out.k.look 1 rfl
                  have z5 := BX2.out.k.look 2 rfl
                  clear BF8 BX8 hb2 HZ3 HZ4 hk18 hbel8 hd hW2
                  go_wp2_with fail
                  refine (Order_any _ _ _ _ _ hq9.rat BX2.out.qf.rat (SY.out.mono (by decide)) (SZ.out.mono (by decide))).mono ?_
                  rintro e w9 ⟨rfl, hb9⟩
                  have kg3 := kg.below hb9
                  have hq3 := hq9.below hb9
                  have BX3 := hid (BX2.out.below hb9)
                  have hbel9 := hbel2.trans (hb9.mono hH2)
                  obtain ⟨sg, hsg⟩ : ∃ z, sgnQ (yq - zq) = z := ⟨_, rfl⟩
                  rw [hsg] at HST ⊢
                  clear z0 z1 z2 z3 z4 z5 hsg hb9 BX2 kg hq9 hbel2
                  have z0 := kg3.look 0 rfl
                  have z1 := kg3.look 1 rfl
                  have z2 := kg3.look 2 rfl
                  by_cases hlt : sg < 0
                  · have f3 := BX3.out.k.frozen
                    have z3 := BX3.out.k.look 0 rfl
                    have z4 := BX3.out.k.look 1 rfl
                    have z5 := BX3.out.k.look 2 rfl
                    have HN := hid (HST.out.1 hlt)
                    have CP := hid (BX3.out.put hq3)
                    have bS := ((hbel9.setCell (p := ⟨H6, 0, none⟩) (by show H6 ≤ H6; omega) (.bool b9)).setCell (p := ⟨H6, 1, none⟩) (by show H6 ≤ H6; omega) (.slice f1 p1 q1)).setCell (p := ⟨H6, 2, none⟩) (by show H6 ≤ H6; omega) (.slice f2 p2 q2)
                    clear HST
                    go_wp2
                    go_roundw
                    case rel => exact ⟨a + 1, by go_num, by omega, ⟨_, _, _, _, _, _, _, hid (by rw [HN.out]; exact CP.out)⟩, bS⟩
                    case measure => simp [intOf]; omega
                  · have HN := hid (HST.out.2 (by omega))
                    clear HST
                    go_wp2
                    go_roundw
                    case rel => exact ⟨a + 1, by go_num, by omega, ⟨_, _, _, _, _, _, _, hid (by rw [HN.out]; exact BX3.out)⟩, hbel9⟩
                    case measure => simp [intOf]; omega
                · have ha02 : ¬ (a : Int) = 0 := by omega
                  have hfq : (mn : Rat) / (md : Rat) - (m : Rat) / (d : Rat) = yq := by
                    rw [if_neg ha0] at hcr
                    exact hcr
                  have HFQ := hid hfq
                  have SF := hid ((qs_fr HM.out.1).mono (k' := 268435456) (by decide))
                  clear hcr hfq
                  go_wp2_with fail
                  obtain ⟨W8, hW8⟩ : ∃ W8, w7.alloc (.cells #[.bool b7, .slice y1 n1 e1, .slice y2 n2 e2] 43) = W8 := ⟨_, rfl⟩
                  rw [hW8] at BF7 hk18 hko8 hka8 BX8 hbel8 ⊢
                  have BF8 := hid BF7
                  have HZ3 : Hid (∀ W', Below W8.heap.size W8 W' → W'.cell? ⟨mo, a, none⟩ = some (.slice (some ⟨mb + a, 0, none⟩) N N)) := hid (fun W' hb => (hko8.below hb).look a (outArr_get haN haN))
                  have HZ4 : Hid (∀ W', Below W8.heap.size W8 W' → W'.cell? ⟨mb + a, i, none⟩ = some (.int .i64 m)) := hid (fun W' hb => ((hka8.below hb).look i (rowArr_get hiN)).trans (congrArg (fun y => some (Value.int .i64 y)) hm))
                  clear hW8 ba BF7 hko8 hka8
                  obtain ⟨H7, hH7e⟩ : ∃ H, w7.heap.size = H := ⟨_, rfl⟩
                  rw [hH7e] at BF8 ⊢
                  have HH7 := hid (show H6 ≤ H7 by omega)
                  have hd := (Below.refl W8.heap.size W8).drew
                  have z0 := fun x : SubT (Below W8.heap.size) W8.drew => (BF8.out.k.below (hd.trans x.b)).look 0 rfl
                  have z1 := fun x : SubT (Below W8.heap.size) W8.drew => (BF8.out.k.below (hd.trans x.b)).look 1 rfl
                  have z2 := fun x : SubT (Below W8.heap.size) W8.drew => (BF8.out.k.below (hd.trans x.b)).look 2 rfl
                  have z3 := fun x : SubT (Below W8.heap.size) W8.drew => HZ3.out x.w (hd.trans x.b)
                  have z4 := fun x : SubT (Below W8.heap.size) W8.drew => HZ4.out x.w (hd.trans x.b)
                  have z5 := fun x : SubT (Below W8.heap.size) W8.drew => (hk18.below (hd.trans x.b)).look 1 rfl
                  refine wp_walkJ (T := Below (W8.heap.size)) (belowV_pre _) (.rd 0 (.rd 1 (.rd 2 (.rd 3 (.rd 4 (.rd 5 (.rd 6 (.rd 7 (.rd 9 (.rd 10 (.inv [8, 11, 12, 13, 14, 15]))))))))))) (by kernel_rfl) rfl (by kernel_rfl) (by kernel_rfl) ?_
                  iterate 10 (refine walkJ_rd rfl (fun K hK => ?_); go_simp; refine hK _ ?_; clear hK K)
                  clear z0 z1 z2 z3 z4 z5
                  obtain ⟨W1, hW1⟩ : ∃ W1, W8.drew = W1 := ⟨_, rfl⟩
                  have hs9 : W8.heap.size = W1.heap.size := by rw [← hW1]; rfl
                  rw [hW1] at hd ⊢
                  clear hW1
                  have HS9 := hid hs9
                  clear hs9 hH7e
                  refine walkJ_inv (GrI W8.heap.size W8 m d yq) [(8, 95), (11, 98), (12, 99), (13, 100), (14, 19)] (by kernel_rfl) ?_ ?_ ?_
                  · exact ⟨hd, fun h => (by cases h), fun h => (by cases h), fun h => (by cases h), fun h => (by cases h), fun h => (by cases h)⟩
                  · refine stepsI_cons [] [11, 12, 13, 15] [] rfl (by kernel_rfl) (by kernel_rfl) (by kernel_rfl) (fun K l V x hx hl hds hn hI hK => ?_) ?_
                    · go_simp
                      have hsx : W8.heap.size ≤ x.heap.size := by rw [HS9.out]; exact hx.size
                      refine (Int_any m _ HMB.out.1 HMB.out.2).mono ?_
                      rintro e w9 ⟨v9, rfl, hq9, hb9⟩
                      refine ⟨_, rfl, hK _ _ (hb9.mono hsx) ?_⟩
                      have hI' := hI.below hb9 hsx
                      exact ⟨hI'.b, fun _ => hq9.mono (Nat.zero_le _), fun h => hI'.i11 h, fun h => hI'.i12 h, fun h => hI'.i13 h, fun h => hI'.i14 h⟩
                    refine stepsI_cons [8] [12, 13, 15] [(8, 95)] rfl (by kernel_rfl) (by kernel_rfl) (by kernel_rfl) (fun K l V x hx hl hds hn hI hK => ?_) ?_
                    · go_simp
                      have hsx : W8.heap.size ≤ x.heap.size := by rw [HS9.out]; exact hx.size
                      refine (Int_any d _ HDB.out.1 HDB.out.2).mono ?_
                      rintro e w9 ⟨v9, rfl, hq9, hb9⟩
                      refine ⟨_, rfl, hK _ _ (hb9.mono hsx) ?_⟩
                      have hI' := hI.below hb9 hsx
                      exact ⟨hI'.b, fun h => hI'.i8 h, fun _ => hq9.mono (Nat.zero_le _), fun h => hI'.i12 h, fun h => hI'.i13 h, fun h => hI'.i14 h⟩
                    refine stepsI_cons [8, 11] [13, 15] [(8, 95), (11, 98)] rfl (by kernel_rfl) (by kernel_rfl) (by kernel_rfl) (fun K l V x hx hl hds hn hI hK => ?_) ?_
                    · simp only [putsP]
                      go_simp
                      have hsx : W8.heap.size ≤ x.heap.size := by rw [HS9.out]; exact hx.size
                      refine (Over_any _ _ _ _ _ (hI.i8 hl.1).rat (hI.i11 hl.2.1).rat SM.out SD.out HD0.out).mono ?_
                      rintro e w9 ⟨v9, rfl, hq9, hb9⟩
                      refine ⟨_, rfl, hK _ _ (hb9.mono hsx) ?_⟩
                      have hI' := hI.below hb9 hsx
                      exact ⟨hI'.b, fun h => hI'.i8 h, fun h => hI'.i11 h, fun _ => hq9.mono (Nat.zero_le _), fun h => hI'.i13 h, fun h => hI'.i14 h⟩
                    refine stepsI_cons [8, 11, 12] [15] [(8, 95), (11, 98), (12, 99)] rfl (by kernel_rfl) (by kernel_rfl) (by kernel_rfl) (fun K l V x hx hl hds hn hI hK => ?_) ?_
                    · simp only [putsP]
                      go_simp
                      have hsx : W8.heap.size ≤ x.heap.size := by rw [HS9.out]; exact hx.size
                      refine (Less_any _ _ _ _ _ (BF8.out.qf.below hI.b).rat (hI.i12 hl.2.2.1).rat SF.out SMD.out).mono ?_
                      rintro e w9 ⟨v9, rfl, hq9, hb9⟩
                      rw [HFQ.out] at hq9
                      refine ⟨_, rfl, hK _ _ (hb9.mono hsx) ?_⟩
                      have hI' := hI.below hb9 hsx
                      exact ⟨hI'.b, fun h => hI'.i8 h, fun h => hI'.i11 h, fun h => hI'.i12 h, fun _ => hq9.mono (Nat.zero_le _), fun h => hI'.i14 h⟩
                    refine stepsI_cons [] [15] [] rfl (by kernel_rfl) (by kernel_rfl) (by kernel_rfl) (fun K l V x hx hl hds hn hI hK => ?_) ?_
                    · go_simp
                      have hsx : W8.heap.size ≤ x.heap.size := by rw [HS9.out]; exact hx.size
                      have hb9 := alloc_below x (.cells #[.bool false, .slice none 0 0, .slice none 0 0] 43)
                      refine hK _ _ (hb9.mono hsx) ?_
                      have hI' := hI.below hb9 hsx
                      exact ⟨hI'.b, fun h => hI'.i8 h, fun h => hI'.i11 h, fun h => hI'.i12 h, fun h => hI'.i13 h, fun _ => ⟨x.heap.size, false, none, 0, 0, none, 0, 0, rfl, hsx, Blk.new x _ _, fun h => by
                        have h2 : l 15 = true := h
                        rw [hds.1] at h2
                        cases h2⟩⟩
                    refine stepsI_cons [8, 11, 12, 13, 14] [] [(8, 95), (11, 98), (12, 99), (13, 100), (14, 19)] rfl (by kernel_rfl) (by kernel_rfl) (by kernel_rfl) (fun K l V x hx hl hds hn hI hK => ?_) ?_
                    · obtain ⟨g, b0, f1, p1, q1, f2, p2, q2, e14, hg, kg, -⟩ := hI.i14 hl.2.2.2.2.1
                      have h13 := hI.i13 hl.2.2.2.1
                      obtain ⟨y1', n1', e1', y2', n2', e2', hv13⟩ := q_shape h13
                      have hb9 := row_below (Below.refl W8.heap.size x) hg #[.bool (decide (yq.num < 0)), .slice y1' n1' e1', .slice y2' n2' e2']
                      refine ⟨rfl, gives_store_row 43 (.tmp 19) (.tmp 100) rfl g _ e14 hv13 43 _ kg pinfoQ rfl (by simp [Value.oneCell']) (hK _ _ hb9 ?_)⟩
                      refine ⟨hI.b.trans hb9, fun h => q_row (hI.i8 h) kg _, fun h => q_row (hI.i11 h) kg _, fun h => q_row (hI.i12 h) kg _, fun h => q_row (hI.i13 h) kg _, fun _ => ⟨g, _, _, _, _, _, _, _, e14, hg, row_blk kg, fun _ => ?_⟩⟩
                      have := q_row h13 kg #[.bool (decide (yq.num < 0)), .slice y1' n1' e1', .slice y2' n2' e2']
                      rw [hv13] at this
                      exact this
                    exact stepsI_nil
                  intro V W2 hW2 hI
                  obtain ⟨g, b9, f1, p1, q1, f2, p2, q2, e14, hg, kg, hqf⟩ := hI.i14 rfl
                  have hq9 := hqf rfl
                  have hb2 := hI.b
                  clear hI hqf
                  simp only [putsP, e14]
                  generalize V 8 = v8
                  generalize V 11 = v11
                  generalize V 12 = v12
                  generalize V 13 = v13
                  go_simp
                  clear e14
                  have BX2 := hid (BX8.out.below hb2)
                  have hbel2 := hbel8.trans (hb2.mono (Nat.le_trans hHW hbel8.size))
                  have hH2 : H6 ≤ W2.heap.size := Nat.le_trans hHW hbel2.size
                  have z0 := kg.look 0 rfl
                  have z1 := kg.look 1 rfl
                  have z2 := kg.look 2 rfl
                  have z3 := BX2.out.k.look 0 rfl
                  have z4 := BX2.out.k.look 1 rfl
                  have z5 := BX2.out.k.look 2 rfl
                  clear BF8 BX8 hb2 HZ3 HZ4 hk18 hbel8 hd hW2
                  go_wp2_with fail
                  refine (Order_any _ _ _ _ _ hq9.rat BX2.out.qf.rat (SY.out.mono (by decide)) (SZ.out.mono (by decide))).mono ?_
                  rintro e w9 ⟨rfl, hb9⟩
                  have kg3 := kg.below hb9
                  have hq3 := hq9.below hb9
                  have BX3 := hid (BX2.out.below hb9)
                  have hbel9 := hbel2.trans (hb9.mono hH2)
                  obtain ⟨sg, hsg⟩ : ∃ z, sgnQ (yq - zq) = z := ⟨_, rfl⟩
                  rw [hsg] at HST ⊢
                  clear z0 z1 z2 z3 z4 z5 hsg hb9 BX2 kg hq9 hbel2
                  have z0 := kg3.look 0 rfl
                  have z1 := kg3.look 1 rfl
                  have z2 := kg3.look 2 rfl
                  by_cases hlt : sg < 0
                  · have f3 := BX3.out.k.frozen
                    have z3 := BX3.out.k.look 0 rfl
                    have z4 := BX3.out.k.look 1 rfl
                    have z5 := BX3.out.k.look 2 rfl
                    have HN := hid (HST.out.1 hlt)
                    have CP := hid (BX3.out.put hq3)
                    have bS := ((hbel9.setCell (p := ⟨H6, 0, none⟩) (by show H6 ≤ H6; omega) (.bool b9)).setCell (p := ⟨H6, 1, none⟩) (by show H6 ≤ H6; omega) (.slice f1 p1 q1)).setCell (p := ⟨H6, 2, none⟩) (by show H6 ≤ H6; omega) (.slice f2 p2 q2)
                    clear HST
                    go_wp2
                    go_roundw
                    case rel => exact ⟨a + 1, by go_num, by omega, ⟨_, _, _, _, _, _, _, hid (by rw [HN.out]; exact CP.out)⟩, bS⟩
                    case measure => simp [intOf]; omega
                  · have HN := hid (HST.out.2 (by omega))
                    clear HST
                    go_wp2
                    go_roundw
                    case rel => exact ⟨a + 1, by go_num, by omega, ⟨_, _, _, _, _, _, _, hid (by rw [HN.out]; exact BX3.out)⟩, hbel9⟩
                    case measure => simp [intOf]; omega
            · obtain rfl : N = a := by omega
              have haN2 : ¬ (N : Int) < (N : Int) := by omega
              have hmb := most_bd HF.out HM.out
              have hgf := grF_fit (p := p) (n := n) (mn := mn) (i := i) hmb.2.2.1
              have hge := grE_fit (p := p) (n := n) (mn := mn) (i := i) hmb.2.2.1
              rw [HPN.out] at hgf hge
              obtain ⟨zq, hzq⟩ : ∃ q, grQ p n d mn md i N = q := ⟨_, rfl⟩
              rw [hzq] at BXr hgf hge
              have hHr : H6 ≤ wr.heap.size := Nat.le_trans hHW hbel3.size
              have hBW := hB6.trans (hbel3.mono (by omega))
              have hO := owns_below HO.out (hb6'.trans (hbel3.mono hlt6))
              have z3 := BXr.out.k.look 0 rfl
              have z4 := BXr.out.k.look 1 rfl
              have z5 := BXr.out.k.look 2 rfl
              have HGF := hid hgf
              have HGE2 := hid hge
              clear hgf hge hzq hmb
              go_wp2_with fail
              by_cases hf : fits zq
              · refine (Frac_yes zq _ _ BXr.out.qf.rat hf).mono ?_
                rintro e w7 ⟨rfl, hb7⟩
                have hgf2 : grF p n d mn md i = (zq.num, (zq.den : Int)) := by
                  rw [HGF.out]
                  unfold fitN fitD
                  rw [if_pos hf, if_pos hf]
                have hge2 : newE (grZ p n d mn md i N) (d * md) = 0 := by rw [HGE2.out, if_pos hf]
                obtain ⟨A, hAA⟩ : ∃ z, zq.num = z := ⟨_, rfl⟩
                obtain ⟨D, hDD⟩ : ∃ z, (zq.den : Int) = z := ⟨_, rfl⟩
                rw [hAA, hDD] at hgf2 ⊢
                have HG2 := hid hgf2
                have HE2 := hid hge2
                unfold frV
                have kA := Blk.new w7 #[.int .i64 A, .int .i64 D] 26
                have ba := alloc_below w7 (.cells #[.int .i64 A, .int .i64 D] 26)
                have hO7 := owns_below (owns_below hO hb7) ba
                have hBA : B0 ≤ w7.heap.size := Nat.le_trans (Nat.le_trans HI6.out hHr) hb7.size
                have hbelA := (hA.trans (hb7.mono (Nat.le_trans HI6.out hHr))).trans (ba.mono hBA)
                have c0 := kA.look 0 rfl
                have c1 := kA.look 1 rfl
                clear z3 z4 z5 hf hgf2 hge2 hAA hDD hO hb7 HO
                go_wp2_with (first
                  | (at_builtin; refine wpList_appH rfl (.tmp 114) (.tmp 116) _ rfl B0 26 (frV 0 0) 2 16 Try.underlying27 infoFrac rfl (by decide) 26 _ _ _ rfl hO7 [.int .i64 A, .int .i64 D] (w7.heap.size + 1) (by simp) rfl rfl (by simp [Value.oneCell']) (by unfold maxLen; omega) (by omega) (by simp; omega) ?_; intro g5 gcap w5 ho5 hb5 _ _ _))
                have hsn : frCells ((List.range (i + 1)).map (grF p n d mn md)) = frCells ((List.range i).map (grF p n d mn md)) ++ [.int .i64 A, .int .i64 D] := by
                  rw [List.range_succ, List.map_append, frCells_append]
                  show _ ++ frCells [grF p n d mn md i] = _
                  rw [HG2.out]
                  rfl
                refine ⟨⟨i + 1, by go_num, by omega, by omega, fun j hj => ?_, ?_, hbelA.trans hb5⟩, by simp [intOf]; omega⟩
                · by_cases hji : j = i
                  · subst hji
                    exact HE2.out
                  · exact HALL.out j (by omega)
                · rw [hsn]
                  exact ho5
              · refine (Frac_no zq _ _ BXr.out.qf.rat hf).mono ?_
                rintro e w7 ⟨rfl, hb7⟩
                have hge2 : newE (grZ p n d mn md i N) (d * md) = 5 := by rw [HGE2.out, if_neg hf]
                have hw : grWide p n d mn md = true := by
                  unfold grWide
                  rw [List.any_eq_true]
                  exact ⟨i, List.mem_range.2 (by rw [HPN.out]; exact hiN), by rw [HPN.out, hge2]; decide⟩
                have E1 := hid (HGE.out.symm.trans (gr_five HN.out HBAD.out HSH.out hw).1)
                have E2 := hid (HGL.out.symm.trans (gr_five HN.out HBAD.out HSH.out hw).2)
                have hSw : S ≤ wr.heap.size := by omega
                have hB := (hBW.trans (hb7.mono hSw)).alloc (Nat.le_trans hSw hb7.size) (.cells #[.int .i64 0, .int .i64 0] 26)
                clear hw hge2 z3 z4 z5 hO
                unfold frV
                go_wp2
                go_ret2
                refine ⟨⟨_, by rw [E1.out]; rfl, ?_⟩, by rw [HS.out]; exact hB⟩
                rw [E2.out]
                exact SlR.nil _ _
        · obtain rfl : N = i := by omega
          have hiN2 : ¬ (N : Int) < (N : Int) := by omega
          have hw : grWide p n d mn md = false := by
            unfold grWide
            rw [List.any_eq_false]
            intro j hj
            rw [List.mem_range, HPN.out] at hj
            rw [HPN.out, HALL.out j hj]
            decide
          have E1 := hid (HGE.out.symm.trans (gr_ok HN.out HBAD.out HSH.out hw).1)
          have E2 := hid (HGL.out.symm.trans (gr_ok HN.out HBAD.out HSH.out hw).2)
          have c0 := hk0.look 0 rfl
          clear hw
          go_wp2
          go_ret2
          refine ⟨⟨_, by rw [E1.out]; rfl, ?_⟩, by rw [HS.out]; exact hBr⟩
          rw [E2.out, HPN.out, HS.out]
          show SlR _ _ _ ((List.range N).map (grF p n d mn md)).length _
          rw [List.length_map, List.length_range]
          exact (SlR.of_owns HO.out).mono hS5

end Go.Proofs.Ytmknengmjepdaaa
