/- Walk of trankref04.Fits. -/
import Derived.Test.YtmknengmjepdaaaYb
import Derived.Test.YtmknengmjepdaaaJx
namespace Go.Proofs.Ytmknengmjepdaaa
open Go.RowKit
attribute [local irreducible] seqS seqST walkV walkJ

theorem of_fr {n d : Int} (h : FV n d) (w : World) : Calls Try.prog 29 #[.agg #[.int .i64 n, .int .i64 d]] w fun e w' => ∃ v', e = .returned v' ∧ QF w.heap.size w' v' ((n : Rat) / (d : Rat)) ∧ Below w.heap.size w w' :=
  Of_any n d w (by have := h.2.2.1; omega) (by have := h.2.2.2.1; omega) (by have := h.1; omega) (by have := h.2.1; omega) (by have := h.1; omega)
theorem qs_fr {n d : Int} (h : FV n d) : QS 4 ((n : Rat) / (d : Rat)) :=
  QS_of (by have := h.2.2.1; omega) (by have := h.2.2.2.1; omega) (by have := h.1; omega) (by have := h.2.1; omega) (by have := h.1; omega)
theorem sgn_neg (q : Rat) : sgnQ q < 0 ↔ q < 0 := by
  unfold sgnQ
  constructor
  · intro h
    split at h
    · assumption
    · split at h <;> omega
  · intro h
    rw [if_pos h]
    decide
theorem sgn_npos (q : Rat) : sgnQ q ≤ 0 ↔ q ≤ 0 := by
  unfold sgnQ
  by_cases h1 : q < 0
  · rw [if_pos h1]; exact ⟨fun _ => by grind, fun _ => by decide⟩
  · rw [if_neg h1]
    by_cases h2 : q = 0
    · rw [if_pos h2]; exact ⟨fun _ => by grind, fun _ => by decide⟩
    · rw [if_neg h2]; exact ⟨fun h => absurd h (by decide), fun h => by grind⟩
theorem fit_sgn {na da nb db y d : Int} (h1 : 1 ≤ da) (h2 : 1 ≤ db) (h3 : 1 ≤ d) : sgnQ ((na : Rat) / (da : Rat) - (nb : Rat) / (db : Rat) - (y : Rat) / (d : Rat)) < 0 ↔ ¬ (y * (da * db) ≤ (na * db - nb * da) * d) := by
  have hm : 1 ≤ da * db := by have := Int.mul_pos (show 0 < da by omega) (show 0 < db by omega); omega
  have e : (na : Rat) / (da : Rat) - (nb : Rat) / (db : Rat) = ((na * db - nb * da : Int) : Rat) / ((da * db : Int) : Rat) := by
    have a1 : (da : Rat) ≠ 0 := by have : (0 : Rat) < (da : Rat) := Rat.intCast_pos.2 (by omega); grind
    have a2 : (db : Rat) ≠ 0 := by have : (0 : Rat) < (db : Rat) := Rat.intCast_pos.2 (by omega); grind
    push_cast
    grind
  rw [e]
  have k := sgn_div_le (a := y) (b := d) (c := na * db - nb * da) (e := da * db) h3 hm
  rw [← k, sgn_neg, sgn_npos]
  constructor <;> intro h <;> grind

set_option maxHeartbeats 4000000 in
set_option maxRecDepth 100000 in
theorem rFits_any (p : Pat) (n d : Int) (l : List (Int × Int)) (v vx : Value) (w : World) (h : PatF 0 w v p) (hx : FrsR 0 w vx l) (hp : PValid p) (hs : FSize n d) (ha : AsgP p l) :
    Calls Try.prog 68 #[v, .agg #[.int .i64 n, .int .i64 d], vx] w fun e w' => e = .returned (.bool (ftB p n d l)) ∧ Below w.heap.size w w' := by
  obtain ⟨sv, rfl, -⟩ := id h
  obtain ⟨ax, cx, rfl, hcx, hmx, hlx⟩ := hx
  unfold maxLen at hmx
  have HLX := hid hlx
  have HP := hid hp
  have HF := hid hs
  have HA := hid ha
  have HOK := hid (fit_ok ⟨hp, hs, ha⟩).2
  obtain ⟨bb, hbb⟩ : ∃ b, ftB p n d l = b := ⟨_, rfl⟩
  rw [hbb] at HOK ⊢
  obtain ⟨N, hN⟩ : ∃ N : Nat, p.n = N := ⟨p.n.toNat, by have := hp.1; omega⟩
  have hN1 : 1 ≤ N := by have := hp.1; omega
  have hN16 : N ≤ 16 := by have := hp.2.1; omega
  have HN := hid hN
  have hlN : l.length = N := by have := ha.1; omega
  obtain ⟨bx, offx, rfl, hbx, x0, x1⟩ := fr_cell HLX.out (show 0 < l.length by omega)
  have hgw : ∀ (i : Nat) (W : World), i < N → Below w.heap.size w W → W.cell? ⟨bx, offx + i * 2, none⟩ = some (.int .i64 (l.getD i (0, 0)).1) ∧ W.cell? ⟨bx, offx + i * 2 + 1, none⟩ = some (.int .i64 (l.getD i (0, 0)).2) := by
    intro i W hi hb
    obtain ⟨bx', offx', he, hb', y0, y1⟩ := fr_cell HLX.out (show i < l.length by omega)
    cases he
    exact ⟨(hb.cell (p := ⟨bx, offx + i * 2, none⟩) hb').trans y0, (hb.cell (p := ⟨bx, offx + i * 2 + 1, none⟩) hb').trans y1⟩
  have HGW := hid hgw
  rw [hlN] at hcx ⊢
  obtain ⟨n0, hn0⟩ : ∃ z, (l.getD 0 (0, 0)).1 = z := ⟨_, rfl⟩
  rw [hn0] at HOK
  have HN0 := hid hn0
  clear hlx hp hs ha hbb hN hlN x0 x1 hgw hn0
  have q0 := (HGW.out 0 _ (by omega) (Below.refl _ _)).1
  rw [Nat.zero_mul, Nat.add_zero, HN0.out] at q0
  have h0N : (0 : Int) < (N : Int) := by omega
  clear HN0
  by_cases hz : n0 = 0
  case neg =>
    have HR := hid (show bb = false by rw [HOK.out, decide_eq_false hz]; rfl)
    go_enter Try.func68, Try.ntmps68
    go_wp2
    go_ret
    exact ⟨by rw [HR.out]; rfl, (alloc_below w _).alloc (by simp) _⟩
  subst hz
  have HOK2 := hid (show bb = (ext p).all (okR n d l) by rw [HOK.out, decide_eq_true rfl]; rfl)
  clear HOK
  go_enter Try.func68, Try.ntmps68
  go_wp2_with fail
  obtain ⟨w0, hw0, k0, k1, hB, hsz⟩ := one_new w #[.int .i64 p.n, sv] #[.int .i64 n, .int .i64 d] 24 26
  rw [hw0]
  clear hw0 q0 h0N
  have hpv := HP.out
  refine (All4_any p _ _ (h.below hB) hpv.1 hpv.2.1 hpv.2.2.1).mono ?_
  rintro e w1 ⟨v1, v2, rfl, hv1, -, hb1⟩
  clear hpv
  obtain ⟨a1, c1, rfl, h1c, h1m, h1l⟩ := hv1
  unfold maxLen at h1m
  have H1L := hid h1l
  obtain ⟨M, hM⟩ : ∃ M, (ext p).length = M := ⟨_, rfl⟩
  have HM := hid hM
  rw [hM] at h1c ⊢
  have hM80 : M ≤ 80 := by rw [← hM, ext_len]; have := HP.out.2.2.1; have := HP.out.2.1; omega
  have k11 := k1.below hb1
  have hB1 : Below w.heap.size w w1 := hB.trans (hb1.mono hB.size)
  have hS1 := k11.lt
  clear k0 k1 hb1 h1l hM hB
  go_wp2_with fail
  go_loopw [23] (fun x wr => ∃ i : Nat, x = .int .i64 i ∧ i ≤ M ∧ (∀ r ∈ (ext p).take i, okR n d l r = true) ∧ Below w1.heap.size w1 wr) (fun x _ => M - (intOf x).toNat)
  case atStart => exact ⟨0, rfl, Nat.zero_le _, by simp, Below.refl _ _⟩
  case round =>
    obtain ⟨i, rfl, hi, hall, hbel⟩ := hrel
    have HALL := hid hall
    clear hall
    by_cases hiM : i < M
    · have hiM2 : (i : Int) < (M : Int) := by omega
      obtain ⟨r, hr⟩ := ex_rule (l := ext p) (i := i) (by rw [HM.out]; exact hiM)
      have hrv := ext_rv HP.out.1 HP.out.2.2.2 r (rule_mem hr)
      obtain ⟨b, off, rfl, hb, d0, d1, d2, d3⟩ := ru_cell H1L.out hr
      have e0 := (hbel.cell (p := ⟨b, off + i * 4, none⟩) hb).trans d0
      have e1 := (hbel.cell (p := ⟨b, off + i * 4 + 1, none⟩) hb).trans d1
      have e2 := (hbel.cell (p := ⟨b, off + i * 4 + 2, none⟩) hb).trans d2
      have e3 := (hbel.cell (p := ⟨b, off + i * 4 + 3, none⟩) hb).trans d3
      have WGT := hid (fun w => Weight_any p.n r n d w hrv HF.out)
      obtain ⟨A, hA⟩ : ∃ A : Nat, r.a = A := ⟨r.a.toNat, by have := hrv.1; omega⟩
      obtain ⟨C, hC⟩ : ∃ A : Nat, r.b = A := ⟨r.b.toNat, by have := hrv.2.2.1; omega⟩
      have hAN : A < N := by have := hrv.2.1; have := HN.out; omega
      have hCN : C < N := by have := hrv.2.2.2.1; have := HN.out; omega
      obtain ⟨-, fA⟩ := fv_at HA.out (i := A) (by rw [HN.out, Int.toNat_natCast]; exact hAN)
      obtain ⟨-, fC⟩ := fv_at HA.out (i := C) (by rw [HN.out, Int.toNat_natCast]; exact hCN)
      have hok : okR n d l r = decide (wt r n d * ((l.getD A (0, 0)).2 * (l.getD C (0, 0)).2) ≤ ((l.getD A (0, 0)).1 * (l.getD C (0, 0)).2 - (l.getD C (0, 0)).1 * (l.getD A (0, 0)).2) * d) := by
        unfold okR
        rw [hA, hC, Int.toNat_natCast, Int.toNat_natCast]
      have hyb := wt_le hrv HF.out
      have hgA := fun W hb => HGW.out A W hAN hb
      have hgC := fun W hb => HGW.out C W hCN hb
      obtain ⟨na, hna⟩ : ∃ z, (l.getD A (0, 0)).1 = z := ⟨_, rfl⟩
      obtain ⟨da, hda⟩ : ∃ z, (l.getD A (0, 0)).2 = z := ⟨_, rfl⟩
      obtain ⟨nb, hnb⟩ : ∃ z, (l.getD C (0, 0)).1 = z := ⟨_, rfl⟩
      obtain ⟨db, hdb⟩ : ∃ z, (l.getD C (0, 0)).2 = z := ⟨_, rfl⟩
      rw [hna, hda] at fA hgA
      rw [hnb, hdb] at fC hgC
      rw [hna, hda, hnb, hdb] at hok
      obtain ⟨rc, hrc⟩ : ∃ z, r.c = z := ⟨_, rfl⟩
      obtain ⟨rd, hrd⟩ : ∃ z, r.d = z := ⟨_, rfl⟩
      obtain ⟨y, hy⟩ : ∃ z, wt r n d = z := ⟨_, rfl⟩
      rw [hy] at hok hyb WGT
      have hnf := new_fv (z := y) (d := d) (by have := HF.out.1.1; omega) (by have := HF.out.1.2.1; omega) (by omega) (by omega)
      have hsgn := fit_sgn (na := na) (nb := nb) (y := y) (show 1 ≤ da from fA.1) (show 1 ≤ db from fC.1) (show 1 ≤ d from HF.out.1.1)
      rw [← hnf.2] at hsgn
      have fW := hnf.1
      obtain ⟨wn, hwn⟩ : ∃ z, newN y d = z := ⟨_, rfl⟩
      obtain ⟨wd, hwd⟩ : ∃ z, newD y d = z := ⟨_, rfl⟩
      rw [hwn, hwd] at hsgn fW WGT
      unfold frV at WGT
      rw [hA, hC, hrc, hrd] at WGT
      rw [hA] at e0
      rw [hC] at e1
      rw [hrc] at e2
      rw [hrd] at e3
      obtain ⟨ok, hokk⟩ : ∃ b, okR n d l r = b := ⟨_, rfl⟩
      rw [hokk] at hok
      have HSG := hid (show (sgnQ ((na : Rat) / (da : Rat) - (nb : Rat) / (db : Rat) - (wn : Rat) / (wd : Rat)) < 0) ↔ ok = false by rw [hsgn, hok]; simp)
      have OFA := hid (fun w => of_fr fA w)
      have OFC := hid (fun w => of_fr fC w)
      have OFW := hid (fun w => of_fr fW w)
      have HQA := hid (qs_fr fA)
      have HQC := hid (qs_fr fC)
      have HQW := hid (qs_fr fW)
      have HOKK := hid hokk
      have HRR := hid hr
      have hA2 : (A : Int) < (N : Int) := by omega
      have hC2 : (C : Int) < (N : Int) := by omega
      have HGA := hid hgA
      have HGC := hid hgC
      clear hrv hA hC hrc hrd hy hok hokk hna hda hnb hdb fA fC fW hyb hgA hgC hwn hwd hnf hsgn hr d0 d1 d2 d3
      go_wp2_with fail
      clear e0 e1 e2 e3
      have kb := Blk.new wr #[.int .i64 (A : Int), .int .i64 (C : Int), .int .i64 rc, .int .i64 rd] 46
      have hbA := alloc_below wr (.cells #[.int .i64 (A : Int), .int .i64 (C : Int), .int .i64 rc, .int .i64 rd] 46)
      obtain ⟨w2, hw2⟩ : ∃ w2, wr.alloc (.cells #[.int .i64 (A : Int), .int .i64 (C : Int), .int .i64 rc, .int .i64 rd] 46) = w2 := ⟨_, rfl⟩
      rw [hw2] at kb hbA ⊢
      clear hw2
      obtain ⟨H, hH⟩ : ∃ B, wr.heap.size = B := ⟨_, rfl⟩
      have HH := hid hH
      rw [hH] at kb ⊢
      clear hH
      have hbel2 := hbel.trans (hbA.mono hbel.size)
      have hBW := hB1.trans (hbel2.mono hB1.size)
      have k12 := k11.below hbel2
      have hs2 := hbel2.size
      have hd := (Below.refl w2.heap.size w2).drew
      have z0 := fun x : SubT (Below w2.heap.size) w2.drew => (kb.below (hd.trans x.b)).look 0 rfl
      have z1 := fun x : SubT (Below w2.heap.size) w2.drew => (kb.below (hd.trans x.b)).look 1 rfl
      have z2 := fun x : SubT (Below w2.heap.size) w2.drew => (kb.below (hd.trans x.b)).look 2 rfl
      have z3 := fun x : SubT (Below w2.heap.size) w2.drew => (kb.below (hd.trans x.b)).look 3 rfl
      have z4 := fun x : SubT (Below w2.heap.size) w2.drew => (k12.below (hd.trans x.b)).look 0 rfl
      have z5 := fun x : SubT (Below w2.heap.size) w2.drew => (k12.below (hd.trans x.b)).look 1 rfl
      have z6 := fun x : SubT (Below w2.heap.size) w2.drew => (HGA.out x.w (hBW.trans ((hd.trans x.b).mono hBW.size))).1
      have z7 := fun x : SubT (Below w2.heap.size) w2.drew => (HGA.out x.w (hBW.trans ((hd.trans x.b).mono hBW.size))).2
      have z8 := fun x : SubT (Below w2.heap.size) w2.drew => (HGC.out x.w (hBW.trans ((hd.trans x.b).mono hBW.size))).1
      have z9 := fun x : SubT (Below w2.heap.size) w2.drew => (HGC.out x.w (hBW.trans ((hd.trans x.b).mono hBW.size))).2
      refine wp_walkJ (T := Below (w2.heap.size)) (belowV_pre _) (.rd 0 (.rd 1 (.rd 2 (.rd 3 (.rd 4 (.rd 6 (.rd 7 (.rd 8 (.rd 9 (.rd 10 (.rd 13 (.rd 14 (.mv 5 (.mv 11 (.mv 12 (.bt 15 (.bt 16 (.bt 17 (.rd 18 (.inv [])))))))))))))))))))) (by kernel_rfl) rfl (by kernel_rfl) (by kernel_rfl) ?_
      iterate 12 (refine walkJ_rd rfl (fun K hK => ?_); go_simp; refine hK _ ?_; clear hK K)
      clear z0 z1 z2 z3 z4 z5 z6 z7 z8 z9
      (refine walkJ_mv rfl (fun K hK => ?_); go_simp; refine (OFA.out _).mono ?_; rintro e u1 ⟨q1, rfl, hq1, hb1⟩; refine ⟨_, rfl, hK _ _ hb1 ?_⟩; clear hK K)
      have hz1 := hb1.size
      (refine walkJ_mv rfl (fun K hK => ?_); go_simp; refine (OFC.out _).mono ?_; rintro e u2 ⟨q2, rfl, hq2, hb2⟩; refine ⟨_, rfl, hK _ _ (hb2.mono hz1) ?_⟩; clear hK K)
      have hz2 := hb2.size
      (refine walkJ_mv rfl (fun K hK => ?_); go_simp; refine (Less_any _ _ _ _ _ (hq1.below hb2).rat hq2.rat (HQA.out.mono (by decide)) (HQC.out.mono (by decide))).mono ?_; rintro e u3 ⟨q3, rfl, hq3, hb3⟩; refine ⟨_, rfl, hK _ _ (hb3.mono (Nat.le_trans hz1 hz2)) ?_⟩; clear hK K)
      have hz3 := hb3.size
      (refine walkJ_bt rfl (fun K hK => ?_); go_simp; refine (WGT.out _).mono ?_; rintro e u4 ⟨rfl, hb4⟩; refine ⟨_, rfl, hK _ _ ?_⟩; clear hK K)
      have hz4 := hb4.size
      (refine walkJ_bt rfl (fun K hK => ?_); go_simp; refine (OFW.out _).mono ?_; rintro e u5 ⟨q5, rfl, hq5, hb5⟩; refine ⟨_, rfl, hK _ _ ?_⟩; clear hK K)
      have hz5 := hb5.size
      (refine walkJ_bt rfl (fun K hK => ?_); go_simp; refine (Order_any _ _ _ _ _ ((hq3.below hb4).below hb5).rat hq5.rat ((QS_sub HQA.out HQC.out).mono (by decide)) (HQW.out.mono (by decide))).mono ?_; rintro e u6 ⟨rfl, hb6⟩; refine ⟨_, rfl, hK _ _ ?_⟩; clear hK K)
      obtain ⟨sg, hsg⟩ : ∃ z, sgnQ ((na : Rat) / (da : Rat) - (nb : Rat) / (db : Rat) - (wn : Rat) / (wd : Rat)) = z := ⟨_, rfl⟩
      have hsg2 := HSG.out
      rw [hsg] at hsg2
      rw [hsg]
      have hbf : Below w1.heap.size w1 u6 := hbel2.trans (((((((hd.trans hb1).trans (hb2.mono hz1)).trans (hb3.mono (Nat.le_trans hz1 hz2))).trans (hb4.mono (Nat.le_trans hz1 (Nat.le_trans hz2 hz3)))).trans (hb5.mono (Nat.le_trans hz1 (Nat.le_trans hz2 (Nat.le_trans hz3 hz4))))).trans (hb6.mono (Nat.le_trans hz1 (Nat.le_trans hz2 (Nat.le_trans hz3 (Nat.le_trans hz4 hz5)))))).mono hs2)
      clear hb1 hb2 hb3 hb4 hb5 hb6 hq1 hq2 hq3 hq5 hz1 hz2 hz3 hz4 hz5 hsg hd hbA hbel2 kb
      cases ok with
      | true =>
        have hge : ¬ sg < 0 := by rw [hsg2]; decide
        iterate 1 (refine walkJ_rd rfl (fun K hK => ?_); go_simp; refine hK _ ?_; clear hK K)
        refine walkJ_nil ?_
        go_wp2_with fail
        exact ⟨⟨i + 1, by go_num, by omega, take_rule HRR.out HALL.out HOKK.out, hbf⟩, by simp [intOf]; omega⟩
      | false =>
        have hlt : sg < 0 := hsg2.2 rfl
        have hbb : bb = false := by
          rw [HOK2.out, List.all_eq_false]
          exact ⟨r, rule_mem HRR.out, by rw [HOKK.out]; decide⟩
        have HR := hid hbb
        clear hbb
        iterate 1 (refine walkJ_rd rfl (fun K hK => ?_); go_simp; refine hK _ ?_; clear hK K)
        refine walkJ_nil ?_
        go_wp2_with fail
        go_ret
        exact ⟨by rw [HR.out]; rfl, hB1.trans (hbf.mono hB1.size)⟩
    · obtain rfl : M = i := by omega
      have hiM2 : ¬ (M : Int) < (M : Int) := by omega
      have hbb : bb = true := by
        rw [HOK2.out, List.all_eq_true]
        have := HALL.out
        rwa [List.take_of_length_le (by rw [HM.out]; exact Nat.le_refl _)] at this
      have HR := hid hbb
      clear hbb
      go_wp2_with fail
      go_ret
      exact ⟨by rw [HR.out]; rfl, hB1.trans (hbel.mono hB1.size)⟩

end Go.Proofs.Ytmknengmjepdaaa
