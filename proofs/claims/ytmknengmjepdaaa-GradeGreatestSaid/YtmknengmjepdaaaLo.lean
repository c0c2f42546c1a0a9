/- Walk of tranklaw04.GradeFits. -/
import Derived.Test.YtmknengmjepdaaaJx
import Derived.Test.YtmknengmjepdaaaMx
import Derived.Test.YtmknengmjepdaaaYc
import Derived.Test.YtmknengmjepdaaaYd
import Derived.Test.YtmknengmjepdaaaYe
namespace Go.Proofs.Ytmknengmjepdaaa
open Go.RowKit
attribute [local irreducible] seqS seqST walkV walkJ

theorem ft71 (p : Pat) (n d : Int) (l : List (Int × Int)) : ftE (p71 p) n d l = ftE p n d l ∧ ftB (p71 p) n d l = ftB p n d l := by
  rcases p71_cases p with h | ⟨h1, h2⟩
  · rw [h]; exact ⟨rfl, rfl⟩
  · rw [(fit_two (fun hh : PValid p ∧ FSize n d ∧ AsgP p l => h1 hh.1)).1, (fit_two (fun hh : PValid p ∧ FSize n d ∧ AsgP p l => h1 hh.1)).2]
    exact fit_two (fun hh => h2 hh.1)
theorem sl71 (p : Pat) (n d : Int) (l : List (Int × Int)) : slE (p71 p) n d l = slE p n d l ∧ slL (p71 p) n d l = slL p n d l := by
  rcases p71_cases p with h | ⟨h1, h2⟩
  · rw [h]; exact ⟨rfl, rfl⟩
  · rw [(slack_two (fun hh : PValid p ∧ FSize n d ∧ AsgP p l => h1 hh.1)).1, (slack_two (fun hh : PValid p ∧ FSize n d ∧ AsgP p l => h1 hh.1)).2]
    exact slack_two (fun hh => h2 hh.1)
theorem pv71 (p : Pat) : decide (PValid (p71 p)) = decide (PValid p) := by
  rcases p71_cases p with h | ⟨h1, h2⟩
  · rw [h]
  · rw [decide_eq_false h1, decide_eq_false h2]

set_option maxHeartbeats 4000000 in
set_option maxRecDepth 100000 in
theorem GradeFits_any (p : Pat) (n d : Int) (l : List (Int × Int)) (v vx : Value) (w : World) (h : PatF 0 w v p) (hx : FrsR 0 w vx l) :
    Calls Try.prog 19 #[v, .agg #[.int .i64 n, .int .i64 d], vx] w fun e w' => e = .returned (.bool true) ∧ Below w.heap.size w w' := by
  obtain ⟨sv, rfl, -⟩ := id h
  have HX := hid hx
  obtain ⟨ax, cx, rfl, -, -, -⟩ := hx
  have GF := hid (fun v w hv x hx => gFits_any (p71 p) n d l v x w hv hx)
  have GS := hid (fun v w hv x hx => gSlack_any (p71 p) n d l v x w hv hx)
  have GV := hid (fun v w hv => gValid_any (p71 p) v w hv)
  have RV := hid (fun v w hv => rValid_any p v w hv)
  rw [(ft71 p n d l).1, (ft71 p n d l).2] at GF
  rw [(sl71 p n d l).1, (sl71 p n d l).2] at GS
  rw [pv71] at GV
  have RF := hid (fun v w hv x hx hp hs ha => rFits_any p n d l v x w hv hx hp hs ha)
  have RS := hid (fun v w hv x hx hp hs ha => rSlack_any p n d l v x w hv hx hp hs ha)
  obtain ⟨fb, hfb⟩ : ∃ b, ftB p n d l = b := ⟨_, rfl⟩
  obtain ⟨fe, hfe⟩ : ∃ b, ftE p n d l = b := ⟨_, rfl⟩
  obtain ⟨sl, hsl⟩ : ∃ b, slL p n d l = b := ⟨_, rfl⟩
  obtain ⟨se, hse⟩ : ∃ b, slE p n d l = b := ⟨_, rfl⟩
  rw [hfb, hfe] at GF
  rw [hfb] at RF
  rw [hsl, hse] at GS RS
  have TWO := hid (fun hh => fit_two (p := p) (n := n) (d := d) (l := l) hh)
  have TWO2 := hid (fun hh => slack_two (p := p) (n := n) (d := d) (l := l) hh)
  have FOK := hid (fun hh => (fit_ok (p := p) (n := n) (d := d) (l := l) hh).1)
  rw [hfb, hfe] at TWO
  rw [hsl, hse] at TWO2
  rw [hfe] at FOK
  obtain ⟨pv, hpv⟩ : ∃ b, decide (PValid p) = b := ⟨_, rfl⟩
  rw [hpv] at GV RV
  have HPV := hid hpv
  clear hfb hfe hsl hse hpv
  go_enter Try.func19, Try.ntmps19
  go_wp2_with fail
  obtain ⟨w0, hw0, k0, k1, hB, hsz⟩ := one_new w #[.int .i64 p.n, sv] #[.int .i64 n, .int .i64 d] 24 26
  rw [hw0]
  clear hw0
  have h0 := h.below hB
  have HX0 := hid (HX.out.below hB)
  have hd := (Below.refl w0.heap.size w0).drew
  have z0 := fun x : SubT (Below w0.heap.size) w0.drew => (k0.below (hd.trans x.b)).look 0 rfl
  have z1 := fun x : SubT (Below w0.heap.size) w0.drew => (k0.below (hd.trans x.b)).look 1 rfl
  have z2 := fun x : SubT (Below w0.heap.size) w0.drew => (k1.below (hd.trans x.b)).look 0 rfl
  have z3 := fun x : SubT (Below w0.heap.size) w0.drew => (k1.below (hd.trans x.b)).look 1 rfl
  refine wp_walkJ (T := Below (w0.heap.size)) (belowV_pre _) (.rd 0 (.rd 2 (.rd 3 (.mv 1 (.bt 4 (.rd 5 (.rd 6 (.rd 7 (.rd 8 (.rd 9 (.inv []))))))))))) (by kernel_rfl) rfl (by kernel_rfl) (by kernel_rfl) ?_
  iterate 3 (refine walkJ_rd rfl (fun K hK => ?_); go_simp; refine hK _ ?_; clear hK K)
  clear z0 z1 z2 z3
  (refine walkJ_mv rfl (fun K hK => ?_); go_simp; refine (of_any p _ _ (h0.below hd)).mono ?_; rintro e w1 ⟨v1, rfl, hv1, hb1⟩; refine ⟨_, rfl, hK _ _ hb1 ?_⟩; clear hK K)
  (refine walkJ_bt rfl (fun K hK => ?_); go_simp; refine (GF.out _ _ (hv1.mono (Nat.zero_le _)) _ ((HX0.out.below hd).below hb1)).mono ?_; rintro e w2 ⟨rfl, hb2⟩; refine ⟨_, rfl, hK _ _ ?_⟩; clear hK K)
  iterate 5 (refine walkJ_rd rfl (fun K hK => ?_); go_simp; refine hK _ ?_; clear hK K)
  refine walkJ_nil ?_
  have hB2 : Below w0.heap.size w0 w2 := hd.trans (Below.trans hb1 (hb2.mono hb1.size))
  have k02 := k0.below hB2
  have k12 := k1.below hB2
  have h2 := h0.below hB2
  have HX2 := hid (HX0.out.below hB2)
  have hB2w : Below w.heap.size w w2 := hB.trans (hB2.mono hB.size)
  clear hd hb1 hb2 hv1 h0 hB2 k0 k1 hB HX0 h
  go_wp2_with fail
  have hd := (Below.refl w2.heap.size w2).drew
  have z0 := fun x : SubT (Below w2.heap.size) w2.drew => (k02.below (hd.trans x.b)).look 0 rfl
  have z1 := fun x : SubT (Below w2.heap.size) w2.drew => (k02.below (hd.trans x.b)).look 1 rfl
  have z2 := fun x : SubT (Below w2.heap.size) w2.drew => (k12.below (hd.trans x.b)).look 0 rfl
  have z3 := fun x : SubT (Below w2.heap.size) w2.drew => (k12.below (hd.trans x.b)).look 1 rfl
  refine wp_walkJ (T := Below (w2.heap.size)) (belowV_pre _) (.rd 0 (.rd 2 (.rd 3 (.mv 1 (.bt 4 (.rd 5 (.rd 6 (.rd 7 (.rd 8 (.rd 9 (.inv []))))))))))) (by kernel_rfl) rfl (by kernel_rfl) (by kernel_rfl) ?_
  iterate 3 (refine walkJ_rd rfl (fun K hK => ?_); go_simp; refine hK _ ?_; clear hK K)
  clear z0 z1 z2 z3
  (refine walkJ_mv rfl (fun K hK => ?_); go_simp; refine (of_any p _ _ (h2.below hd)).mono ?_; rintro e w3 ⟨v1, rfl, hv1, hb1⟩; refine ⟨_, rfl, hK _ _ hb1 ?_⟩; clear hK K)
  (refine walkJ_bt rfl (fun K hK => ?_); go_simp; refine (GS.out _ _ (hv1.mono (Nat.zero_le _)) _ ((HX2.out.below hd).below hb1)).mono ?_; rintro e w4 ⟨⟨vl, rfl, hvl⟩, hb2⟩; refine ⟨_, rfl, hK _ _ ?_⟩; clear hK K)
  iterate 5 (refine walkJ_rd rfl (fun K hK => ?_); go_simp; refine hK _ ?_; clear hK K)
  refine walkJ_nil ?_
  have hB4 : Below w2.heap.size w2 w4 := hd.trans (Below.trans hb1 (hb2.mono hb1.size))
  have k04 := k02.below hB4
  have k14 := k12.below hB4
  have h4 := h2.below hB4
  have HX4 := hid (HX2.out.below hB4)
  have HVL := hid (show FrsR 0 w4 vl sl from SlR.mono hvl (Nat.zero_le _))
  have hB4w : Below w.heap.size w w4 := hB2w.trans (hB4.mono hB2w.size)
  clear hd hb1 hb2 hv1 hvl h2 hB4 k02 k12 hB2w HX2
  go_wp2_with fail
  have hd := (Below.refl w4.heap.size w4).drew
  have z0 := fun x : SubT (Below w4.heap.size) w4.drew => (k04.below (hd.trans x.b)).look 0 rfl
  have z1 := fun x : SubT (Below w4.heap.size) w4.drew => (k04.below (hd.trans x.b)).look 1 rfl
  refine wp_walkJ (T := Below (w4.heap.size)) (belowV_pre _) (.rd 0 (.rd 3 (.mv 1 (.mv 2 (.bt 4 (.rd 5 (.rd 6 (.bt 7 (.rd 8 (.rd 9 (.inv []))))))))))) (by kernel_rfl) rfl (by kernel_rfl) (by kernel_rfl) ?_
  iterate 2 (refine walkJ_rd rfl (fun K hK => ?_); go_simp; refine hK _ ?_; clear hK K)
  clear z0 z1
  (refine walkJ_mv rfl (fun K hK => ?_); go_simp; refine (of_any p _ _ (h4.below hd)).mono ?_; rintro e w5 ⟨v1, rfl, hv1, hb1⟩; refine ⟨_, rfl, hK _ _ hb1 ?_⟩; clear hK K)
  have hb1' : Below w4.heap.size w4 w5 := hd.trans hb1
  (refine walkJ_mv rfl (fun K hK => ?_); go_simp; refine (GV.out _ _ (hv1.mono (Nat.zero_le _))).mono ?_; rintro e w6 ⟨rfl, hb2⟩; refine ⟨_, rfl, hK _ _ (hb2.mono hb1.size) ?_⟩; clear hK K)
  have hb2' : Below w4.heap.size w4 w6 := hb1'.trans (hb2.mono hb1'.size)
  (refine walkJ_bt rfl (fun K hK => ?_); go_simp; refine (RV.out _ _ (h4.below hb2')).mono ?_; rintro e w7 ⟨rfl, hb3⟩; refine ⟨_, rfl, hK _ _ ?_⟩; clear hK K)
  have hb3' : Below w4.heap.size w4 w7 := hb2'.trans (hb3.mono hb2'.size)
  have hne : (pv != pv) = false := by cases pv <;> rfl
  iterate 2 (refine walkJ_rd rfl (fun K hK => ?_); go_simp; refine hK _ ?_; clear hK K)
  (refine walkJ_bt rfl (fun K hK => ?_); go_simp; refine (awake_any _).mono ?_; rintro e w8 ⟨rfl, hb4⟩; refine ⟨_, rfl, hK _ _ ?_⟩; clear hK K)
  iterate 2 (refine walkJ_rd rfl (fun K hK => ?_); go_simp; refine hK _ ?_; clear hK K)
  refine walkJ_nil ?_
  have hB8 : Below w4.heap.size w4 w8 := hb3'.trans (hb4.mono hb3'.size)
  have k08 := k04.below hB8
  have k18 := k14.below hB8
  have h8 := h4.below hB8
  have HX8 := hid (HX4.out.below hB8)
  have HVL8 := hid (HVL.out.below hB8)
  have hB8w : Below w.heap.size w w8 := hB4w.trans (hB8.mono hB4w.size)
  clear hd hb1 hb2 hb3 hb4 hb1' hb2' hb3' hv1 h4 hB8 k04 k14 hB4w HX4 HVL hne
  have c0 := k08.look 0 rfl
  have c1 := k08.look 1 rfl
  have c2 := k18.look 0 rfl
  have c3 := k18.look 1 rfl
  go_wp2_with fail
  refine (Good_any p n d _ _ h8).mono ?_
  rintro e w9 ⟨rfl, hb9⟩
  clear c0 c1 c2 c3
  have k09 := k08.below hb9
  have k19 := k18.below hb9
  have h9 := h8.below hb9
  have HX9 := hid (HX8.out.below hb9)
  have HVL := hid (HVL8.out.below hb9)
  have hB := hB8w.trans (hb9.mono hB8w.size)
  clear hb9 hB8w HVL8 HX8 h8 k18 k08
  by_cases hps : PValid p ∧ FSize n d
  case neg =>
    have hbb : (decide (PValid p) && decide (FSize n d)) = false := by rw [← Bool.decide_and]; exact decide_eq_false hps
    rw [hbb]
    have hn : ¬ (PValid p ∧ FSize n d ∧ AsgP p l) := fun hh => hps ⟨hh.1, hh.2.1⟩
    clear hbb hps
    have e1 := (TWO.out hn).1
    have e2 := (TWO.out hn).2
    have e3 := (TWO2.out hn).1
    have e4 := (TWO2.out hn).2
    rw [e4] at HVL
    obtain ⟨al, cl, rfl, -, -, -⟩ := HVL.out
    rw [e1, e2, e3]
    simp only [List.length_nil]
    clear e1 e2 e3 e4 hn HVL
    go_wp2
    go_ret
    exact ⟨rfl, hB⟩
  obtain ⟨hp, hs⟩ := hps
  rw [decide_eq_true hp, decide_eq_true hs, Bool.and_self]
  have HP := hid hp
  have HF := hid hs
  clear hp hs
  have c0 := k09.look 0 rfl
  have c1 := k09.look 1 rfl
  by_cases hln : (l.length : Int) = p.n
  case neg =>
    have hn : ¬ (PValid p ∧ FSize n d ∧ AsgP p l) := fun hh => hln hh.2.2.1
    have e1 := (TWO.out hn).1
    have e2 := (TWO.out hn).2
    have e3 := (TWO2.out hn).1
    have e4 := (TWO2.out hn).2
    rw [e4] at HVL
    obtain ⟨al, cl, rfl, -, -, -⟩ := HVL.out
    rw [e1, e2, e3]
    simp only [List.length_nil]
    clear e1 e2 e3 e4 hn HVL
    go_wp2
    go_ret
    exact ⟨rfl, hB⟩
  have HLN := hid hln
  go_wp2_with fail
  refine (All1_any l _ _ HX9.out).mono ?_
  rintro e w10 ⟨rfl, hb10⟩
  clear c0 c1
  replace HVL := hid (HVL.out.below hb10)
  have h10 := h9.below hb10
  have HX10 := hid (HX9.out.below hb10)
  have k0 := k09.below hb10
  have k1 := k19.below hb10
  replace hB := hB.trans (hb10.mono hB.size)
  clear hb10 h9 k09 k19 HX9
  by_cases ha : ∀ f ∈ l, FV f.1 f.2
  case neg =>
    rw [decide_eq_false ha]
    have hn : ¬ (PValid p ∧ FSize n d ∧ AsgP p l) := fun hh => ha hh.2.2.2
    clear ha
    have e1 := (TWO.out hn).1
    have e2 := (TWO.out hn).2
    have e3 := (TWO2.out hn).1
    have e4 := (TWO2.out hn).2
    rw [e4] at HVL
    obtain ⟨al, cl, rfl, -, -, -⟩ := HVL.out
    rw [e1, e2, e3]
    simp only [List.length_nil]
    clear e1 e2 e3 e4 hn HVL
    go_wp2
    go_ret
    exact ⟨rfl, hB⟩
  rw [decide_eq_true ha]
  have HA := hid (show AsgP p l from ⟨HLN.out, ha⟩)
  have hfe := FOK.out ⟨HP.out, HF.out, HA.out⟩
  rw [hfe]
  clear ha hfe hln
  have c0 := k0.look 0 rfl
  have c1 := k0.look 1 rfl
  have c2 := k1.look 0 rfl
  have c3 := k1.look 1 rfl
  go_wp2_with fail
  refine (RS.out _ _ h10 _ HX10.out HP.out HF.out HA.out).mono ?_
  rintro e w11 ⟨⟨vm, rfl, hvm⟩, hb11⟩
  clear c0 c1 c2 c3
  replace HVL := hid (HVL.out.below hb11)
  have h11 := h10.below hb11
  have HX11 := hid (HX10.out.below hb11)
  replace k0 := k0.below hb11
  replace k1 := k1.below hb11
  replace hB := hB.trans (hb11.mono hB.size)
  have HVM := hid (show FrsR 0 w11 vm sl from SlR.mono hvm (Nat.zero_le _))
  clear hb11 h10 HX10 hvm
  have c0 := k0.look 0 rfl
  have c1 := k0.look 1 rfl
  have c2 := k1.look 0 rfl
  have c3 := k1.look 1 rfl
  go_wp2_with fail
  refine (RF.out _ _ h11 _ HX11.out HP.out HF.out HA.out).mono ?_
  rintro e w12 ⟨rfl, hb12⟩
  clear c0 c1 c2 c3
  replace HVL := hid (HVL.out.below hb12)
  replace HVM := hid (HVM.out.below hb12)
  replace hB := hB.trans (hb12.mono hB.size)
  clear hb12 h11 HX11 k0 k1
  go_wp2_with fail
  refine (EqFr_any _ _ _ _ _ HVL.out HVM.out).mono ?_
  rintro e w13 ⟨rfl, hb13⟩
  go_wp2
  go_ret
  exact ⟨by simp, hB.trans (hb13.mono hB.size)⟩

end Go.Proofs.Ytmknengmjepdaaa
