/- Walk of tranklaw04.GradeProof. -/
import Derived.Test.YtmknengmjepdaaaJx
import Derived.Test.YtmknengmjepdaaaUa
import Derived.Test.YtmknengmjepdaaaSe
import Derived.Test.YtmknengmjepdaaaKx
namespace Go.Proofs.Ytmknengmjepdaaa
open Go.RowKit
attribute [local irreducible] seqS seqST walkV

theorem szok_in {p : Pat} {n d ln ld hn hd : Int} (hs : FSize n d) (h : SzOk p ln ld hn hd) : Feas p ((n : Rat) / (d : Rat)) ↔ ln * d ≤ n * ld ∧ n * hd ≤ hn * d := by
  have b := size_bd hs
  have e1 := div_le_div (a := ln) (b := ld) (c := n) (e := d) h.l.1.1 hs.1.1
  have e2 := div_le_div (a := n) (b := d) (c := hn) (e := hd) hs.1.1 h.h.1.1
  rw [← e1, ← e2]
  constructor
  · intro hf
    refine ⟨?_, ?_⟩
    · apply Decidable.byContradiction
      intro hn
      exact h.lo _ b.1 (Rat.not_le.1 hn) hf
    · apply Decidable.byContradiction
      intro hn
      exact h.hi _ b.2 (Rat.not_le.1 hn) hf
  · rintro ⟨h1, h2⟩ l a hl hw
    have f1 := h.fl l a hl hw
    have f2 := h.fh l a hl hw
    rcases Rat.le_total (a := 0) (b := (dS l : Rat)) with h0 | h0
    · have := Rat.mul_le_mul_of_nonneg_left h2 h0
      grind
    · have := Rat.mul_le_mul_of_nonneg_left h1 (c := -(dS l : Rat)) (by grind)
      grind

theorem of_fv {n d : Int} (h : FV n d) (w : World) : Calls Try.prog 29 #[.agg #[.int .i64 n, .int .i64 d]] w fun e w' => ∃ v', e = .returned v' ∧ QF w.heap.size w' v' ((n : Rat) / (d : Rat)) ∧ Below w.heap.size w w' :=
  Of_any n d w (by have := h.2.2.1; omega) (by have := h.2.2.2.1; omega) (by have := h.1; omega) (by have := h.2.1; omega) (by have := h.1; omega)
theorem qs_fv {n d : Int} (h : FV n d) : QS 268435456 ((n : Rat) / (d : Rat)) :=
  (QS_of (by have := h.2.2.1; omega) (by have := h.2.2.2.1; omega) (by have := h.1; omega) (by have := h.2.1; omega) (by have := h.1; omega)).mono (by decide)
theorem order_fv {a b c e : Int} (h : FV a b) (k : FV c e) {u v : Value} {l1 l2 : Nat} {w : World} (hu : QF l1 w u ((a : Rat) / (b : Rat))) (hv : QF l2 w v ((c : Rat) / (e : Rat))) :
    Calls Try.prog 28 #[u, v] w fun x w' => (∃ z : Int, x = .returned (.int .i64 z) ∧ (z ≤ 0 ↔ a * e ≤ c * b)) ∧ Below w.heap.size w w' :=
  (Order_any _ _ _ _ _ hu.rat hv.rat (qs_fv h) (qs_fv k)).mono fun _ _ hh => ⟨⟨_, hh.1, sgn_div_le h.1 k.1⟩, hh.2⟩

/-- The two answers of Least and Loop. -/
def TwoSay (p : Pat) (n d e1 e2 : Int) (b : Bool) : Prop :=
  (b = false ∧ e1 = 2 ∧ e2 = 2) ∨ (b = true ∧ PValid p ∧ FSize n d ∧ p71 p = p ∧ ∃ cb : Bool, e1 = (if cb then 10 else 0) ∧ e2 = (if cb then 0 else 7) ∧ (cb = false ↔ Feas p ((n : Rat) / (d : Rat))))
theorem two_say {p : Pat} {n d : Int} {lo : Nat} {W : World} {e : Ending} (h : LoopR (p71 p) n d lo e W) : ∃ vl e2, e = .returned (.tuple #[vl, .int .i64 e2]) ∧ TwoSay p n d (rLeastE (p71 p) n d) e2 (decide (PValid p) && decide (FSize n d)) := by
  obtain ⟨vl, h⟩ := h
  rcases h with ⟨hno, rfl, -⟩ | ⟨hp, hs, hb, rfl, -⟩ | ⟨hp, hs, hb, rfl, -⟩
  · refine ⟨_, _, rfl, .inl ?_⟩
    have hg : (decide (PValid (p71 p)) && decide (FSize n d)) = false := by
      rcases Decidable.em (PValid (p71 p)) with h1 | h1
      · rw [decide_eq_false (fun hs => hno ⟨h1, hs⟩)]; simp
      · rw [decide_eq_false h1]; rfl
    refine ⟨?_, leastE_two hg, rfl⟩
    rcases p71_cases p with he | ⟨h1, _⟩
    · rw [he] at hg; exact hg
    · rw [decide_eq_false h1]; rfl
  · have e71 : p71 p = p := (p71_cases p).resolve_right fun hh => hh.2 hp
    rw [e71] at hp hb ⊢
    refine ⟨_, _, rfl, .inr ⟨by rw [decide_eq_true hp, decide_eq_true hs]; rfl, hp, hs, e71, false, by rw [leastE_of hp hs, hb], rfl, ?_⟩⟩
    exact ⟨fun _ => (feas_iff hs.1.1).1 ((chBad_iff hp hs).1 hb), fun _ => rfl⟩
  · have e71 : p71 p = p := (p71_cases p).resolve_right fun hh => hh.2 hp
    rw [e71] at hp hb ⊢
    refine ⟨_, _, rfl, .inr ⟨by rw [decide_eq_true hp, decide_eq_true hs]; rfl, hp, hs, e71, true, by rw [leastE_of hp hs, hb], rfl, ?_⟩⟩
    refine ⟨fun h => by simp at h, fun hf => ?_⟩
    have := (chBad_iff hp hs).2 ((feas_iff hs.1.1).2 hf)
    rw [hb] at this
    exact this

set_option maxHeartbeats 8000000 in
set_option maxRecDepth 100000 in
theorem GradeProof_any (p : Pat) (n d : Int) (v : Value) (w : World) (h : PatF 0 w v p) :
    Calls Try.prog 16 #[v, .agg #[.int .i64 n, .int .i64 d]] w fun e w' => e = .returned (.bool true) ∧ Below w.heap.size w w' := by
  obtain ⟨sv, rfl, -⟩ := id h
  go_enter Try.func16, Try.ntmps16
  go_wp2_with fail
  obtain ⟨w0, hw0, k0, k1, hB, hsz⟩ := one_new w #[.int .i64 p.n, sv] #[.int .i64 n, .int .i64 d] 24 26
  rw [hw0]
  clear hw0
  have fin : Hid (∀ W, Below w0.heap.size w0 W → Below w.heap.size w W) := hid (fun W hb => hB.trans (hb.mono hB.size))
  have h0 := h.below hB
  obtain ⟨S, hS⟩ : ∃ S, w.heap.size = S := ⟨_, rfl⟩
  rw [hS] at k0 k1 hsz ⊢
  clear hS h hB
  have b1 : Below w0.heap.size w0 w0.drew := (Below.refl _ _).drew
  have z0 := fun x : Sub w0.drew => ((k0.below b1).below x.b).look 0 rfl
  have z1 := fun x : Sub w0.drew => ((k0.below b1).below x.b).look 1 rfl
  have z2 := fun x : Sub w0.drew => ((k1.below b1).below x.b).look 0 rfl
  have z3 := fun x : Sub w0.drew => ((k1.below b1).below x.b).look 1 rfl
  refine wp_seq [(0, false), (2, false), (1, true), (3, true), (4, false), (5, false), (6, false), (7, false), (8, false)] [(_, false), (_, false), (_, true), (_, true), (_, false), (_, false), (_, false), (_, false), (_, false)] (by kernel_rfl) rfl rfl (by kernel_rfl) ?_
  iterate 2 (refine seqS_read (fun K hK => ?_); go_simp; refine hK _ ?_; clear hK K)
  (refine seqS_call (fun K hK => ?_); go_simp; refine (of_any p _ _ (h0.below b1)).mono ?_; rintro e w1 ⟨v1, rfl, hv1, hb1⟩; refine ⟨_, rfl, hK _ _ hb1 ?_⟩; clear hK K)
  replace b1 := b1.trans (hb1.mono b1.size)
  (refine seqS_call (fun K hK => ?_); go_simp; refine (Least_any (p71 p) n d _ _ (hv1.mono (Nat.zero_le _))).mono ?_; rintro e w2 ⟨⟨vm1, rfl, hvm1⟩, hb2⟩; refine ⟨_, rfl, hK _ _ hb2 ?_⟩; clear hK K)
  replace b1 := b1.trans (hb2.mono b1.size)
  clear z0 z1 z2 z3 hvm1 hv1 hb1 hb2
  iterate 5 (refine seqS_read (fun K hK => ?_); go_simp; refine hK _ ?_; clear hK K)
  refine seqS_nil ?_
  obtain ⟨e1, he1⟩ : ∃ z, rLeastE (p71 p) n d = z := ⟨_, rfl⟩
  rw [he1]
  have HE1 := hid he1
  clear he1
  go_wp2_with fail
  have b2 := b1.trans (Below.refl _ w2).drew
  have z0 := fun x : Sub w2.drew => ((k0.below b2).below x.b).look 0 rfl
  have z1 := fun x : Sub w2.drew => ((k0.below b2).below x.b).look 1 rfl
  have z2 := fun x : Sub w2.drew => ((k1.below b2).below x.b).look 0 rfl
  have z3 := fun x : Sub w2.drew => ((k1.below b2).below x.b).look 1 rfl
  refine wp_seq [(0, false), (2, false), (1, true), (3, true), (4, false), (5, false), (6, false), (7, false), (8, false)] [(_, false), (_, false), (_, true), (_, true), (_, false), (_, false), (_, false), (_, false), (_, false)] (by kernel_rfl) rfl rfl (by kernel_rfl) ?_
  iterate 2 (refine seqS_read (fun K hK => ?_); go_simp; refine hK _ ?_; clear hK K)
  (refine seqS_call (fun K hK => ?_); go_simp; refine (of_any p _ _ (h0.below b2)).mono ?_; rintro e w3 ⟨v3, rfl, hv3, hb3⟩; refine ⟨_, rfl, hK _ _ hb3 ?_⟩; clear hK K)
  replace b2 := b2.trans (hb3.mono b2.size)
  refine seqS_call (fun K hK => ?_)
  go_simp
  refine (Loop_any (p71 p) n d _ _ (hv3.mono (Nat.zero_le _))).mono ?_
  rintro e w4 ⟨hloop, hb4⟩
  obtain ⟨vl, e2, rfl, hsay⟩ := two_say hloop
  have b3 := b2.trans (hb4.mono b2.size)
  obtain ⟨gb, hgb⟩ : ∃ z, (decide (PValid p) && decide (FSize n d)) = z := ⟨_, rfl⟩
  rw [HE1.out, hgb] at hsay
  have HGB := hid hgb
  have HSAY := hid hsay
  refine ⟨_, rfl, hK _ _ hb4 ?_⟩
  clear hK K z0 z1 z2 z3 hloop hsay hgb hv3 hb3 hb4 b1 b2
  iterate 5 (refine seqS_read (fun K hK => ?_); go_simp; refine hK _ ?_; clear hK K)
  refine seqS_nil ?_
  have c0 := (k0.below b3).look 0 rfl
  have c1 := (k0.below b3).look 1 rfl
  go_wp2_with fail
  refine (of_any p _ _ (h0.below b3)).mono ?_
  rintro e w5 ⟨v5, rfl, hv5, hb5⟩
  have b5 := b3.trans (hb5.mono b3.size)
  clear c0 c1 hb5 b3
  obtain ⟨s5, rfl, -⟩ := id hv5
  go_wp2_with fail
  refine (gSizes_any (p71 p) _ _ (hv5.mono (Nat.zero_le _))).mono ?_
  rintro e w6 ⟨⟨ln, ld, hn, hd, E, rfl, hg⟩, hb6⟩
  have b6 := b5.trans (hb6.mono b5.size)
  have HG := hid hg
  clear hg hv5 hb6 b5
  have hs6 := b6.size
  have y0 := (Blk.new w6 #[.int .i64 ln, .int .i64 ld] 26).alloc (.cells #[.int .i64 hn, .int .i64 hd] 26)
  have y1 := Blk.new (w6.alloc (.cells #[.int .i64 ln, .int .i64 ld] 26)) #[.int .i64 hn, .int .i64 hd] 26
  have b7 := (b6.alloc hs6 (.cells #[.int .i64 ln, .int .i64 ld] 26)).alloc (by simp <;> omega) (.cells #[.int .i64 hn, .int .i64 hd] 26)
  have c0 := (k0.below b7).look 0 rfl
  have c1 := (k0.below b7).look 1 rfl
  have c2 := (k1.below b7).look 0 rfl
  have c3 := (k1.below b7).look 1 rfl
  simp only [World.size_alloc] at y1
  go_wp2_with fail
  obtain ⟨w7, hw7⟩ : ∃ w7, (w6.alloc (.cells #[.int .i64 ln, .int .i64 ld] 26)).alloc (.cells #[.int .i64 hn, .int .i64 hd] 26) = w7 := ⟨_, rfl⟩
  obtain ⟨B, hBB⟩ : ∃ B, w6.heap.size = B := ⟨_, rfl⟩
  rw [hw7] at y0 y1 b7 c0 c1 c2 c3 ⊢
  rw [hBB] at y0 y1 ⊢
  clear hw7 hBB b6 hs6
  refine (Good_any p n d _ _ (h0.below b7)).mono ?_
  rintro e w8 ⟨rfl, hb8⟩
  rw [HGB.out]
  have b8 := b7.trans (hb8.mono b7.size)
  have k8 := k1.below b8
  have y8 := y0.below hb8
  have y9 := y1.below hb8
  have hs8 := b8.size
  clear c0 c1 c2 c3 hb8 b7 y0 y1 k0 k1 h0 HE1
  rcases HSAY.out with ⟨rfl, rfl, rfl⟩ | ⟨rfl, hp, hs, e71, cb, he1, he2, hcb⟩
  · go_wp2_with fail
    refine (awake_any _).mono ?_
    rintro e wz ⟨rfl, hbz⟩
    go_wp2
    go_ret
    exact ⟨rfl, fin.out _ (b8.trans (hbz.mono b8.size))⟩
  · have HP := hid hp
    have HS := hid hs
    have HCB := hid hcb
    have hG := HG.out
    rw [e71] at hG
    have HE := hid (And.intro he1 he2)
    clear hp hs e71 hcb HSAY HG HGB he1 he2
    go_wp2_with fail
    have bd := b8.drew
    have z0 := fun x : Sub w8.drew => (k8.drew.below x.b).look 0 rfl
    have z1 := fun x : Sub w8.drew => (k8.drew.below x.b).look 1 rfl
    have z2 := fun x : Sub w8.drew => (y8.drew.below x.b).look 0 rfl
    have z3 := fun x : Sub w8.drew => (y8.drew.below x.b).look 1 rfl
    have z4 := fun x : Sub w8.drew => (y9.drew.below x.b).look 0 rfl
    have z5 := fun x : Sub w8.drew => (y9.drew.below x.b).look 1 rfl
    rcases hG with ⟨hno, -⟩ | ⟨-, hno, rfl, rfl, rfl, rfl, rfl⟩ | ⟨-, rfl, hok⟩
    · exact absurd HP.out hno
    · have hcb1 : cb = true := by
        rcases hcb2 : cb with _ | _
        · exact (hno _ (size_bd HS.out).1 (size_bd HS.out).2 (HCB.out.1 hcb2)).elim
        · rfl
      subst hcb1
      obtain ⟨rfl, rfl⟩ := HE.out
      clear hno
      refine wp_seq [(0, false), (1, false), (2, false), (3, false), (4, true), (5, false), (6, false), (7, false), (8, true), (9, false), (10, false), (11, false), (13, false), (12, true), (14, true), (15, true), (16, false), (17, false), (18, false), (19, false), (21, false), (20, true), (22, true), (23, true), (24, false), (25, false), (26, false)] [(_, false), (_, false), (_, false), (_, false), (_, true), (_, false), (_, false), (_, false), (_, true), (_, false), (_, false), (_, false), (_, false), (_, true), (_, true), (_, true), (_, false), (_, false), (_, false), (_, false), (_, false), (_, true), (_, true), (_, true), (_, false), (_, false), (_, false)] (by kernel_rfl) rfl rfl (by kernel_rfl) ?_
      iterate 4 (refine seqS_read (fun K hK => ?_); go_simp; refine hK _ ?_; clear hK K)
      (refine seqS_skip2 (fun K hK => ?_); go_simp; refine hK _ ?_; clear hK K)
      iterate 3 (refine seqS_read (fun K hK => ?_); go_simp; refine hK _ ?_; clear hK K)
      (refine seqS_skip2 (fun K hK => ?_); go_simp; refine hK _ ?_; clear hK K)
      iterate 4 (refine seqS_read (fun K hK => ?_); go_simp; refine hK _ ?_; clear hK K)
      iterate 3 (refine seqS_skip2 (fun K hK => ?_); go_simp; refine hK _ ?_; clear hK K)
      iterate 5 (refine seqS_read (fun K hK => ?_); go_simp; refine hK _ ?_; clear hK K)
      iterate 3 (refine seqS_skip2 (fun K hK => ?_); go_simp; refine hK _ ?_; clear hK K)
      iterate 3 (refine seqS_read (fun K hK => ?_); go_simp; refine hK _ ?_; clear hK K)
      refine seqS_nil ?_
      go_wp2_with fail
      refine (awake_any _).mono ?_
      rintro e wz ⟨rfl, hbz⟩
      go_wp2
      go_ret
      exact ⟨rfl, fin.out _ (b8.drew.trans (hbz.mono (Nat.le_trans hs8 (Nat.le_refl _))))⟩
    · have hin := szok_in HS.out hok
      rw [← HCB.out] at hin
      have HIN := hid hin
      have HOK := hid hok
      clear hin hok HCB
      refine wp_seq [(0, false), (1, false), (2, false), (3, false), (4, true), (5, false), (6, false), (7, false), (8, true), (9, false), (10, false), (11, false), (13, false), (12, true), (14, true), (15, true), (16, false), (17, false), (18, false), (19, false), (21, false), (20, true), (22, true), (23, true), (24, false), (25, false), (26, false)] [(_, false), (_, false), (_, false), (_, false), (_, true), (_, false), (_, false), (_, false), (_, true), (_, false), (_, false), (_, false), (_, false), (_, true), (_, true), (_, true), (_, false), (_, false), (_, false), (_, false), (_, false), (_, true), (_, true), (_, true), (_, false), (_, false), (_, false)] (by kernel_rfl) rfl rfl (by kernel_rfl) ?_
      iterate 4 (refine seqS_read (fun K hK => ?_); go_simp; refine hK _ ?_; clear hK K)
      (refine seqS_call (fun K hK => ?_); go_simp; refine (Valid_any ln ld _).mono ?_; rintro e u1 ⟨rfl, hb1⟩; rw [decide_eq_true HOK.out.l.1]; refine ⟨_, rfl, hK _ _ hb1 ?_⟩; clear hK K)
      have bu := bd.trans (hb1.mono bd.size)
      clear z0 z1 z2 z3 z4 z5
      have y91 := y9.drew.below hb1
      have y81 := y8.drew.below hb1
      have k81 := k8.drew.below hb1
      have z4 := fun x : Sub u1 => (y91.below x.b).look 0 rfl
      have z5 := fun x : Sub u1 => (y91.below x.b).look 1 rfl
      iterate 3 (refine seqS_read (fun K hK => ?_); go_simp; refine hK _ ?_; clear hK K)
      clear z4 z5
      (refine seqS_call (fun K hK => ?_); go_simp; refine (Valid_any hn hd _).mono ?_; rintro e u2 ⟨rfl, hb2⟩; rw [decide_eq_true HOK.out.h.1]; refine ⟨_, rfl, hK _ _ hb2 ?_⟩; clear hK K)
      replace bu := bu.trans (hb2.mono bu.size)
      have y92 := y91.below hb2
      have y82 := y81.below hb2
      have k82 := k81.below hb2
      clear hb1 hb2 k81 y81 y91 k8 y8 y9
      have z0 := fun x : Sub u2 => (k82.below x.b).look 0 rfl
      have z1 := fun x : Sub u2 => (k82.below x.b).look 1 rfl
      have z2 := fun x : Sub u2 => (y82.below x.b).look 0 rfl
      have z3 := fun x : Sub u2 => (y82.below x.b).look 1 rfl
      iterate 4 (refine seqS_read (fun K hK => ?_); go_simp; refine hK _ ?_; clear hK K)
      clear z0 z1 z2 z3
      (refine seqS_call (fun K hK => ?_); go_simp; refine (of_fv HOK.out.l.1 _).mono ?_; rintro e u3 ⟨v3, rfl, hq3, hb3⟩; refine ⟨_, rfl, hK _ _ hb3 ?_⟩; clear hK K)
      replace bu := bu.trans (hb3.mono bu.size)
      (refine seqS_call (fun K hK => ?_); go_simp; refine (of_fv HS.out.1 _).mono ?_; rintro e u4 ⟨v4, rfl, hq4, hb4⟩; refine ⟨_, rfl, hK _ _ hb4 ?_⟩; clear hK K)
      replace bu := bu.trans (hb4.mono bu.size)
      (refine seqS_call (fun K hK => ?_); go_simp; refine (order_fv HOK.out.l.1 HS.out.1 (hq3.below hb4) hq4).mono ?_; rintro e u5 ⟨⟨g1, rfl, hg1⟩, hb5⟩; refine ⟨_, rfl, hK _ _ hb5 ?_⟩; clear hK K)
      replace bu := bu.trans (hb5.mono bu.size)
      have y95 := ((y92.below hb3).below hb4).below hb5
      have k85 := ((k82.below hb3).below hb4).below hb5
      clear hb3 hb4 hb5 hq3 hq4 y92 y82 k82
      have z0 := fun x : Sub u5 => (k85.below x.b).look 0 rfl
      have z1 := fun x : Sub u5 => (k85.below x.b).look 1 rfl
      have z4 := fun x : Sub u5 => (y95.below x.b).look 0 rfl
      have z5 := fun x : Sub u5 => (y95.below x.b).look 1 rfl
      have hg := HIN.out
      rw [← hg1] at hg
      clear hg1
      by_cases h1 : g1 ≤ 0
      · iterate 5 (refine seqS_read (fun K hK => ?_); go_simp; refine hK _ ?_; clear hK K)
        clear z0 z1 z4 z5
        (refine seqS_call (fun K hK => ?_); go_simp; refine (of_fv HS.out.1 _).mono ?_; rintro e u6 ⟨v6, rfl, hq6, hb6⟩; refine ⟨_, rfl, hK _ _ hb6 ?_⟩; clear hK K)
        replace bu := bu.trans (hb6.mono bu.size)
        (refine seqS_call (fun K hK => ?_); go_simp; refine (of_fv HOK.out.h.1 _).mono ?_; rintro e u7 ⟨v7, rfl, hq7, hb7⟩; refine ⟨_, rfl, hK _ _ hb7 ?_⟩; clear hK K)
        replace bu := bu.trans (hb7.mono bu.size)
        (refine seqS_call (fun K hK => ?_); go_simp; refine (order_fv HS.out.1 HOK.out.h.1 (hq6.below hb7) hq7).mono ?_; rintro e u8 ⟨⟨g2, rfl, hg2⟩, hb8⟩; refine ⟨_, rfl, hK _ _ hb8 ?_⟩; clear hK K)
        replace bu := bu.trans (hb8.mono bu.size)
        rw [← hg2] at hg
        clear hg2 hb6 hb7 hb8 hq6 hq7 y95 k85
        have hcb1 : cb = !decide (g2 ≤ 0) := by
          by_cases h2 : g2 ≤ 0
          · rw [decide_eq_true h2, hg.2 ⟨h1, h2⟩]; rfl
          · rw [decide_eq_false h2]
            rcases hcb2 : cb with _ | _
            · exact absurd (hg.1 hcb2).2 h2
            · rfl
        clear hg
        have hE := HE.out
        rw [hcb1] at hE
        by_cases h2 : g2 ≤ 0
        · rw [decide_eq_true h2] at hE
          obtain ⟨rfl, rfl⟩ := hE
          iterate 3 (refine seqS_read (fun K hK => ?_); go_simp; refine hK _ ?_; clear hK K)
          refine seqS_nil ?_
          clear HE HIN hcb1
          go_wp2_with fail
          refine (awake_any _).mono ?_
          rintro e wz ⟨rfl, hbz⟩
          go_wp2
          go_ret
          exact ⟨rfl, fin.out _ (bu.trans (hbz.mono bu.size))⟩
        · rw [decide_eq_false h2] at hE
          obtain ⟨rfl, rfl⟩ := hE
          iterate 3 (refine seqS_read (fun K hK => ?_); go_simp; refine hK _ ?_; clear hK K)
          refine seqS_nil ?_
          clear HE HIN hcb1
          go_wp2_with fail
          refine (awake_any _).mono ?_
          rintro e wz ⟨rfl, hbz⟩
          go_wp2
          go_ret
          exact ⟨rfl, fin.out _ (bu.trans (hbz.mono bu.size))⟩
      · have hcb1 : cb = true := by
          rcases hcb2 : cb with _ | _
          · exact absurd (hg.1 hcb2).1 h1
          · rfl
        subst hcb1
        obtain ⟨rfl, rfl⟩ := HE.out
        clear hg HE HIN
        iterate 5 (refine seqS_read (fun K hK => ?_); go_simp; refine hK _ ?_; clear hK K)
        iterate 3 (refine seqS_skip2 (fun K hK => ?_); go_simp; refine hK _ ?_; clear hK K)
        iterate 3 (refine seqS_read (fun K hK => ?_); go_simp; refine hK _ ?_; clear hK K)
        refine seqS_nil ?_
        go_wp2_with fail
        refine (awake_any _).mono ?_
        rintro e wz ⟨rfl, hbz⟩
        go_wp2
        go_ret
        exact ⟨rfl, fin.out _ (bu.trans (hbz.mono bu.size))⟩

end Go.Proofs.Ytmknengmjepdaaa
