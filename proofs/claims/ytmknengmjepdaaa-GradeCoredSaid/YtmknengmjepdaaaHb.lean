/- Walk of trankref04.Equal. -/
import Derived.Test.YtmknengmjepdaaaHa
namespace Go.Proofs.Ytmknengmjepdaaa
open Go.RowKit
attribute [local irreducible] seqS seqST

def eqE (p q : Pat) (n d : Int) : Int := if (decide (PValid p) && decide (FSize n d)) = false ∨ (decide (PValid q) && decide (FSize n d)) = false then 2 else if chBad p n d = true ∨ chBad q n d = true then 10 else 0
def eqB (p q : Pat) (n d : Int) : Bool := decide (eqE p q n d = 0) && decide (p.n = q.n) && p.rules.all (folB q n d) && q.rules.all (folB p n d)
theorem eqB_not {p q : Pat} {n d : Int} (h : eqE p q n d ≠ 0) : eqB p q n d = false := by unfold eqB; simp [h]

/-- The fold over a prefix. -/
theorem all_prefix {l : List Rul} {f : Rul → Bool} {i : Nat} {r : Rul} (hi : l[i]? = some r) (h : ∀ x ∈ l.take i, f x = true) (hr : f r = true) : ∀ x ∈ l.take (i + 1), f x = true := take_rule hi h hr

set_option maxHeartbeats 8000000 in
set_option maxRecDepth 100000 in
theorem rEqual_any (p q : Pat) (n d : Int) (v u : Value) (w : World) (h : PatF 0 w v p) (h' : PatF 0 w u q) :
    Calls Try.prog 44 #[v, u, .agg #[.int .i64 n, .int .i64 d]] w fun e w' => e = .returned (.tuple #[.bool (eqB p q n d), .int .i64 (eqE p q n d)]) ∧ Below w.heap.size w w' := by
  obtain ⟨sv, rfl, hsl⟩ := id h
  obtain ⟨su, rfl, hsu⟩ := id h'
  go_enter Try.func44, Try.ntmps44
  go_wp2_with fail
  obtain ⟨w0, hw0, k0, k1, k2, hB, hsz⟩ := three_new w #[.int .i64 p.n, sv] #[.int .i64 q.n, su] #[.int .i64 n, .int .i64 d] 24 24 26
  rw [hw0]
  clear hw0
  have fin : Hid (∀ W, Below w0.heap.size w0 W → Below w.heap.size w W) := hid (fun W hb => hB.trans (hb.mono hB.size))
  have h0 := h.below hB
  have h0' := h'.below hB
  have hs0 := hsl.below hB
  have hs0' := hsu.below hB
  obtain ⟨S, hS⟩ : ∃ S, w.heap.size = S := ⟨_, rfl⟩
  rw [hS] at k0 k1 k2 hsz ⊢
  have HS := hid hS
  clear hS h h' hsl hsu hB
  obtain ⟨g1, hg1⟩ : ∃ b, (decide (PValid p) && decide (FSize n d)) = b := ⟨_, rfl⟩
  obtain ⟨g2, hg2⟩ : ∃ b, (decide (PValid q) && decide (FSize n d)) = b := ⟨_, rfl⟩
  obtain ⟨qe, hqe⟩ : ∃ b, eqE p q n d = b := ⟨_, rfl⟩
  obtain ⟨qb, hqb⟩ : ∃ b, eqB p q n d = b := ⟨_, rfl⟩
  have HG1 := hid hg1
  have HG2 := hid hg2
  have HQE := hid hqe
  have HQB := hid hqb
  clear hg1 hg2 hqe hqb
  have c0 := k0.look 0 rfl
  have c1 := k0.look 1 rfl
  have c2 := k2.look 0 rfl
  have c3 := k2.look 1 rfl
  go_wp2_with fail
  refine (Good_any p n d _ _ h0).mono ?_
  rintro e w1 ⟨rfl, hb1⟩
  rw [HG1.out]
  clear c0 c1 c2 c3
  cases g1 with
  | false =>
    have hqe : qe = 2 := by rw [← HQE.out]; unfold eqE; rw [if_pos (.inl HG1.out)]
    have hqb : qb = false := by rw [← HQB.out]; exact eqB_not (by rw [HQE.out, hqe]; decide)
    have HX := hid hqe
    have HY := hid hqb
    clear hqe hqb
    go_wp2
    go_ret2
    exact ⟨by rw [HQE.out, HQB.out, HX.out, HY.out]; rfl, fin.out _ hb1⟩
  | true =>
  have c0 := (k1.below hb1).look 0 rfl
  have c1 := (k1.below hb1).look 1 rfl
  have c2 := (k2.below hb1).look 0 rfl
  have c3 := (k2.below hb1).look 1 rfl
  go_wp2_with fail
  refine (Good_any q n d _ _ (h0'.below hb1)).mono ?_
  rintro e w2 ⟨rfl, hb2⟩
  rw [HG2.out]
  clear c0 c1 c2 c3
  have b2 := hb1.trans (hb2.mono hb1.size)
  clear hb1 hb2
  cases g2 with
  | false =>
    have hqe : qe = 2 := by rw [← HQE.out]; unfold eqE; rw [if_pos (.inr HG2.out)]
    have hqb : qb = false := by rw [← HQB.out]; exact eqB_not (by rw [HQE.out, hqe]; decide)
    have HX := hid hqe
    have HY := hid hqb
    clear hqe hqb
    go_wp2
    go_ret2
    exact ⟨by rw [HQE.out, HQB.out, HX.out, HY.out]; rfl, fin.out _ b2⟩
  | true =>
  have hp : PValid p := by have := HG1.out; simp only [Bool.and_eq_true, decide_eq_true_eq] at this; exact this.1
  have hq : PValid q := by have := HG2.out; simp only [Bool.and_eq_true, decide_eq_true_eq] at this; exact this.1
  have hs : FSize n d := by have := HG1.out; simp only [Bool.and_eq_true, decide_eq_true_eq] at this; exact this.2
  have HP := hid hp
  have HQ := hid hq
  have HF := hid hs
  clear hp hq hs
  obtain ⟨b1, hb1⟩ : ∃ b, chBad p n d = b := ⟨_, rfl⟩
  obtain ⟨b3, hb3⟩ : ∃ b, chBad q n d = b := ⟨_, rfl⟩
  have HB1 := hid hb1
  have HB3 := hid hb3
  clear hb1 hb3
  have c0 := (k0.below b2).look 0 rfl
  have c1 := (k0.below b2).look 1 rfl
  have c2 := (k2.below b2).look 0 rfl
  have c3 := (k2.below b2).look 1 rfl
  go_wp2_with fail
  refine (Sound_any p n d _ _ (h0.below b2) HP.out HF.out).mono ?_
  rintro e w3 ⟨rfl, hw3⟩
  rw [HB1.out]
  clear c0 c1 c2 c3
  have b4 := b2.trans (hw3.mono b2.size)
  clear hw3
  cases b1 with
  | true =>
    have hqe : qe = 10 := by rw [← HQE.out]; unfold eqE; rw [if_neg (by rw [HG1.out, HG2.out]; decide), if_pos (.inl HB1.out)]
    have hqb : qb = false := by rw [← HQB.out]; exact eqB_not (by rw [HQE.out, hqe]; decide)
    have HX := hid hqe
    have HY := hid hqb
    clear hqe hqb
    go_wp2
    go_ret2
    exact ⟨by rw [HQE.out, HQB.out, HX.out, HY.out]; rfl, fin.out _ b4⟩
  | false =>
  have c0 := (k1.below b4).look 0 rfl
  have c1 := (k1.below b4).look 1 rfl
  have c2 := (k2.below b4).look 0 rfl
  have c3 := (k2.below b4).look 1 rfl
  go_wp2_with fail
  refine (Sound_any q n d _ _ (h0'.below b4) HQ.out HF.out).mono ?_
  rintro e w5 ⟨rfl, hw5⟩
  rw [HB3.out]
  clear c0 c1 c2 c3
  have b6 := b4.trans (hw5.mono b4.size)
  clear hw5
  cases b3 with
  | true =>
    have hqe : qe = 10 := by rw [← HQE.out]; unfold eqE; rw [if_neg (by rw [HG1.out, HG2.out]; decide), if_pos (.inr HB3.out)]
    have hqb : qb = false := by rw [← HQB.out]; exact eqB_not (by rw [HQE.out, hqe]; decide)
    have HX := hid hqe
    have HY := hid hqb
    clear hqe hqb
    go_wp2
    go_ret2
    exact ⟨by rw [HQE.out, HQB.out, HX.out, HY.out]; rfl, fin.out _ b6⟩
  | false =>
  have hqe : qe = 0 := by rw [← HQE.out]; unfold eqE; rw [if_neg (by rw [HG1.out, HG2.out]; decide), if_neg (by rw [HB1.out, HB3.out]; decide)]
  have HX := hid hqe
  have hqb : qb = (decide (p.n = q.n) && p.rules.all (folB q n d) && q.rules.all (folB p n d)) := by rw [← HQB.out]; unfold eqB; rw [HQE.out, hqe]; simp
  have HY := hid hqb
  clear hqe hqb
  have k06 := k0.below b6
  have k16 := k1.below b6
  have k26 := k2.below b6
  have c0 := k06.look 0 rfl
  have c1 := k16.look 0 rfl
  by_cases hN : p.n = q.n
  case neg =>
    have hqb : qb = false := by rw [HY.out]; simp [hN]
    have HZ := hid hqb
    clear hqb
    go_wp2
    go_ret2
    exact ⟨by rw [HQE.out, HQB.out, HX.out, HZ.out]; rfl, fin.out _ b6⟩
  obtain ⟨N, hNq⟩ : ∃ z, q.n = z := ⟨_, rfl⟩
  rw [hNq] at hN
  have HN := hid hN
  have HNq := hid hNq
  rw [hN] at k06 c0 h0 ⊢
  rw [hNq] at k16 c1 h0' ⊢
  have c2 := k06.look 1 rfl
  obtain ⟨ao, cap, rfl, hcap, hmax, hc⟩ := hs0.below b6
  obtain ⟨ao', cap', rfl, hcap', hmax', hc'⟩ := hs0'.below b6
  obtain ⟨L, hL⟩ : ∃ L, p.rules.length = L := ⟨_, rfl⟩
  obtain ⟨L', hL'⟩ : ∃ L, q.rules.length = L := ⟨_, rfl⟩
  have HL := hid hL
  have HL' := hid hL'
  rw [hL] at hcap h0 c2 k06 ⊢
  rw [hL'] at hcap' h0' k16 ⊢
  unfold maxLen at hmax hmax'
  clear hN hNq hL hL' hs0 hs0' k0 k1 k2 b2 b4
  go_wp2_with fail
  clear c0 c1 c2
  have hlt6 := k26.lt
  generalize w5 = wa at *
  go_loopw [40] (fun x wr => ∃ i : Nat, x = .int .i64 i ∧ i ≤ L ∧ (∀ r ∈ p.rules.take i, folB q n d r = true) ∧ Below wa.heap.size wa wr) (fun x _ => L - (intOf x).toNat)
  case atStart => exact ⟨0, rfl, Nat.zero_le _, by simp, Below.refl _ _⟩
  case round =>
    obtain ⟨i, rfl, hi, hall, hbel⟩ := hrel
    by_cases hiL : i < L
    · obtain ⟨r, hr⟩ := ex_rule (l := p.rules) (i := i) (by rw [HL.out]; omega)
      obtain ⟨b9, off9, rfl, hb9, c0, c1, c2, c3⟩ := ru_cell hc hr
      replace c0 := (hbel.cell (p := ⟨b9, off9 + i * 4, none⟩) hb9).trans c0
      replace c1 := (hbel.cell (p := ⟨b9, off9 + i * 4 + 1, none⟩) hb9).trans c1
      replace c2 := (hbel.cell (p := ⟨b9, off9 + i * 4 + 2, none⟩) hb9).trans c2
      replace c3 := (hbel.cell (p := ⟨b9, off9 + i * 4 + 3, none⟩) hb9).trans c3
      have hrv : RV q.n r := by have := HP.out.2.2.2 r (rule_mem hr); rw [HNq.out, ← HN.out]; exact this
      have hiL2 : (i : Int) < (L : Int) := by omega
      obtain ⟨fb, hfb⟩ : ∃ b, folB q n d r = b := ⟨_, rfl⟩
      have HFB := hid hfb
      have HR := hid hr
      have HRV := hid hrv
      clear hfb hr hrv
      have k1r := k16.below hbel
      have k2r := k26.below hbel
      have hbA := (Below.refl wr.heap.size wr).alloc (Nat.le_refl _) (.cells #[.int .i64 r.a, .int .i64 r.b, .int .i64 r.c, .int .i64 r.d] 46)
      have kb := Blk.new wr #[.int .i64 r.a, .int .i64 r.b, .int .i64 r.c, .int .i64 r.d] 46
      have d0 := (k1r.below hbA).look 0 rfl
      have d1 := (k1r.below hbA).look 1 rfl
      have d2 := (k2r.below hbA).look 0 rfl
      have d3 := (k2r.below hbA).look 1 rfl
      have d4 := kb.look 0 rfl
      have d5 := kb.look 1 rfl
      have d6 := kb.look 2 rfl
      have d7 := kb.look 3 rfl
      go_wp2_with fail
      refine (follows_any q n d r _ _ (h0'.below ((b6.trans (hbel.mono b6.size)).trans (hbA.mono (Nat.le_trans b6.size hbel.size)))) HQ.out HF.out HB3.out HRV.out).mono ?_
      rintro e w7 ⟨rfl, hb7⟩
      rw [HFB.out]
      have hbel7 := hbel.trans (hbA.trans (hb7.mono hbA.size) |>.mono hbel.size)
      clear c0 c1 c2 c3 d0 d1 d2 d3 d4 d5 d6 d7 kb hbA hb7
      cases fb with
      | true =>
        go_wp2_with fail
        refine ⟨⟨i + 1, by go_num, by omega, all_prefix HR.out hall HFB.out, hbel7⟩, by simp [intOf]; omega⟩
      | false =>
        have hqb : qb = false := by
          rw [HY.out]
          have : p.rules.all (folB q n d) = false := by
            rw [List.all_eq_false]
            exact ⟨r, rule_mem HR.out, by rw [HFB.out]; decide⟩
          rw [this]; simp
        have HZ := hid hqb
        clear hqb
        go_wp2
        go_ret2
        exact ⟨by rw [HQE.out, HQB.out, HX.out, HZ.out]; rfl, fin.out _ (b6.trans (hbel7.mono b6.size))⟩
    · obtain rfl : i = L := by omega
      have hall1 : p.rules.all (folB q n d) = true := by
        rw [List.all_eq_true]
        intro r hr
        exact hall r (by rw [List.take_of_length_le (by rw [HL.out]; omega)]; exact hr)
      have HA1 := hid hall1
      clear hall hall1
      have k1r := k16.below hbel
      have c1 := k1r.look 1 rfl
      go_wp2_with fail
      clear c1
      generalize wr = wb at *
      go_loopw [53] (fun x wr => ∃ j : Nat, x = .int .i64 j ∧ j ≤ L' ∧ (∀ r ∈ q.rules.take j, folB p n d r = true) ∧ Below wb.heap.size wb wr) (fun x _ => L' - (intOf x).toNat)
      case atStart => exact ⟨0, rfl, Nat.zero_le _, by simp, Below.refl _ _⟩
      case round =>
        obtain ⟨j, rfl, hj, hall, hbel2⟩ := hrel
        have hbw := hbel.trans (hbel2.mono hbel.size)
        by_cases hjL : j < L'
        · obtain ⟨r, hr⟩ := ex_rule (l := q.rules) (i := j) (by rw [HL'.out]; omega)
          obtain ⟨b9, off9, rfl, hb9, c0, c1, c2, c3⟩ := ru_cell hc' hr
          replace c0 := (hbw.cell (p := ⟨b9, off9 + j * 4, none⟩) hb9).trans c0
          replace c1 := (hbw.cell (p := ⟨b9, off9 + j * 4 + 1, none⟩) hb9).trans c1
          replace c2 := (hbw.cell (p := ⟨b9, off9 + j * 4 + 2, none⟩) hb9).trans c2
          replace c3 := (hbw.cell (p := ⟨b9, off9 + j * 4 + 3, none⟩) hb9).trans c3
          have hrv : RV p.n r := by have := HQ.out.2.2.2 r (rule_mem hr); rw [HN.out, ← HNq.out]; exact this
          have hjL2 : (j : Int) < (L' : Int) := by omega
          obtain ⟨fb, hfb⟩ : ∃ b, folB p n d r = b := ⟨_, rfl⟩
          have HFB := hid hfb
          have HR := hid hr
          have HRV := hid hrv
          clear hfb hr hrv
          have k0r := k06.below hbw
          have k2r := k26.below hbw
          have hbA := (Below.refl wr.heap.size wr).alloc (Nat.le_refl _) (.cells #[.int .i64 r.a, .int .i64 r.b, .int .i64 r.c, .int .i64 r.d] 46)
          have kb := Blk.new wr #[.int .i64 r.a, .int .i64 r.b, .int .i64 r.c, .int .i64 r.d] 46
          have d0 := (k0r.below hbA).look 0 rfl
          have d1 := (k0r.below hbA).look 1 rfl
          have d2 := (k2r.below hbA).look 0 rfl
          have d3 := (k2r.below hbA).look 1 rfl
          have d4 := kb.look 0 rfl
          have d5 := kb.look 1 rfl
          have d6 := kb.look 2 rfl
          have d7 := kb.look 3 rfl
          go_wp2_with fail
          refine (follows_any p n d r _ _ (h0.below ((b6.trans (hbw.mono b6.size)).trans (hbA.mono (Nat.le_trans b6.size hbw.size)))) HP.out HF.out HB1.out HRV.out).mono ?_
          rintro e w7 ⟨rfl, hb7⟩
          rw [HFB.out]
          have hbel7 := hbel2.trans (hbA.trans (hb7.mono hbA.size) |>.mono hbel2.size)
          clear c0 c1 c2 c3 d0 d1 d2 d3 d4 d5 d6 d7 kb hbA hb7
          cases fb with
          | true =>
            go_wp2_with fail
            refine ⟨⟨j + 1, by go_num, by omega, all_prefix HR.out hall HFB.out, hbel7⟩, by simp [intOf]; omega⟩
          | false =>
            have hqb : qb = false := by
              rw [HY.out]
              have : q.rules.all (folB p n d) = false := by
                rw [List.all_eq_false]
                exact ⟨r, rule_mem HR.out, by rw [HFB.out]; decide⟩
              rw [this]; simp
            have HZ := hid hqb
            clear hqb
            go_wp2
            go_ret2
            exact ⟨by rw [HQE.out, HQB.out, HX.out, HZ.out]; rfl, fin.out _ (b6.trans ((hbel.trans (hbel7.mono hbel.size)).mono b6.size))⟩
        · obtain rfl : j = L' := by omega
          have hall2 : q.rules.all (folB p n d) = true := by
            rw [List.all_eq_true]
            intro r hr
            exact hall r (by rw [List.take_of_length_le (by rw [HL'.out]; omega)]; exact hr)
          have hqb : qb = true := by rw [HY.out, HA1.out, hall2, HN.out, HNq.out]; simp
          have HZ := hid hqb
          clear hqb hall2
          go_wp2
          go_ret2
          exact ⟨by rw [HQE.out, HQB.out, HX.out, HZ.out]; rfl, fin.out _ (b6.trans (hbw.mono b6.size))⟩

end Go.Proofs.Ytmknengmjepdaaa
