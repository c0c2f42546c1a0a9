/- Walks of grade.Implied and trankref04.Implied. -/
import Derived.Test.YtmknengmjepdaaaWd
import Derived.Test.YtmknengmjepdaaaHa
import Derived.Test.YtmknengmjepdaaaJx
namespace Go.Proofs.Ytmknengmjepdaaa
open Go.RowKit
attribute [local irreducible] seqS seqST walkV walkJ

def impIn (p : Pat) (n d k : Int) : Prop := PValid p ∧ FSize n d ∧ 0 ≤ k ∧ k < p.rules.length
theorem impE_two {p : Pat} {n d k : Int} (h : ¬ impIn p n d k) : impE p n d k = 2 ∧ impB p n d k = false := by
  have h1 : impE p n d k = 2 := by unfold impE; exact if_neg h
  exact ⟨h1, by unfold impB; rw [h1]; rfl⟩
theorem impE_ten {p : Pat} {n d k : Int} (h : impIn p n d k) (hb : chBad p n d = true) : impE p n d k = 10 ∧ impB p n d k = false := by
  have h1 : impE p n d k = 10 := by unfold impE; exact (if_pos h).trans (if_pos hb)
  exact ⟨h1, by unfold impB; rw [h1]; rfl⟩
theorem impE_ok {p : Pat} {n d : Int} {k : Nat} (h : impIn p n d k) (hb : chBad p n d = false) : impE p n d k = 0 ∧ impB p n d k = folB (lessP p k) n d (p.rules.getD k ⟨0, 0, 0, 0⟩) := by
  have h1 : impE p n d k = 0 := by unfold impE; exact (if_pos h).trans (if_neg (by rw [hb]; decide))
  exact ⟨h1, by unfold impB; rw [h1, Int.toNat_natCast]; rfl⟩
theorem ret_imp {b b' : Bool} {e e' : Int} (h : e = e' ∧ b = b') : Ending.returned (.tuple #[.bool b', .int .i64 e']) = .returned (.tuple #[.bool b, .int .i64 e]) := by rw [h.1, h.2]

set_option maxHeartbeats 4000000 in
set_option maxRecDepth 100000 in
theorem gImplied_any (p : Pat) (n d k : Int) (v : Value) (w : World) (h : PatF 0 w v p) :
    Calls Try.prog 60 #[v, .agg #[.int .i64 n, .int .i64 d], .int .i64 k] w fun e w' => e = .returned (.tuple #[.bool (impB p n d k), .int .i64 (impE p n d k)]) ∧ Below w.heap.size w w' := by
  obtain ⟨sv, rfl, ao, cap, rfl, hcap, hmax, -⟩ := id h
  unfold maxLen at hmax
  obtain ⟨L, hL⟩ : ∃ L, p.rules.length = L := ⟨_, rfl⟩
  rw [hL] at h hcap ⊢
  have HL := hid hL
  clear hL
  obtain ⟨bb, hbb⟩ : ∃ b, impB p n d k = b := ⟨_, rfl⟩
  obtain ⟨ee, hee⟩ : ∃ b, impE p n d k = b := ⟨_, rfl⟩
  rw [hbb, hee]
  have HBB := hid hbb
  have HEE := hid hee
  clear hbb hee
  go_enter Try.func60, Try.ntmps60
  go_wp2_with fail
  obtain ⟨w0, hw0, k0, k1, hB, hsz⟩ := one_new w #[.int .i64 p.n, .slice ao L cap] #[.int .i64 n, .int .i64 d] 33 26
  rw [hw0]
  clear hw0
  have h0 := h.below hB
  have c0 := k0.look 0 rfl
  have c1 := k0.look 1 rfl
  go_wp2_with fail
  refine (gValid_any p _ _ h0).mono ?_
  rintro e w1 ⟨rfl, hb1⟩
  clear c0 c1
  have hB1 := hB.trans (hb1.mono hB.size)
  by_cases hp : PValid p
  case neg =>
    rw [decide_eq_false hp]
    have HNO := hid (impE_two (n := n) (d := d) (k := k) (fun hh => hp hh.1))
    rw [HEE.out, HBB.out] at HNO
    clear hp
    go_wp2
    go_ret2
    exact ⟨ret_imp HNO.out, hB1⟩
  rw [decide_eq_true hp]
  have HP := hid hp
  clear hp
  have k01 := k0.below hb1
  have k11 := k1.below hb1
  have h1 := h0.below hb1
  have c0 := k11.look 0 rfl
  have c1 := k11.look 1 rfl
  go_wp2_with fail
  refine (sized_any n d _).mono ?_
  rintro e w2 ⟨rfl, hb2⟩
  clear c0 c1
  have hB2 := hB1.trans (hb2.mono hB1.size)
  by_cases hs : FSize n d
  case neg =>
    rw [decide_eq_false hs]
    have HNO := hid (impE_two (p := p) (k := k) (fun hh => hs hh.2.1))
    rw [HEE.out, HBB.out] at HNO
    clear hs
    go_wp2
    go_ret2
    exact ⟨ret_imp HNO.out, hB2⟩
  rw [decide_eq_true hs]
  have HF := hid hs
  clear hs
  have k02 := k01.below hb2
  have k12 := k11.below hb2
  have h2 := h1.below hb2
  have c0 := k02.look 0 rfl
  have c1 := k02.look 1 rfl
  have c2 := k12.look 0 rfl
  have c3 := k12.look 1 rfl
  have hcase : k < 0 ∨ (¬ k < 0 ∧ (L : Int) ≤ k) ∨ (¬ k < 0 ∧ ¬ (L : Int) ≤ k) := by omega
  rcases hcase with h3 | ⟨h3, h4⟩ | ⟨h3, h4⟩
  · have HNO := hid (impE_two (p := p) (n := n) (d := d) (k := k) (fun hh => by have := hh.2.2.1; omega))
    rw [HEE.out, HBB.out] at HNO
    go_wp2
    go_ret2
    exact ⟨ret_imp HNO.out, hB2⟩
  · have HNO := hid (impE_two (p := p) (n := n) (d := d) (k := k) (fun hh => by have := hh.2.2.2; rw [HL.out] at this; omega))
    rw [HEE.out, HBB.out] at HNO
    go_wp2
    go_ret2
    exact ⟨ret_imp HNO.out, hB2⟩
  · obtain ⟨K, rfl⟩ : ∃ K : Nat, k = K := ⟨k.toNat, by omega⟩
    have hKL : K < L := by omega
    have HIN := hid (show impIn p n d (K : Int) from ⟨HP.out, HF.out, by omega, by rw [HL.out]; omega⟩)
    go_wp2_with fail
    refine (checked_any p n d _ _ h2).mono ?_
    rintro e w3 ⟨⟨vx, rfl, -, -⟩, hb3⟩
    rw [leastE_of HP.out HF.out]
    clear c0 c1 c2 c3
    have hB3 := hB2.trans (hb3.mono hB2.size)
    have k03 := k02.below hb3
    have k13 := k12.below hb3
    have h3' := h2.below hb3
    have c0 := k03.look 0 rfl
    have c1 := k03.look 1 rfl
    have c2 := k13.look 0 rfl
    have c3 := k13.look 1 rfl
    obtain ⟨d1, hd1⟩ : ∃ b, chBad p n d = b := ⟨_, rfl⟩
    rw [hd1]
    have HD1 := hid hd1
    clear hd1
    cases d1 with
    | true =>
      rw [if_pos rfl]
      have HNO := hid (impE_ten HIN.out HD1.out)
      rw [HEE.out, HBB.out] at HNO
      go_wp2
      go_ret2
      exact ⟨ret_imp HNO.out, hB3⟩
    | false =>
      rw [if_neg (by decide)]
      have HNO := hid (impE_ok HIN.out HD1.out)
      rw [HEE.out, HBB.out] at HNO
      go_wp2_with fail
      refine (implied_any p n d K _ _ h3' HP.out HF.out HD1.out (by rw [HL.out]; exact hKL)).mono ?_
      rintro e w4 ⟨rfl, hb4⟩
      clear c0 c1 c2 c3
      rw [← HNO.out.2]
      have hB4 := hB3.trans (hb4.mono hB3.size)
      have HE := hid HNO.out.1
      go_wp2
      go_ret2
      exact ⟨by rw [HE.out]; rfl, hB4⟩

set_option maxHeartbeats 4000000 in
set_option maxRecDepth 100000 in
theorem rImplied_any (p : Pat) (n d k : Int) (v : Value) (w : World) (h : PatF 0 w v p) :
    Calls Try.prog 61 #[v, .agg #[.int .i64 n, .int .i64 d], .int .i64 k] w fun e w' => e = .returned (.tuple #[.bool (impB p n d k), .int .i64 (impE p n d k)]) ∧ Below w.heap.size w w' := by
  obtain ⟨ao, cap, rfl, hcap, hmax, hc⟩ := h.shape
  unfold maxLen at hmax
  obtain ⟨L, hL⟩ : ∃ L, p.rules.length = L := ⟨_, rfl⟩
  rw [hL] at h hcap ⊢
  have HL := hid hL
  have HC := hid hc
  clear hL hc
  obtain ⟨bb, hbb⟩ : ∃ b, impB p n d k = b := ⟨_, rfl⟩
  obtain ⟨ee, hee⟩ : ∃ b, impE p n d k = b := ⟨_, rfl⟩
  rw [hbb, hee]
  have HBB := hid hbb
  have HEE := hid hee
  clear hbb hee
  go_enter Try.func61, Try.ntmps61
  go_wp2_with fail
  obtain ⟨w0, hw0, k0, k1, hB, hsz⟩ := one_new w #[.int .i64 p.n, .slice ao L cap] #[.int .i64 n, .int .i64 d] 24 26
  rw [hw0]
  clear hw0
  have h0 := h.below hB
  have c0 := k0.look 0 rfl
  have c1 := k0.look 1 rfl
  have c2 := k1.look 0 rfl
  have c3 := k1.look 1 rfl
  go_wp2_with fail
  refine (Good_any p n d _ _ h0).mono ?_
  rintro e w1 ⟨rfl, hb1⟩
  clear c0 c1 c2 c3
  have hB1 := hB.trans (hb1.mono hB.size)
  have k01 := k0.below hb1
  have k11 := k1.below hb1
  have h1 := h0.below hb1
  have c0 := k01.look 0 rfl
  have c1 := k01.look 1 rfl
  have c2 := k11.look 0 rfl
  have c3 := k11.look 1 rfl
  have hcase : (¬ (PValid p ∧ FSize n d)) ∨ ((PValid p ∧ FSize n d) ∧ k < 0) ∨ ((PValid p ∧ FSize n d) ∧ ¬ k < 0 ∧ (L : Int) ≤ k) ∨ ((PValid p ∧ FSize n d) ∧ ¬ k < 0 ∧ ¬ (L : Int) ≤ k) := by
    by_cases hh : PValid p ∧ FSize n d
    · rcases (by omega : k < 0 ∨ (¬ k < 0 ∧ (L : Int) ≤ k) ∨ (¬ k < 0 ∧ ¬ (L : Int) ≤ k)) with h | h | h
      · exact .inr (.inl ⟨hh, h⟩)
      · exact .inr (.inr (.inl ⟨hh, h⟩))
      · exact .inr (.inr (.inr ⟨hh, h⟩))
    · exact .inl hh
  rcases hcase with h3 | ⟨⟨h5, h6⟩, h3⟩ | ⟨⟨h5, h6⟩, h3, h4⟩ | ⟨⟨h5, h6⟩, h3, h4⟩
  · have hbb : (decide (PValid p) && decide (FSize n d)) = false := by
      rw [← Bool.decide_and]; exact decide_eq_false h3
    have HNO := hid (impE_two (p := p) (n := n) (d := d) (k := k) (fun hh => h3 ⟨hh.1, hh.2.1⟩))
    rw [HEE.out, HBB.out] at HNO
    rw [hbb]
    clear h3 hbb
    go_wp2
    go_ret2
    exact ⟨ret_imp HNO.out, hB1⟩
  · have HNO := hid (impE_two (p := p) (n := n) (d := d) (k := k) (fun hh => by have := hh.2.2.1; omega))
    rw [HEE.out, HBB.out] at HNO
    rw [decide_eq_true h5, decide_eq_true h6, Bool.and_self]
    clear h5 h6
    go_wp2
    go_ret2
    exact ⟨ret_imp HNO.out, hB1⟩
  · have HNO := hid (impE_two (p := p) (n := n) (d := d) (k := k) (fun hh => by have := hh.2.2.2; rw [HL.out] at this; omega))
    rw [HEE.out, HBB.out] at HNO
    rw [decide_eq_true h5, decide_eq_true h6, Bool.and_self]
    clear h5 h6
    go_wp2
    go_ret2
    exact ⟨ret_imp HNO.out, hB1⟩
  · obtain ⟨K, rfl⟩ : ∃ K : Nat, k = K := ⟨k.toNat, by omega⟩
    have hKL : K < L := by omega
    have HP := hid h5
    have HF := hid h6
    rw [decide_eq_true h5, decide_eq_true h6, Bool.and_self]
    clear h5 h6
    have HIN := hid (show impIn p n d (K : Int) from ⟨HP.out, HF.out, by omega, by rw [HL.out]; omega⟩)
    go_wp2_with fail
    refine (Sound_any p n d _ _ h1 HP.out HF.out).mono ?_
    rintro e w3 ⟨rfl, hb3⟩
    clear c0 c1 c2 c3
    have hB3 := hB1.trans (hb3.mono hB1.size)
    have k03 := k01.below hb3
    have k13 := k11.below hb3
    have h3' := h1.below hb3
    obtain ⟨d1, hd1⟩ : ∃ b, chBad p n d = b := ⟨_, rfl⟩
    rw [hd1]
    have HD1 := hid hd1
    clear hd1
    cases d1 with
    | true =>
      have HNO := hid (impE_ten HIN.out HD1.out)
      rw [HEE.out, HBB.out] at HNO
      go_wp2
      go_ret2
      exact ⟨ret_imp HNO.out, hB3⟩
    | false =>
      have HNO := hid (impE_ok HIN.out HD1.out)
      rw [HEE.out, HBB.out] at HNO
      obtain ⟨r, hr⟩ : ∃ r, p.rules.getD K ⟨0, 0, 0, 0⟩ = r := ⟨_, rfl⟩
      have hg := getD_rule (p := p) (k := K) (by rw [HL.out]; exact hKL)
      rw [hr] at hg
      obtain ⟨b9, off9, rfl, -⟩ := ru_cell HC.out hg
      have hrv : RV p.n r := HP.out.2.2.2 r (rule_mem hg)
      have hbl := less_bad HP.out HF.out K HD1.out
      have hpl := less_valid HP.out K
      have FOLL := hid (fun v w hv => follows_any (lessP p K) n d r v w hv hpl HF.out hbl hrv)
      have LESS := hid (fun v w hv => rLess_any p K v w hv (by rw [HL.out]; exact hKL) HP.out.2.2.1)
      have hres := HNO.out.2
      rw [hr] at hres
      rw [← hres] at FOLL
      have HG := hid hg
      have HC3 := hid (HC.out.below hB3)
      have HE := hid HNO.out.1
      obtain ⟨ra, rb, rc, rd⟩ := r
      have hK1 : (K : Int) < (L : Int) := by omega
      clear hg hr hrv hbl hpl hres HNO
      go_wp2_with fail
      have hd := (Below.refl w3.heap.size w3).drew
      have z0 := fun x : SubT (Below w3.heap.size) w3.drew => (k03.below (hd.trans x.b)).look 0 rfl
      have z1 := fun x : SubT (Below w3.heap.size) w3.drew => (k03.below (hd.trans x.b)).look 1 rfl
      have z2 := fun x : SubT (Below w3.heap.size) w3.drew => (k13.below (hd.trans x.b)).look 0 rfl
      have z3 := fun x : SubT (Below w3.heap.size) w3.drew => (k13.below (hd.trans x.b)).look 1 rfl
      have z4 := fun x : SubT (Below w3.heap.size) w3.drew => (ru_at (HC3.out.below (hd.trans x.b)) HG.out).1
      have z5 := fun x : SubT (Below w3.heap.size) w3.drew => (ru_at (HC3.out.below (hd.trans x.b)) HG.out).2.1
      have z6 := fun x : SubT (Below w3.heap.size) w3.drew => (ru_at (HC3.out.below (hd.trans x.b)) HG.out).2.2.1
      have z7 := fun x : SubT (Below w3.heap.size) w3.drew => (ru_at (HC3.out.below (hd.trans x.b)) HG.out).2.2.2
      refine wp_walkJ (T := Below (w3.heap.size)) (belowV_pre _) (.rd 0 (.rd 1 (.rd 3 (.rd 4 (.rd 5 (.rd 6 (.rd 7 (.rd 8 (.mv 2 (.bt 9 (.rd 10 (.rd 11 (.inv []))))))))))))) (by kernel_rfl) rfl (by kernel_rfl) (by kernel_rfl) ?_
      iterate 8 (refine walkJ_rd rfl (fun K hK => ?_); go_simp; refine hK _ ?_; clear hK K)
      clear z0 z1 z2 z3 z4 z5 z6 z7
      (refine walkJ_mv rfl (fun K hK => ?_); go_simp; refine (LESS.out _ _ (h3'.below hd)).mono ?_; rintro e w4 ⟨v4, rfl, hv4, hb4⟩; refine ⟨_, rfl, hK _ _ hb4 ?_⟩; clear hK K)
      (refine walkJ_bt rfl (fun K hK => ?_); go_simp; refine (FOLL.out _ _ (hv4.mono (Nat.zero_le _))).mono ?_; rintro e w5 ⟨rfl, hb5⟩; refine ⟨_, rfl, hK _ _ ?_⟩; clear hK K)
      iterate 2 (refine walkJ_rd rfl (fun K hK => ?_); go_simp; refine hK _ ?_; clear hK K)
      refine walkJ_nil ?_
      have hB5 := (hB3.drew.trans (hb4.mono hB3.size)).trans (hb5.mono (Nat.le_trans hB3.size hb4.size))
      go_wp2
      go_ret2
      exact ⟨by rw [HE.out]; rfl, hB5⟩

end Go.Proofs.Ytmknengmjepdaaa
