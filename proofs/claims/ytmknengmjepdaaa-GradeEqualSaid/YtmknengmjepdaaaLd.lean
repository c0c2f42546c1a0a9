/- Walk of tranklaw04.GradeEqual. -/
import Derived.Test.YtmknengmjepdaaaJx
import Derived.Test.YtmknengmjepdaaaHc
namespace Go.Proofs.Ytmknengmjepdaaa
open Go.RowKit
attribute [local irreducible] seqS seqST

theorem eqE71 (p q : Pat) (n d : Int) : eqE (p71 p) (p71 q) n d = eqE p q n d := by
  rcases p71_cases p with hp | ⟨hp1, hp2⟩
  · rw [hp]
    rcases p71_cases q with hq | ⟨hq1, hq2⟩
    · rw [hq]
    · unfold eqE
      rw [if_pos (.inr (by rw [decide_eq_false hq2]; rfl)), if_pos (.inr (by rw [decide_eq_false hq1]; rfl))]
  · unfold eqE
    rw [if_pos (.inl (by rw [decide_eq_false hp2]; rfl)), if_pos (.inl (by rw [decide_eq_false hp1]; rfl))]
theorem eqB71 (p q : Pat) (n d : Int) : eqB (p71 p) (p71 q) n d = eqB p q n d := by
  by_cases h0 : eqE p q n d = 0
  · have hv : PValid p ∧ PValid q := by
      constructor
      · apply Decidable.byContradiction; intro hp
        unfold eqE at h0
        rw [if_pos (.inl (by rw [decide_eq_false hp]; rfl))] at h0
        cases h0
      · apply Decidable.byContradiction; intro hp
        unfold eqE at h0
        rw [if_pos (.inr (by rw [decide_eq_false hp]; rfl))] at h0
        cases h0
    have e1 : p71 p = p := (p71_cases p).resolve_right fun h => h.1 hv.1
    have e2 : p71 q = q := (p71_cases q).resolve_right fun h => h.1 hv.2
    rw [e1, e2]
  · rw [eqB_not h0, eqB_not (by rw [eqE71]; exact h0)]
theorem keepE {W : World} {S : Nat} {a b a' b' : Value} {n d : Int} {s t u : TypeId} (k0 : Blk W S #[a, b] s) (k1 : Blk W (S + 1) #[a', b'] t) (k2 : Blk W (S + 1 + 1) #[.int .i64 n, .int .i64 d] u) : ∀ x : Sub W,
    x.w.cell? ⟨S, 0, none⟩ = some a ∧ x.w.cell? ⟨S, 1, none⟩ = some b ∧ x.w.cell? ⟨S + 1, 0, none⟩ = some a' ∧ x.w.cell? ⟨S + 1, 1, none⟩ = some b' ∧ x.w.cell? ⟨S + 1 + 1, 0, none⟩ = some (.int .i64 n) ∧ x.w.cell? ⟨S + 1 + 1, 1, none⟩ = some (.int .i64 d) :=
  fun x => ⟨(k0.below x.b).look 0 rfl, (k0.below x.b).look 1 rfl, (k1.below x.b).look 0 rfl, (k1.below x.b).look 1 rfl, (k2.below x.b).look 0 rfl, (k2.below x.b).look 1 rfl⟩

set_option maxHeartbeats 4000000 in
set_option maxRecDepth 100000 in
theorem GradeEqual_any (p q : Pat) (n d : Int) (v u : Value) (w : World) (h : PatF 0 w v p) (h' : PatF 0 w u q) :
    Calls Try.prog 8 #[v, u, .agg #[.int .i64 n, .int .i64 d]] w fun e w' => e = .returned (.bool true) ∧ Below w.heap.size w w' := by
  obtain ⟨sv, rfl, -⟩ := id h
  obtain ⟨su, rfl, -⟩ := id h'
  go_enter Try.func8, Try.ntmps8
  go_wp2_with fail
  obtain ⟨w0, hw0, k0, k1, k2, hB, hsz⟩ := three_new w #[.int .i64 p.n, sv] #[.int .i64 q.n, su] #[.int .i64 n, .int .i64 d] 24 24 26
  rw [hw0]
  clear hw0
  have fin : Hid (∀ W, Below w0.heap.size w0 W → Below w.heap.size w W) := hid (fun W hb => hB.trans (hb.mono hB.size))
  have h0 := h.below hB
  have h0' := h'.below hB
  obtain ⟨S, hS⟩ : ∃ S, w.heap.size = S := ⟨_, rfl⟩
  rw [hS] at k0 k1 k2 hsz ⊢
  clear hS h h' hB
  have b1 : Below w0.heap.size w0 w0.drew := (Below.refl _ _).drew
  have Z := keepE (k0.below b1) (k1.below b1) (k2.below b1)
  refine wp_seq [(0, false), (2, false), (4, false), (1, true), (3, true), (5, true), (6, false), (7, false), (8, false), (9, false), (10, false)] [(_, false), (_, false), (_, false), (_, true), (_, true), (_, true), (_, false), (_, false), (_, false), (_, false), (_, false)] (by kernel_rfl) rfl rfl (by kernel_rfl) ?_
  iterate 3 (refine seqS_read (fun K hK => ?_); go_simp; refine hK _ ?_; clear hK K)
  clear Z
  (refine seqS_call (fun K hK => ?_); go_simp; refine (of_any p _ _ (h0.below b1)).mono ?_; rintro e w1 ⟨v1, rfl, hv1, hb1⟩; refine ⟨_, rfl, hK _ _ hb1 ?_⟩; clear hK K)
  have b2 := b1.trans (hb1.mono b1.size)
  (refine seqS_call (fun K hK => ?_); go_simp; refine (of_any q _ _ (h0'.below b2)).mono ?_; rintro e w2 ⟨v2, rfl, hv2, hb2⟩; refine ⟨_, rfl, hK _ _ hb2 ?_⟩; clear hK K)
  have b3 := b2.trans (hb2.mono b2.size)
  (refine seqS_call (fun K hK => ?_); go_simp; refine (gEqual_any (p71 p) (p71 q) n d _ _ _ ((hv1.below hb2).mono (Nat.zero_le _)) (hv2.mono (Nat.zero_le _))).mono ?_; rintro e w3 ⟨rfl, hb3⟩; rw [eqB71, eqE71]; refine ⟨_, rfl, hK _ _ hb3 ?_⟩; clear hK K)
  have b4 := b3.trans (hb3.mono b3.size)
  iterate 5 (refine seqS_read (fun K hK => ?_); go_simp; refine hK _ ?_; clear hK K)
  refine seqS_nil ?_
  clear hb1 hb2 hb3 hv1 hv2 b1 b2 b3
  obtain ⟨E, hE⟩ : ∃ E, eqE p q n d = E := ⟨_, rfl⟩
  obtain ⟨B, hBq⟩ : ∃ E, eqB p q n d = E := ⟨_, rfl⟩
  have HE := hid hE
  have HBB := hid hBq
  rw [hE, hBq]
  clear hE hBq
  have c0 := (k0.below b4).look 0 rfl
  have c1 := (k0.below b4).look 1 rfl
  have c2 := (k1.below b4).look 0 rfl
  have c3 := (k1.below b4).look 1 rfl
  have c4 := (k2.below b4).look 0 rfl
  have c5 := (k2.below b4).look 1 rfl
  go_wp2_with fail
  refine (rEqual_any p q n d _ _ _ (h0.below b4) (h0'.below b4)).mono ?_
  rintro e w5 ⟨rfl, hb5⟩
  rw [HE.out, HBB.out]
  have b6 := b4.trans (hb5.mono b4.size)
  clear c0 c1 c2 c3 c4 c5
  go_wp2_with fail
  refine (awake_any w5).mono ?_
  rintro e w6 ⟨rfl, hb6⟩
  go_wp2
  go_ret
  exact ⟨rfl, fin.out _ (b6.trans (hb6.mono b6.size))⟩

end Go.Proofs.Ytmknengmjepdaaa
