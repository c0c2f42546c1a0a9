/- Walk of tranklaw04.GradeLeast. -/
import Derived.Test.YtmknengmjepdaaaJc
namespace Go.Proofs.Ytmknengmjepdaaa
open Go.RowKit

/-- What 'of' hands on. -/
def p71 (p : Pat) : Pat := ⟨p.n, p.rules.take 71⟩
theorem p71_cases (p : Pat) : p71 p = p ∨ (¬ PValid p ∧ ¬ PValid (p71 p)) := by
  by_cases h : p.rules.length ≤ 71
  · left; unfold p71; rw [List.take_of_length_le h]
  · right
    refine ⟨fun k => by have := k.2.2.1; omega, fun k => ?_⟩
    have := k.2.2.1
    unfold p71 at this
    rw [List.length_take] at this
    omega
theorem rLeastE71 (p : Pat) (n d : Int) : rLeastE (p71 p) n d = rLeastE p n d := by
  rcases p71_cases p with h | ⟨h1, h2⟩
  · rw [h]
  · unfold rLeastE; rw [decide_eq_false h1, decide_eq_false h2]; rfl
theorem rLeastL71 (p : Pat) (n d : Int) : rLeastL (p71 p) n d = rLeastL p n d := by
  rcases p71_cases p with h | ⟨h1, h2⟩
  · rw [h]
  · unfold rLeastL
    have e1 : rLeastE p n d = 2 := by unfold rLeastE; rw [decide_eq_false h1]; simp
    rw [rLeastE71, e1]; rfl
theorem keepPS {W w' : World} {S : Nat} {a b : Value} {n d : Int} {s t : TypeId} (k0 : Blk W S #[a, b] s) (k1 : Blk W (S + 1) #[.int .i64 n, .int .i64 d] t) (hb : Below W.heap.size W w') :
    w'.cell? ⟨S, 0, none⟩ = some a ∧ w'.cell? ⟨S, 1, none⟩ = some b ∧ w'.cell? ⟨S + 1, 0, none⟩ = some (.int .i64 n) ∧ w'.cell? ⟨S + 1, 1, none⟩ = some (.int .i64 d) :=
  ⟨(k0.below hb).look 0 rfl, (k0.below hb).look 1 rfl, (k1.below hb).look 0 rfl, (k1.below hb).look 1 rfl⟩

set_option maxHeartbeats 4000000 in
theorem GradeLeast_any (p : Pat) (n d : Int) (v : Value) (w : World) (h : PatF 0 w v p) :
    Calls Try.prog 3 #[v, .agg #[.int .i64 n, .int .i64 d]] w fun e w' => e = .returned (.bool true) ∧ Below w.heap.size w w' := by
  obtain ⟨sv, rfl, -⟩ := id h
  go_enter Try.func3, Try.ntmps3
  go_wp2_with fail
  obtain ⟨w0, hw0, k0, k1, hB, hsz⟩ := one_new w #[.int .i64 p.n, sv] #[.int .i64 n, .int .i64 d] 24 26
  rw [hw0]
  clear hw0
  have h0 := h.below hB
  obtain ⟨S, hS⟩ : ∃ S, w.heap.size = S := ⟨_, rfl⟩
  rw [hS] at k0 k1 hsz ⊢
  have HS := hid hS
  clear hS
  have hd0 : Below w0.heap.size w0 w0.drew := (Below.refl _ _).drew
  go_region_held3 (fun w' => w'.cell? ⟨S, 0, none⟩ = some (.int .i64 p.n) ∧ w'.cell? ⟨S, 1, none⟩ = some sv ∧ w'.cell? ⟨S + 1, 0, none⟩ = some (.int .i64 n) ∧ w'.cell? ⟨S + 1, 1, none⟩ = some (.int .i64 d))
    (first | (refine keepPS k0 k1 ?_; assumption))
    (first
      | (go_at_call 23; refine (of_any p _ _ (h0.below hd0)).mono ?_; rintro e w1 ⟨v1, rfl, hv1, hb1⟩; have hW1 : Below w0.heap.size w0 w1 := hd0.trans (hb1.mono hd0.size))
      | (go_at_call 22; refine (Least_any (p71 p) n d _ _ (hv1.mono (Nat.zero_le _))).mono ?_; rintro e w2 ⟨⟨vm, rfl, hvm⟩, hb2⟩; have hW2 : Below w0.heap.size w0 w2 := hW1.trans (hb2.mono hW1.size)))
  rw [rLeastE71]
  rw [rLeastL71] at hvm
  obtain ⟨E, hE⟩ : ∃ E, rLeastE p n d = E := ⟨_, rfl⟩
  obtain ⟨L, hL⟩ : ∃ L, rLeastL p n d = L := ⟨_, rfl⟩
  have HE := hid hE
  have HL := hid hL
  rw [hE]
  rw [hL] at hvm
  clear hE hL hd0 hb1 hb2 hW1
  have hB2 : Below S w w2 := by rw [← HS.out]; exact hB.trans (hW2.mono hB.size)
  have k02 := k0.below hW2
  have k12 := k1.below hW2
  have c0 := k02.look 0 rfl
  have c1 := k02.look 1 rfl
  have c2 := k12.look 0 rfl
  have c3 := k12.look 1 rfl
  go_wp2_with fail
  refine (rLeast_any p n d _ _ (h0.below hW2)).mono ?_
  rintro e w3 ⟨⟨vm2, rfl, hvm2⟩, hb3⟩
  rw [HE.out]
  rw [HL.out] at hvm2
  clear c0 c1 c2 c3
  have hB3 := hB2.trans (hb3.mono (by have := hB2.size; have := HS.out; omega))
  go_wp2_with fail
  refine (EqFr_any L L _ _ w3 ((hvm.below hb3).mono (Nat.zero_le _)) (hvm2.mono (Nat.zero_le _))).mono ?_
  rintro e w4 ⟨rfl, hb4⟩
  rw [decide_eq_true rfl]
  have hB4 := hB3.trans (hb4.mono (by have := hB3.size; have := HS.out; omega))
  go_wp2_with fail
  refine (awake_any w4).mono ?_
  rintro e w5 ⟨rfl, hb5⟩
  have hB5 := hB4.trans (hb5.mono (by have := hB4.size; have := HS.out; omega))
  go_wp2
  go_ret
  exact ⟨rfl, by rw [HS.out]; exact hB5⟩

end Go.Proofs.Ytmknengmjepdaaa
