/- Walk of tranklaw04.GradeSizes. -/
import Derived.Test.YtmknengmjepdaaaJx
import Derived.Test.YtmknengmjepdaaaSh
namespace Go.Proofs.Ytmknengmjepdaaa
open Go.RowKit

theorem gsz71 {p : Pat} {a b c e E : Int} (h : GSz (p71 p) a b c e E) : GSz p a b c e E := by
  rcases p71_cases p with h1 | ⟨h1, h2⟩
  · rw [h1] at h; exact h
  · rcases h with ⟨_, h3⟩ | ⟨h3, _⟩ | ⟨h3, _⟩
    · exact .inl ⟨h1, h3⟩
    · exact absurd h3 h2
    · exact absurd h3 h2

set_option maxHeartbeats 4000000 in
set_option maxRecDepth 100000 in
theorem GradeSizes_any (p : Pat) (v : Value) (w : World) (h : PatF 0 w v p) :
    Calls Try.prog 10 #[v] w fun e w' => e = .returned (.bool true) ∧ Below w.heap.size w w' := by
  obtain ⟨sv, rfl, -⟩ := id h
  have H := hid h
  go_enter Try.func10, Try.ntmps10
  go_wp2_with fail
  have k0 := Blk.new w #[.int .i64 p.n, sv] 24
  have b0 := (Below.refl w.heap.size w).alloc (Nat.le_refl _) (.cells #[.int .i64 p.n, sv] 24)
  obtain ⟨w0, hw0⟩ : ∃ w0, w.alloc (.cells #[.int .i64 p.n, sv] 24) = w0 := ⟨_, rfl⟩
  rw [hw0] at k0 b0 ⊢
  clear hw0 h
  have c0 := k0.look 0 rfl
  have c1 := k0.look 1 rfl
  go_wp2_with fail
  refine (of_any p _ _ (H.out.below b0)).mono ?_
  rintro e w1 ⟨v1, rfl, hv1, hb1⟩
  replace b0 := b0.trans (hb1.mono b0.size)
  replace k0 := k0.below hb1
  obtain ⟨s1, rfl, -⟩ := id hv1
  clear c0 c1 hb1
  go_wp2_with fail
  refine (gSizes_any (p71 p) _ _ (hv1.mono (Nat.zero_le _))).mono ?_
  rintro e w2 ⟨⟨ln, ld, hn, hd, E, rfl, hg⟩, hb2⟩
  have HG := hid (gsz71 hg)
  replace b0 := b0.trans (hb2.mono b0.size)
  replace k0 := k0.below hb2
  have hs2 := b0.size
  clear hg hb2 hv1
  have y0 := (Blk.new w2 #[.int .i64 ln, .int .i64 ld] 26).alloc (.cells #[.int .i64 hn, .int .i64 hd] 26)
  have y1 := Blk.new (w2.alloc (.cells #[.int .i64 ln, .int .i64 ld] 26)) #[.int .i64 hn, .int .i64 hd] 26
  have b1 := (b0.alloc hs2 (.cells #[.int .i64 ln, .int .i64 ld] 26)).alloc (by simp <;> omega) (.cells #[.int .i64 hn, .int .i64 hd] 26)
  have k1 := (k0.alloc (.cells #[.int .i64 ln, .int .i64 ld] 26)).alloc (.cells #[.int .i64 hn, .int .i64 hd] 26)
  have c0 := k1.look 0 rfl
  have c1 := k1.look 1 rfl
  simp only [World.size_alloc] at y1
  go_wp2_with fail
  obtain ⟨w3, hw3⟩ : ∃ w3, (w2.alloc (.cells #[.int .i64 ln, .int .i64 ld] 26)).alloc (.cells #[.int .i64 hn, .int .i64 hd] 26) = w3 := ⟨_, rfl⟩
  obtain ⟨B, hBB⟩ : ∃ B, w2.heap.size = B := ⟨_, rfl⟩
  rw [hw3] at y0 y1 b1 c0 c1 k1 ⊢
  rw [hBB] at y0 y1 ⊢
  clear hw3 hBB b0 hs2 k0
  refine (rSizes_any p _ _ (H.out.below b1)).mono ?_
  rintro e w4 ⟨⟨ln2, ld2, hn2, hd2, E2, rfl, hg2⟩, hb4⟩
  obtain ⟨rfl, rfl, rfl, rfl, rfl⟩ := gsz_unique HG.out hg2
  replace b1 := b1.trans (hb4.mono b1.size)
  replace y0 := y0.below hb4
  replace y1 := y1.below hb4
  clear hb4 c0 c1 k1 hg2
  have hs4 := b1.size
  have u0 := (Blk.new w4 #[.int .i64 ln, .int .i64 ld] 26).alloc (.cells #[.int .i64 hn, .int .i64 hd] 26)
  have u1 := Blk.new (w4.alloc (.cells #[.int .i64 ln, .int .i64 ld] 26)) #[.int .i64 hn, .int .i64 hd] 26
  have b2 := (b1.alloc hs4 (.cells #[.int .i64 ln, .int .i64 ld] 26)).alloc (by simp <;> omega) (.cells #[.int .i64 hn, .int .i64 hd] 26)
  have x0 := (y0.alloc (.cells #[.int .i64 ln, .int .i64 ld] 26)).alloc (.cells #[.int .i64 hn, .int .i64 hd] 26)
  have x1 := (y1.alloc (.cells #[.int .i64 ln, .int .i64 ld] 26)).alloc (.cells #[.int .i64 hn, .int .i64 hd] 26)
  simp only [World.size_alloc] at u1
  have c0 := x0.look 0 rfl
  have c1 := x0.look 1 rfl
  have c2 := x1.look 0 rfl
  have c3 := x1.look 1 rfl
  have c4 := u0.look 0 rfl
  have c5 := u0.look 1 rfl
  have c6 := u1.look 0 rfl
  have c7 := u1.look 1 rfl
  go_wp2_with fail
  refine (awake_any _).mono ?_
  rintro e wz ⟨rfl, hbz⟩
  go_wp2
  go_ret
  exact ⟨rfl, b2.trans (hbz.mono b2.size)⟩

end Go.Proofs.Ytmknengmjepdaaa
