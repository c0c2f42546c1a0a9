/- Walk of tranklaw04.GradeGaps. -/
import Derived.Test.YtmknengmjepdaaaJx
import Derived.Test.YtmknengmjepdaaaHe
namespace Go.Proofs.Ytmknengmjepdaaa
open Go.RowKit
attribute [local irreducible] seqS seqST walkT

theorem gapV71 (p : Pat) (n d a b : Int) : gapV (p71 p) n d a b = gapV p n d a b := by
  rcases p71_cases p with h | ⟨h1, h2⟩
  · rw [h]
  · rw [gapV_two (fun hh => h2 hh.1), gapV_two (fun hh => h1 hh.1)]

set_option maxHeartbeats 8000000 in
set_option maxRecDepth 100000 in
theorem GradeGaps_any (p : Pat) (n d a b : Int) (v : Value) (w : World) (h : PatF 0 w v p) (_ : I64 a ∧ I64 b) :
    Calls Try.prog 9 #[v, .agg #[.int .i64 n, .int .i64 d], .agg #[.int .i64 a, .int .i64 b]] w fun e w' => e = .returned (.bool true) ∧ Below w.heap.size w w' := by
  obtain ⟨sv, rfl, -⟩ := id h
  go_enter Try.func9, Try.ntmps9
  go_wp2_with fail
  obtain ⟨w0, hw0, k0, k1, k2, hB, hsz⟩ := three_new w #[.int .i64 p.n, sv] #[.int .i64 n, .int .i64 d] #[.int .i64 a, .int .i64 b] 24 26 66
  rw [hw0]
  clear hw0
  have fin : Hid (∀ W, Below w0.heap.size w0 W → Below w.heap.size w W) := hid (fun W hb => hB.trans (hb.mono hB.size))
  have h0 := h.below hB
  obtain ⟨S, hS⟩ : ∃ S, w.heap.size = S := ⟨_, rfl⟩
  rw [hS] at k0 k1 k2 hsz ⊢
  clear hS h hB
  obtain ⟨gn, hgn⟩ : ∃ z, gapN p n d a b = z := ⟨_, rfl⟩
  obtain ⟨gd, hgd⟩ : ∃ z, gapD p n d a b = z := ⟨_, rfl⟩
  obtain ⟨gb, hgb⟩ : ∃ z, gapB p n d a b = z := ⟨_, rfl⟩
  obtain ⟨ge, hge⟩ : ∃ z, gapE p n d a b = z := ⟨_, rfl⟩
  have hv : gapV p n d a b = .tuple #[.agg #[.int .i64 gn, .int .i64 gd], .bool gb, .int .i64 ge] := by unfold gapV frV; rw [hgn, hgd, hgb, hge]
  have HV := hid hv
  have GAP : Hid (∀ v w, PatF 0 w v (p71 p) → Calls Try.prog 45 #[v, .agg #[.int .i64 n, .int .i64 d], .int .i64 a, .int .i64 b] w fun e w' => e = .returned (.tuple #[.agg #[.int .i64 gn, .int .i64 gd], .bool gb, .int .i64 ge]) ∧ Below w.heap.size w w') := hid (fun v w hp => by
    have := gGap_any (p71 p) n d a b v w hp
    rw [gapV71, hv] at this
    exact this)
  clear hgn hgd hgb hge hv
  have b1 : Below w0.heap.size w0 w0.drew := (Below.refl _ _).drew
  have z0 := fun x : SubT (Below w0.heap.size) w0.drew => (k0.below (b1.trans x.b)).look 0 rfl
  have z1 := fun x : SubT (Below w0.heap.size) w0.drew => (k0.below (b1.trans x.b)).look 1 rfl
  have z2 := fun x : SubT (Below w0.heap.size) w0.drew => (k1.below (b1.trans x.b)).look 0 rfl
  have z3 := fun x : SubT (Below w0.heap.size) w0.drew => (k1.below (b1.trans x.b)).look 1 rfl
  have z4 := fun x : SubT (Below w0.heap.size) w0.drew => (k2.below (b1.trans x.b)).look 0 rfl
  have z5 := fun x : SubT (Below w0.heap.size) w0.drew => (k2.below (b1.trans x.b)).look 1 rfl
  refine wp_walk (T := Below (w0.heap.size)) (below_pre _) (.rd 0 (.rd 2 (.rd 3 (.rd 4 (.rd 5 (.rd 6 (.two 1 (.two 7 (.rd 8 (.rd 9 (.rd 10 (.rd 11 (.mv 12 (.mv 13 (.rd 14 (.rd 15 .nil)))))))) 12 (.mv 7 (.rd 8 (.rd 9 (.rd 10 (.rd 11 (.mv 13 (.rd 14 (.rd 15 .nil))))))))) 12 (.mv 1 (.mv 7 (.rd 8 (.rd 9 (.rd 10 (.rd 11 (.mv 13 (.rd 14 (.rd 15 .nil)))))))))))))))) (by kernel_rfl) rfl rfl (by kernel_rfl) (by kernel_rfl) ?_
  iterate 6 (refine walkT_rd rfl (fun K hK => ?_); go_simp; refine hK _ ?_; clear hK K)
  clear z0 z1 z2 z3 z4 z5
  obtain ⟨wd, hwd⟩ : ∃ wd, w0.drew = wd := ⟨_, rfl⟩
  have hsd : w0.heap.size = wd.heap.size := by rw [← hwd]; rfl
  rw [hwd] at b1 ⊢
  clear hwd
  refine walkT_two rfl rfl (fun K hK => ?_) (fun K hK => ?_)
  · go_simp
    refine (of_any p _ _ (h0.below b1)).mono ?_
    rintro e w1 ⟨v1, rfl, hv1, hb1⟩
    have hs1 := hb1.size
    refine ⟨_, rfl, hK _ _ (hb1.mono (by omega)) ?_⟩
    clear hK K
    have b2 := b1.trans (hb1.mono (by omega))
    refine walkT_two rfl rfl (fun K hK => ?_) (fun K hK => ?_)
    · go_simp
      refine (GAP.out _ _ (hv1.mono (Nat.zero_le _))).mono ?_
      rintro e w3 ⟨rfl, hb3⟩
      have hs3 := hb3.size
      refine ⟨_, rfl, hK _ _ (hb3.mono (by omega)) ?_⟩
      clear hK K
      have b3 := b2.trans (hb3.mono (by omega))
      iterate 4 (refine walkT_rd rfl (fun K hK => ?_); go_simp; refine hK _ ?_; clear hK K)
      (refine walkT_mv rfl (fun K hK => ?_); go_simp; refine hK _ _ ((Below.refl _ _).alloc (by omega) _) ?_; clear hK K)
      have kv := Blk.new w3 #[.int .i64 0, .int .i64 0] 26
      have ba := b3.alloc (show w0.heap.size ≤ w3.heap.size by omega) (.cells #[.int .i64 0, .int .i64 0] 26)
      have v0 := kv.look 0 rfl
      have v1 := kv.look 1 rfl
      have vf := kv.frozen
      have kv5 := Blk.new w3 #[.int .i64 gn, .int .i64 gd] 26
      have bs0 : Below w0.heap.size (w3.alloc (.cells #[.int .i64 0, .int .i64 0] 26)) (w3.alloc (.cells #[.int .i64 gn, .int .i64 gd] 26)) := alloc_swap (by omega) _ _ _
      have bt := ba.trans bs0
      (refine walkT_mv rfl (fun K hK => ?_); go_simp; refine hK _ _ bs0 ?_; clear hK K)
      clear v0 v1 vf kv
      iterate 2 (refine walkT_rd rfl (fun K hK => ?_); go_simp; refine hK _ ?_; clear hK K)
      refine walkT_nil ?_
      have k0f := k0.below bt
      have k1f := k1.below bt
      have k2f := k2.below bt
      have c0 := k0f.look 0 rfl
      have c1 := k0f.look 1 rfl
      have c2 := k1f.look 0 rfl
      have c3 := k1f.look 1 rfl
      have c4 := k2f.look 0 rfl
      have c5 := k2f.look 1 rfl
      generalize (w3.alloc (.cells #[.int .i64 gn, .int .i64 gd] 26)) = wf at kv5 bt c0 c1 c2 c3 c4 c5 k0f k1f k2f ⊢
      go_wp2_with fail
      refine (rGap_any p n d a b _ _ (h0.below bt)).mono ?_
      rintro e w9 ⟨rfl, hb9⟩
      rw [HV.out]
      clear c0 c1 c2 c3 c4 c5
      have kv9 := kv5.below hb9
      have x0 := kv9.look 0 rfl
      have x1 := kv9.look 1 rfl
      have kn := Blk.new w9 #[.int .i64 gn, .int .i64 gd] 26
      have y0 := kn.look 0 rfl
      have y1 := kn.look 1 rfl
      have x0' := (kv9.alloc (.cells #[.int .i64 gn, .int .i64 gd] 26)).look 0 rfl
      have x1' := (kv9.alloc (.cells #[.int .i64 gn, .int .i64 gd] 26)).look 1 rfl
      have b9 := bt.trans (hb9.mono bt.size)
      go_wp2_with fail
      refine (awake_any _).mono ?_
      rintro e wz ⟨rfl, hbz⟩
      go_wp2
      go_ret
      exact ⟨rfl, fin.out _ ((b9.alloc b9.size _).trans (hbz.mono (Nat.le_trans b9.size (by simp))))⟩
    · go_simp
      have ba1 : Below w0.heap.size w1 (w1.alloc (.cells #[.int .i64 0, .int .i64 0] 26)) := (Below.refl _ _).alloc (by omega) _
      refine hK _ _ ba1 ?_
      clear hK K
      have kv0 := Blk.new w1 #[.int .i64 0, .int .i64 0] 26
      have hv2 := hv1.below ((Below.refl w1.heap.size w1).alloc (Nat.le_refl _) (.cells #[.int .i64 0, .int .i64 0] 26))
      obtain ⟨wn, hwn⟩ : ∃ wn, w1.alloc (.cells #[.int .i64 0, .int .i64 0] 26) = wn := ⟨_, rfl⟩
      rw [hwn] at ba1 kv0 hv2 ⊢
      clear hwn
      have hsn := ba1.size
      have hkl := kv0.lt
      (refine walkT_mv rfl (fun K hK => ?_); go_simp; refine (GAP.out _ _ (hv2.mono (Nat.zero_le _))).mono ?_; rintro e w3 ⟨rfl, hb3⟩; refine ⟨_, rfl, hK _ _ (hb3.mono (by omega)) ?_⟩; clear hK K)
      iterate 4 (refine walkT_rd rfl (fun K hK => ?_); go_simp; refine hK _ ?_; clear hK K)
      have kv := kv0.below hb3
      have ba := (b2.trans ba1).trans (hb3.mono (show w0.heap.size ≤ wn.heap.size by omega))
      have v0 := kv.look 0 rfl
      have v1 := kv.look 1 rfl
      have vf := kv.frozen
      have kv5 := (kv.set 0 (.int .i64 gn)).set 1 (.int .i64 gd)
      have bs0 : Below w0.heap.size w3 ((w3.setCell ⟨w1.heap.size, 0, none⟩ (.int .i64 gn)).setCell ⟨w1.heap.size, 1, none⟩ (.int .i64 gd)) := ((Below.refl _ _).setCell (p := ⟨w1.heap.size, 0, none⟩) (by show w0.heap.size ≤ w1.heap.size; omega) _).setCell (p := ⟨w1.heap.size, 1, none⟩) (by show w0.heap.size ≤ w1.heap.size; omega) _
      have bt := ba.trans bs0
      (refine walkT_mv rfl (fun K hK => ?_); go_simp; refine hK _ _ bs0 ?_; clear hK K)
      clear v0 v1 vf kv
      iterate 2 (refine walkT_rd rfl (fun K hK => ?_); go_simp; refine hK _ ?_; clear hK K)
      refine walkT_nil ?_
      have k0f := k0.below bt
      have k1f := k1.below bt
      have k2f := k2.below bt
      have c0 := k0f.look 0 rfl
      have c1 := k0f.look 1 rfl
      have c2 := k1f.look 0 rfl
      have c3 := k1f.look 1 rfl
      have c4 := k2f.look 0 rfl
      have c5 := k2f.look 1 rfl
      generalize ((w3.setCell ⟨w1.heap.size, 0, none⟩ (.int .i64 gn)).setCell ⟨w1.heap.size, 1, none⟩ (.int .i64 gd)) = wf at kv5 bt c0 c1 c2 c3 c4 c5 k0f k1f k2f ⊢
      go_wp2_with fail
      refine (rGap_any p n d a b _ _ (h0.below bt)).mono ?_
      rintro e w9 ⟨rfl, hb9⟩
      rw [HV.out]
      clear c0 c1 c2 c3 c4 c5
      have kv9 := kv5.below hb9
      have x0 := kv9.look 0 rfl
      have x1 := kv9.look 1 rfl
      have kn := Blk.new w9 #[.int .i64 gn, .int .i64 gd] 26
      have y0 := kn.look 0 rfl
      have y1 := kn.look 1 rfl
      have x0' := (kv9.alloc (.cells #[.int .i64 gn, .int .i64 gd] 26)).look 0 rfl
      have x1' := (kv9.alloc (.cells #[.int .i64 gn, .int .i64 gd] 26)).look 1 rfl
      have b9 := bt.trans (hb9.mono bt.size)
      go_wp2_with fail
      refine (awake_any _).mono ?_
      rintro e wz ⟨rfl, hbz⟩
      go_wp2
      go_ret
      exact ⟨rfl, fin.out _ ((b9.alloc b9.size _).trans (hbz.mono (Nat.le_trans b9.size (by simp))))⟩
  · go_simp
    have ba1 : Below w0.heap.size wd (wd.alloc (.cells #[.int .i64 0, .int .i64 0] 26)) := (Below.refl _ _).alloc (by omega) _
    refine hK _ _ ba1 ?_
    clear hK K
    have kv0 := Blk.new wd #[.int .i64 0, .int .i64 0] 26
    obtain ⟨wn, hwn⟩ : ∃ wn, wd.alloc (.cells #[.int .i64 0, .int .i64 0] 26) = wn := ⟨_, rfl⟩
    rw [hwn] at ba1 kv0 ⊢
    clear hwn
    have hsn := ba1.size
    have hkl := kv0.lt
    have b2 := b1.trans ba1
    (refine walkT_mv rfl (fun K hK => ?_); go_simp; refine (of_any p _ _ (h0.below b2)).mono ?_; rintro e w1 ⟨v1, rfl, hv1, hb1⟩; refine ⟨_, rfl, hK _ _ (hb1.mono (by omega)) ?_⟩; clear hK K)
    have hs1 := hb1.size
    (refine walkT_mv rfl (fun K hK => ?_); go_simp; refine (GAP.out _ _ (hv1.mono (Nat.zero_le _))).mono ?_; rintro e w3 ⟨rfl, hb3⟩; refine ⟨_, rfl, hK _ _ (hb3.mono (by omega)) ?_⟩; clear hK K)
    iterate 4 (refine walkT_rd rfl (fun K hK => ?_); go_simp; refine hK _ ?_; clear hK K)
    have kv := (kv0.below hb1).below hb3
    have ba := (b2.trans (hb1.mono (show w0.heap.size ≤ wn.heap.size by omega))).trans (hb3.mono (show w0.heap.size ≤ w1.heap.size by omega))
    have v0 := kv.look 0 rfl
    have v1 := kv.look 1 rfl
    have vf := kv.frozen
    have kv5 := (kv.set 0 (.int .i64 gn)).set 1 (.int .i64 gd)
    have bs0 : Below w0.heap.size w3 ((w3.setCell ⟨wd.heap.size, 0, none⟩ (.int .i64 gn)).setCell ⟨wd.heap.size, 1, none⟩ (.int .i64 gd)) := ((Below.refl _ _).setCell (p := ⟨wd.heap.size, 0, none⟩) (by show w0.heap.size ≤ wd.heap.size; omega) _).setCell (p := ⟨wd.heap.size, 1, none⟩) (by show w0.heap.size ≤ wd.heap.size; omega) _
    have bt := ba.trans bs0
    (refine walkT_mv rfl (fun K hK => ?_); go_simp; refine hK _ _ bs0 ?_; clear hK K)
    clear v0 v1 vf kv
    iterate 2 (refine walkT_rd rfl (fun K hK => ?_); go_simp; refine hK _ ?_; clear hK K)
    refine walkT_nil ?_
    have k0f := k0.below bt
    have k1f := k1.below bt
    have k2f := k2.below bt
    have c0 := k0f.look 0 rfl
    have c1 := k0f.look 1 rfl
    have c2 := k1f.look 0 rfl
    have c3 := k1f.look 1 rfl
    have c4 := k2f.look 0 rfl
    have c5 := k2f.look 1 rfl
    generalize ((w3.setCell ⟨wd.heap.size, 0, none⟩ (.int .i64 gn)).setCell ⟨wd.heap.size, 1, none⟩ (.int .i64 gd)) = wf at kv5 bt c0 c1 c2 c3 c4 c5 k0f k1f k2f ⊢
    go_wp2_with fail
    refine (rGap_any p n d a b _ _ (h0.below bt)).mono ?_
    rintro e w9 ⟨rfl, hb9⟩
    rw [HV.out]
    clear c0 c1 c2 c3 c4 c5
    have kv9 := kv5.below hb9
    have x0 := kv9.look 0 rfl
    have x1 := kv9.look 1 rfl
    have kn := Blk.new w9 #[.int .i64 gn, .int .i64 gd] 26
    have y0 := kn.look 0 rfl
    have y1 := kn.look 1 rfl
    have x0' := (kv9.alloc (.cells #[.int .i64 gn, .int .i64 gd] 26)).look 0 rfl
    have x1' := (kv9.alloc (.cells #[.int .i64 gn, .int .i64 gd] 26)).look 1 rfl
    have b9 := bt.trans (hb9.mono bt.size)
    go_wp2_with fail
    refine (awake_any _).mono ?_
    rintro e wz ⟨rfl, hbz⟩
    go_wp2
    go_ret
    exact ⟨rfl, fin.out _ ((b9.alloc b9.size _).trans (hbz.mono (Nat.le_trans b9.size (by simp))))⟩

end Go.Proofs.Ytmknengmjepdaaa
