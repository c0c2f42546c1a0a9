/- Walk of grade.Pattern.implied. -/
import Derived.Test.YtmknengmjepdaaaWc
import Derived.Test.YtmknengmjepdaaaRy
import Derived.Test.YtmknengmjepdaaaWa
import Derived.Test.YtmknengmjepdaaaGb
namespace Go.Proofs.Ytmknengmjepdaaa
open Go.RowKit
attribute [local irreducible] seqS seqST walkV walkJ

theorem ru_at {lo : Nat} {w : World} {b off : Nat} {l : List Rul} (h : CellsOf lo w (some ⟨b, off, none⟩) (ruCells l)) {i : Nat} {r : Rul} (hi : l[i]? = some r) :
    w.cell? ⟨b, off + i * 4, none⟩ = some (.int .i64 r.a) ∧ w.cell? ⟨b, off + i * 4 + 1, none⟩ = some (.int .i64 r.b) ∧ w.cell? ⟨b, off + i * 4 + 2, none⟩ = some (.int .i64 r.c) ∧ w.cell? ⟨b, off + i * 4 + 3, none⟩ = some (.int .i64 r.d) := by
  obtain ⟨b', off', he, -, h1⟩ := ru_cell h hi
  cases he
  exact h1
theorem pinfoRule : (Try.prog.info? 92).map (·.size) = some 4 := by kernel_rfl

/-- What holds in region 1 of 'implied' of what has come up. -/
structure ImpInv (B : Nat) (w0 : World) (p : Pat) (cl Z rc : Array Value) (l : Nat → Bool) (V : Nat → Value) (w : World) : Prop where
  b : Below B w0 w
  c7 : l 7 = true → l 9 = false → PatF 0 w (V 7) p
  c9 : l 9 = true → V 9 = .agg cl
  c10 : l 10 = true → VarI B w (V 10) 92 4 (l 12) rc
  c11 : l 11 = true → VarI B w (V 11) 122 Z.size (l 13) cl

set_option maxHeartbeats 4000000 in
set_option maxRecDepth 100000 in
theorem implied_any (p : Pat) (n d : Int) (k : Nat) (v : Value) (w : World) (h : PatF 0 w v p) (hp : PValid p) (hs : FSize n d) (hb : chBad p n d = false) (hk : k < p.rules.length) :
    Calls Try.prog 101 #[v, .agg #[.int .i64 n, .int .i64 d], .int .i64 (k : Int)] w fun e w' => e = .returned (.bool (folB (lessP p k) n d (p.rules.getD k ⟨0, 0, 0, 0⟩))) ∧ Below w.heap.size w w' := by
  obtain ⟨ao, cap, rfl, hcap, hmax, hc⟩ := h.shape
  unfold maxLen at hmax
  obtain ⟨r, hr⟩ : ∃ r, p.rules.getD k ⟨0, 0, 0, 0⟩ = r := ⟨_, rfl⟩
  have hg := getD_rule hk
  rw [hr] at hg
  obtain ⟨b9, off9, rfl, hb9, -⟩ := ru_cell hc hg
  have hrv : RV p.n r := hp.2.2.2 r (rule_mem hg)
  obtain ⟨Z, hZ⟩ : ∃ Z, clArr 0 (fun _ _ => NONE) = Z := ⟨_, rfl⟩
  have hz := (zero_of_info infoCl).1
  rw [hZ] at hz
  have HZ := hid hZ
  clear hZ
  rw [hr]
  obtain ⟨res, hres⟩ : ∃ b, folB (lessP p k) n d r = b := ⟨_, rfl⟩
  rw [hres]
  have hbl := less_bad hp hs k hb
  have hpl := less_valid hp k
  have CLO : Hid (∀ v w, PatF 0 w v (lessP p k) → Calls Try.prog 89 #[v, .agg #[.int .i64 n, .int .i64 d]] w fun e w' => e = .returned (.agg (clArr p.n.toNat (chainM (lessP p k) n d))) ∧ Below w.heap.size w w') := hid (fun v w h => closed_any (lessP p k) n d v w h hpl hs ((chBad_iff hpl hs).1 hbl))
  have WIT : Hid (∀ w, PatF 0 w (.agg #[.int .i64 p.n, .slice (some ⟨b9, off9, none⟩) p.rules.length cap]) p → Calls Try.prog 103 #[.agg #[.int .i64 p.n, .slice (some ⟨b9, off9, none⟩) p.rules.length cap], .int .i64 (k : Int)] w fun e w' => ∃ v', e = .returned v' ∧ PatF w.heap.size w' v' (lessP p k) ∧ Below w.heap.size w w') := hid (fun w h => without_any p k _ w h hk hp.2.2.1)
  have AT := hid (fun w => at_any p.n r n d w hrv hs)
  have hfol : res = (decide (chainM (lessP p k) n d r.a.toNat r.b.toNat ≠ NONE) && decide (wt r n d ≤ chainM (lessP p k) n d r.a.toNat r.b.toNat)) := hres.symm
  obtain ⟨N, hN⟩ : ∃ N : Nat, p.n = N := ⟨p.n.toNat, by have := hp.1; omega⟩
  have hN16 : N ≤ 16 := by have := hp.2.1; omega
  obtain ⟨A, hA⟩ : ∃ A : Nat, r.a = A := ⟨r.a.toNat, by have := hrv.1; omega⟩
  obtain ⟨C, hC⟩ : ∃ A : Nat, r.b = A := ⟨r.b.toNat, by have := hrv.2.2.1; omega⟩
  have hAN : A < N := by have := hrv.2.1; omega
  have hCN : C < N := by have := hrv.2.2.2.1; omega
  obtain ⟨M, hM⟩ : ∃ M, chainM (lessP p k) n d = M := ⟨_, rfl⟩
  obtain ⟨y, hy⟩ : ∃ z, wt r n d = z := ⟨_, rfl⟩
  rw [hM, hA, hC, Int.toNat_natCast, Int.toNat_natCast, hy] at hfol
  rw [hM, hN, Int.toNat_natCast] at CLO
  have h00 := h
  rw [hN] at h00
  have HG := hid hg
  have HCC := hid hc
  obtain ⟨ra, rb, rc, rd⟩ := r
  dsimp only at hA hC
  subst hA hC
  dsimp only at AT
  rw [hy] at AT
  have HN := hid hN
  have HFO := hid hfol
  obtain ⟨L, hL⟩ : ∃ L, p.rules.length = L := ⟨_, rfl⟩
  rw [hL] at hk hcap WIT h ⊢
  have HH := hid h
  have HL := hid hL
  clear h h00 hp hs hr hb hres hfol hy hg hN hrv hz hc hM hbl hpl hL
  have hz := (zero_of_info infoCl).1
  rw [HZ.out] at hz
  have hk1 : (k : Int) < (L : Int) := by omega
  go_enter Try.func101, Try.ntmps101
  go_wp2_with fail
  obtain ⟨w0, hw0, k0, k1, hB, hsz⟩ := one_new w #[.int .i64 p.n, .slice (some ⟨b9, off9, none⟩) L cap] #[.int .i64 n, .int .i64 d] 33 26
  rw [hw0]
  clear hw0
  have HC0 := hid (HCC.out.below hB)
  have hd := (Below.refl w0.heap.size w0).drew
  have z0 := fun x : SubT (Below w0.heap.size) w0.drew => (k0.below (hd.trans x.b)).look 0 rfl
  have z1 := fun x : SubT (Below w0.heap.size) w0.drew => (k0.below (hd.trans x.b)).look 1 rfl
  have z2 := fun x : SubT (Below w0.heap.size) w0.drew => (k1.below (hd.trans x.b)).look 0 rfl
  have z3 := fun x : SubT (Below w0.heap.size) w0.drew => (k1.below (hd.trans x.b)).look 1 rfl
  have z4 := fun x : SubT (Below w0.heap.size) w0.drew => (ru_at (HC0.out.below (hd.trans x.b)) HG.out).1
  have z5 := fun x : SubT (Below w0.heap.size) w0.drew => (ru_at (HC0.out.below (hd.trans x.b)) HG.out).2.1
  have z6 := fun x : SubT (Below w0.heap.size) w0.drew => (ru_at (HC0.out.below (hd.trans x.b)) HG.out).2.2.1
  have z7 := fun x : SubT (Below w0.heap.size) w0.drew => (ru_at (HC0.out.below (hd.trans x.b)) HG.out).2.2.2
  refine wp_walkJ (T := Below (w0.heap.size)) (belowV_pre _) (.rd 0 (.rd 1 (.rd 2 (.rd 3 (.rd 4 (.rd 5 (.rd 6 (.rd 8 (.inv [7, 9, 10, 11, 12, 13]))))))))) (by kernel_rfl) rfl (by kernel_rfl) (by kernel_rfl) ?_
  iterate 8 (refine walkJ_rd rfl (fun K hK => ?_); go_simp; refine hK _ ?_; clear hK K)
  clear z0 z1 z2 z3 z4 z5 z6 z7
  obtain ⟨W1, hW1⟩ : ∃ W1, w0.drew = W1 := ⟨_, rfl⟩
  have hs1 : w0.heap.size = W1.heap.size := by rw [← hW1]; rfl
  rw [hW1] at hd ⊢
  clear hW1
  have HS1 := hid hs1
  clear hs1
  refine walkJ_inv (ImpInv w0.heap.size w0 (lessP p k) (clArr N M) Z #[.int .i64 A, .int .i64 C, .int .i64 rc, .int .i64 rd]) [(7, 16), (9, 18), (10, 7), (11, 8)] (by kernel_rfl) ?_ ?_ ?_
  · exact ⟨hd, fun h => (by cases h), fun h => (by cases h), fun h => (by cases h), fun h => (by cases h)⟩
  · refine stepsI_cons [] [9, 12, 13] [] rfl (by kernel_rfl) (by kernel_rfl) (by kernel_rfl) (fun K l V x hx hl hds hn hI hK => ?_) ?_
    · go_simp
      have hsx : w0.heap.size ≤ x.heap.size := by rw [HS1.out]; exact hx.size
      refine (WIT.out x ((HH.out.below hB).below (hd.trans hx))).mono ?_
      rintro e w2 ⟨v', rfl, hv, hb2⟩
      have hb' := hb2.mono hsx
      refine ⟨_, rfl, hK _ _ hb' ?_⟩
      exact ⟨hI.b.trans hb', fun _ _ => hv.mono (Nat.zero_le _), fun h => hI.c9 h, fun h => (hI.c10 h).below hb2, fun h => (hI.c11 h).below hb2⟩
    refine stepsI_cons [7] [12, 13] [(7, 16)] rfl (by kernel_rfl) (by kernel_rfl) (by kernel_rfl) (fun K l V x hx hl hds hn hI hK => ?_) ?_
    · go_simp
      have hsx : w0.heap.size ≤ x.heap.size := by rw [HS1.out]; exact hx.size
      refine (CLO.out _ x (hI.c7 hl.1 hn)).mono ?_
      rintro e w2 ⟨rfl, hb2⟩
      have hb' := hb2.mono hsx
      refine ⟨_, rfl, hK _ _ hb' ?_⟩
      exact ⟨hI.b.trans hb', fun _ h => (by cases h), fun _ => rfl, fun h => (hI.c10 h).below hb2, fun h => (hI.c11 h).below hb2⟩
    refine stepsI_cons [] [12, 13] [] rfl (by kernel_rfl) (by kernel_rfl) (by kernel_rfl) (fun K l V x hx hl hds hn hI hK => ?_) ?_
    · go_simp
      have hsx : w0.heap.size ≤ x.heap.size := by rw [HS1.out]; exact hx.size
      have hb2 := alloc_below x (.cells #[.int .i64 0, .int .i64 0, .int .i64 0, .int .i64 0] 92)
      have hb' := hb2.mono hsx
      refine hK _ _ hb' ?_
      exact ⟨hI.b.trans hb', fun h h' => (hI.c7 h h').below hb2, fun h => hI.c9 h, fun _ => VarI.new x _ _ hsx rfl hds.1, fun h => (hI.c11 h).below hb2⟩
    refine stepsI_cons [] [12, 13] [] rfl (by kernel_rfl) (by kernel_rfl) (by kernel_rfl) (fun K l V x hx hl hds hn hI hK => ?_) ?_
    · go_simp
      have hsx : w0.heap.size ≤ x.heap.size := by rw [HS1.out]; exact hx.size
      have hb2 := alloc_below x (.cells Z 122)
      have hb' := hb2.mono hsx
      refine hK _ _ hb' ?_
      exact ⟨hI.b.trans hb', fun h h' => (hI.c7 h h').below hb2, fun h => hI.c9 h, fun h => (hI.c10 h).below hb2, fun _ => VarI.new x _ _ hsx rfl hds.2.1⟩
    refine stepsI_cons [7, 9, 10, 11] [13] [(7, 16), (9, 18), (10, 7), (11, 8)] rfl (by kernel_rfl) (by kernel_rfl) (by kernel_rfl) (fun K l V x hx hl hds hn hI hK => ?_) ?_
    · have hsx : w0.heap.size ≤ x.heap.size := by rw [HS1.out]; exact hx.size
      obtain ⟨g, cs, e1, e2, e3, e4, -⟩ := hI.c10 hl.2.2.1
      have hb' := row_below (Below.refl w0.heap.size x) e2 #[.int .i64 A, .int .i64 C, .int .i64 rc, .int .i64 rd]
      refine ⟨rfl, gives_store_row 92 (.tmp 7) (.tmp 13) rfl g _ e1 rfl 92 cs e3 pinfoRule e4 (by simp [Value.oneCell']) (hK _ _ hb' ?_)⟩
      refine ⟨hI.b.trans hb', fun _ h => (by rw [show updL l 12 9 = l 9 from rfl, hl.2.1] at h; cases h), fun h => hI.c9 h, fun _ => ?_, fun h => (hI.c11 h).row_other e3 (by decide)⟩
      · show VarI _ _ (V 10) _ _ _ _
        rw [e1]
        exact VarI.filled e2 e3 rfl
    refine stepsI_cons [7, 9, 10, 11, 12] [] [(7, 16), (9, 18), (10, 7), (11, 8)] rfl (by kernel_rfl) (by kernel_rfl) (by kernel_rfl) (fun K l V x hx hl hds hn hI hK => ?_) ?_
    · have hsx : w0.heap.size ≤ x.heap.size := by rw [HS1.out]; exact hx.size
      obtain ⟨g, cs, e1, e2, e3, e4, -⟩ := hI.c11 hl.2.2.2.1
      have hb' := row_below (Below.refl w0.heap.size x) e2 (clArr N M)
      refine ⟨rfl, gives_store_row 122 (.tmp 8) (.tmp 18) rfl g _ e1 (hI.c9 hl.2.1) 122 cs e3 (cl_info _ _) (by rw [e4, ← HZ.out, clArr_size, clArr_size]) (cl_one _ _) (hK _ _ hb' ?_)⟩
      refine ⟨hI.b.trans hb', fun _ h => (by rw [show updL l 13 9 = l 9 from rfl, hl.2.1] at h; cases h), fun h => hI.c9 h, fun h => (hI.c10 h).row_other e3 (by decide), fun _ => ?_⟩
      · show VarI _ _ (V 11) _ _ _ _
        rw [e1]
        exact VarI.filled e2 e3 (by rw [← HZ.out, clArr_size, clArr_size])
    exact stepsI_nil
  · intro V W hW hI
    obtain ⟨g, e1, e2, e3⟩ := (hI.c10 rfl).out
    obtain ⟨g', e1', e2', e3'⟩ := (hI.c11 rfl).out
    have hb2 := hI.b
    clear hI CLO WIT
    simp only [putsP, e1, e1']
    go_simp
    clear e1 e1'
    have hk0 := k0.below hb2
    have hk1 := k1.below hb2
    have hA16 : A < 16 := by omega
    have hC16 : C < 16 := by omega
    have hA162 : (A : Int) < 16 := by omega
    have hC162 : (C : Int) < 16 := by omega
    have hBW := hB.trans (hb2.mono hB.size)
    have hdW := (Below.refl W.heap.size W).drew
    have z0 := fun x : SubT (Below W.heap.size) W.drew => (e3.below (hdW.trans x.b)).look 0 rfl
    have z1 := fun x : SubT (Below W.heap.size) W.drew => (e3.below (hdW.trans x.b)).look 1 rfl
    have z2 := fun x : SubT (Below W.heap.size) W.drew => (e3.below (hdW.trans x.b)).look 2 rfl
    have z3 := fun x : SubT (Below W.heap.size) W.drew => (e3.below (hdW.trans x.b)).look 3 rfl
    have z4 := fun x : SubT (Below W.heap.size) W.drew => (hk1.below (hdW.trans x.b)).look 0 rfl
    have z5 := fun x : SubT (Below W.heap.size) W.drew => (hk1.below (hdW.trans x.b)).look 1 rfl
    clear hk0 hk1 k0 k1
    by_cases hm : M A C = NONE
    · have cb := onB_no (N := N) hm
      have hr : res = false := by rw [HFO.out]; simp [hm]
      have HR := hid hr
      have z6 := fun x : SubT (Below W.heap.size) W.drew => ((e3'.below (hdW.trans x.b)).look (256 + A * 16 + C) (clArr_b hA16 hC16)).trans (congrArg (fun y => some (Value.bool y)) cb)
      clear hr hm HFO cb
      go_wp2_with fail
      refine wp_walkJ (T := Below (W.heap.size)) (belowV_pre _) (.rd 0 (.rd 1 (.rd 2 (.rd 3 (.rd 4 (.rd 5 (.rd 6 (.rd 7 (.rd 8 (.rd 9 (.rd 10 (.rd 11 (.rd 12 (.rd 13 (.rd 14 (.rd 15 (.rd 16 (.rd 17 (.rd 18 (.mv 19 (.rd 20 (.rd 21 (.rd 22 (.inv [])))))))))))))))))))))))) (by kernel_rfl) rfl (by kernel_rfl) (by kernel_rfl) ?_
      iterate 19 (refine walkJ_rd rfl (fun K hK => ?_); go_simp; refine hK _ ?_; clear hK K)
      (refine walkJ_sk rfl (fun K hK => ?_); go_simp; refine hK _ ?_; clear hK K)
      iterate 3 (refine walkJ_rd rfl (fun K hK => ?_); go_simp; refine hK _ ?_; clear hK K)
      refine walkJ_nil ?_
      clear z0 z1 z2 z3 z4 z5 z6
      go_wp2
      go_ret
      exact ⟨by rw [HR.out]; rfl, hBW.drew⟩
    · have cb := onB_yes hAN hCN hm
      have cw := onW_yes hAN hCN hm
      obtain ⟨m, hmm⟩ : ∃ m, M A C = m := ⟨_, rfl⟩
      rw [hmm] at cw
      have hr : res = decide (y ≤ m) := by rw [HFO.out, hmm]; rw [hmm] at hm; simp [hm]
      have HR := hid hr
      have z6 := fun x : SubT (Below W.heap.size) W.drew => ((e3'.below (hdW.trans x.b)).look (256 + A * 16 + C) (clArr_b hA16 hC16)).trans (congrArg (fun y => some (Value.bool y)) cb)
      have z7 := fun x : SubT (Below W.heap.size) W.drew => ((e3'.below (hdW.trans x.b)).look (A * 16 + C) (clArr_w hA16 hC16)).trans (congrArg (fun y => some (Value.int .i64 y)) cw)
      clear hr hm hmm HFO cb cw
      go_wp2_with fail
      refine wp_walkJ (T := Below (W.heap.size)) (belowV_pre _) (.rd 0 (.rd 1 (.rd 2 (.rd 3 (.rd 4 (.rd 5 (.rd 6 (.rd 7 (.rd 8 (.rd 9 (.rd 10 (.rd 11 (.rd 12 (.rd 13 (.rd 14 (.rd 15 (.rd 16 (.rd 17 (.rd 18 (.mv 19 (.rd 20 (.rd 21 (.rd 22 (.inv [])))))))))))))))))))))))) (by kernel_rfl) rfl (by kernel_rfl) (by kernel_rfl) ?_
      iterate 19 (refine walkJ_rd rfl (fun K hK => ?_); go_simp; refine hK _ ?_; clear hK K)
      clear z0 z1 z2 z3 z4 z5 z6 z7
      (refine walkJ_mv rfl (fun K hK => ?_); go_simp; refine (AT.out _).mono ?_; rintro e w4 ⟨rfl, hb4⟩; refine ⟨_, rfl, hK _ _ (hb4.mono (Nat.le_of_eq rfl)) ?_⟩; clear hK K)
      have hB4 := hBW.drew.trans (hb4.mono hBW.size)
      by_cases h2 : y ≤ m
      · iterate 3 (refine walkJ_rd rfl (fun K hK => ?_); go_simp; refine hK _ ?_; clear hK K)
        refine walkJ_nil ?_
        go_wp2
        go_ret
        exact ⟨by rw [HR.out]; simp [h2], hB4⟩
      · iterate 3 (refine walkJ_rd rfl (fun K hK => ?_); go_simp; refine hK _ ?_; clear hK K)
        refine walkJ_nil ?_
        go_wp2
        go_ret
        exact ⟨by rw [HR.out]; simp [h2], hB4⟩

end Go.Proofs.Ytmknengmjepdaaa
