/- Walks of trankref02.Slopes, Norm. -/
import Derived.Test.YtfkclcoipadhmaaGreatDoorEc
import Derived.Test.YtfkclcoipadhmaaGreatDoorDz
namespace Go.Proofs.YtfkclcoipadhmaaGreatDoor
open Go.RowKit
attribute [local irreducible] seqS seqST walkV walkJ

set_option maxHeartbeats 2000000 in
theorem rSlopes_any (c : List P4) (v : Value) (w : World) (h : P4R 0 w v c) :
    Calls Tryz.prog 91 #[v] w fun r w' => (∃ vl, r = .returned (.tuple #[vl, .int .i64 (slpE c)]) ∧ QsR w.heap.size w' vl (slpL c)) ∧ Below w.heap.size w w' := by
  have VA := hid (r2Valid_any c v w h)
  by_cases hrv : RV c
  · have e1 : slpE c = match slsO (toQ c) (c.length - 1) with | some _ => 0 | none => 5 := if_pos hrv
    have e2 : slpL c = (slsO (toQ c) (c.length - 1)).getD [] := if_pos hrv
    rw [← toQ_len c] at e1 e2
    rw [decide_eq_true hrv] at VA
    have SA : Hid (∀ w, PsR 0 w v (toQ c) → Calls Tryz.prog 121 #[v] w fun r w' => (∃ vl, r = .returned (.tuple #[vl, .int .i64 (slpE c)]) ∧ QsR w.heap.size w' vl (slpL c)) ∧ Below w.heap.size w w') := hid (fun w h => by
      have := rslopes_any (toQ c) v w (rv_cv hrv) h
      rw [e1, e2]
      exact this)
    have HQ := hid (P4R.toQ h hrv)
    generalize slpE c = E at SA ⊢
    generalize slpL c = R at SA ⊢
    clear e1 e2 hrv h
    go_enter Tryz.func91, Tryz.ntmps91
    go_wp2_with fail
    refine VA.out.mono ?_
    rintro r w1 ⟨rfl, hb1⟩
    go_wp2_with fail
    refine (SA.out w1 (PsR.below HQ.out hb1)).mono ?_
    rintro r w2 ⟨⟨vl, rfl, hq⟩, hb2⟩
    have hq2 := QsR.mono hq hb1.size
    have hB := hb1.trans (hb2.mono hb1.size)
    clear hq hb1 hb2 SA HQ
    go_wp2
    go_ret2
    exact ⟨⟨_, rfl, hq2⟩, hB⟩
  · have e1 : slpE c = 2 := if_neg hrv
    have e2 : slpL c = [] := if_neg hrv
    rw [decide_eq_false hrv] at VA
    rw [e1, e2]
    clear e1 e2 hrv h
    go_enter Tryz.func91, Tryz.ntmps91
    go_wp2_with fail
    refine VA.out.mono ?_
    rintro r w1 ⟨rfl, hb1⟩
    go_wp2
    go_ret2
    exact ⟨⟨_, rfl, SlR.nil _ _⟩, hb1⟩

set_option maxHeartbeats 8000000 in
set_option maxRecDepth 100000 in
theorem rNorm_any (c : List P4) (v : Value) (w : World) (h : P4R 0 w v c) :
    Calls Tryz.prog 45 #[v] w fun r w' => (∃ vl, r = .returned (.tuple #[vl, .int .i64 (slpE c)]) ∧ PsR w.heap.size w' vl (nrmL c)) ∧ Below w.heap.size w w' := by
  obtain ⟨ao, cap, rfl, hcap, hmax, hc⟩ := id h
  unfold maxLen at hmax
  have SA := hid (rSlopes_any c (.slice ao c.length cap) w h)
  obtain ⟨E, hE⟩ : ∃ E, slpE c = E := ⟨_, rfl⟩
  obtain ⟨R, hR⟩ : ∃ R, nrmL c = R := ⟨_, rfl⟩
  rw [hE] at SA
  rw [hE, hR]
  have HE := hid hE
  have HR := hid hR
  clear hE hR hc
  obtain ⟨L, hL⟩ : ∃ L, c.length = L := ⟨_, rfl⟩
  rw [hL] at SA hcap h ⊢
  have HL := hid hL
  clear hL
  go_enter Tryz.func45, Tryz.ntmps45
  go_wp2_with fail
  refine SA.out.mono ?_
  rintro r w1 ⟨⟨vs, rfl, hvs⟩, hb1⟩
  by_cases hE0 : E = 0
  case neg =>
    have e2 : R = [] := by rw [← HR.out]; unfold nrmL; rw [HE.out]; exact if_neg hE0
    subst e2
    have HE0 := hid hE0
    go_wp2
    go_ret2
    exact ⟨⟨_, rfl, SlR.nil _ _⟩, hb1⟩
  have HS := hid (slp_zero (HE.out.trans hE0))
  have hq := (P4R.toQ (h : P4R 0 w (.slice ao L cap) c) HS.out.1).below hb1
  have e2 : nrmL c = normTo (toQ c) (slpL c) c.length := by unfold nrmL; rw [HE.out]; exact if_pos hE0
  have hsl := slsO_len HS.out.2
  have hcv := rv_cv HS.out.1
  have hlen := toQ_len c
  rw [HL.out] at hlen e2 hsl
  have HR2 := hid (HR.out.symm.trans e2)
  generalize toQ c = C at hq hcv hlen HR2
  generalize slpL c = T at hvs hsl HR2
  subst hE0
  have hL2 : 2 ≤ L := by have := hcv.two; omega
  have hL48 : L ≤ 48 := by have := hcv.most; omega
  have HCL := hid hlen
  have HTL := hid hsl
  obtain ⟨ao2, cap2, he2, -, -, hcc⟩ := hq
  obtain ⟨rfl, -⟩ : ao2 = ao ∧ True := by
    injection he2 with g1 g2 g3
    exact ⟨g1.symm, trivial⟩
  obtain ⟨b, off, rfl, hb, -, -, -, -⟩ := p_cell hcc (show 0 < C.length by omega)
  have HCC := hid hcc
  obtain ⟨at', ct, rfl, hct, hmt, htt⟩ := hvs
  have HTT := hid htt
  rw [hsl] at hct ⊢
  clear e2 hcv hlen he2 hcc hsl htt HS HR HE SA
  unfold maxLen at hmt
  have wL : IntKind.i64.wrap ((L : Int) - 1) = ((L - 1 : Nat) : Int) := by rw [IntWalk.i64_left]; unfold wrap64; omega
  obtain ⟨B, hB⟩ : ∃ B, w1.heap.size = B := ⟨_, rfl⟩
  have HB1 := hid hb1
  have HBB := hid hB
  have hgc : ∀ (i : Nat) (W : World), i < L → Below B w1 W → W.cell? ⟨b, off + i * 4, none⟩ = some (.int .i64 (C.getD i (0, 0)).1.num) ∧ W.cell? ⟨b, off + i * 4 + 1, none⟩ = some (.int .i64 ((C.getD i (0, 0)).1.den : Int)) ∧ W.cell? ⟨b, off + i * 4 + 2, none⟩ = some (.int .i64 (C.getD i (0, 0)).2.num) ∧ W.cell? ⟨b, off + i * 4 + 3, none⟩ = some (.int .i64 ((C.getD i (0, 0)).2.den : Int)) := by
    intro i W hi hbW
    rw [← hB] at hbW
    obtain ⟨b', off', he, hb', x0, x1, x2, x3⟩ := p_cell HCC.out (show i < C.length by rw [HCL.out]; exact hi)
    cases he
    exact ⟨(hbW.cell (p := ⟨b, off + i * 4, none⟩) hb').trans x0, (hbW.cell (p := ⟨b, off + i * 4 + 1, none⟩) hb').trans x1, (hbW.cell (p := ⟨b, off + i * 4 + 2, none⟩) hb').trans x2, (hbW.cell (p := ⟨b, off + i * 4 + 3, none⟩) hb').trans x3⟩
  have HGC := hid hgc
  obtain ⟨bt, offt, rfl, -, -, -⟩ := q_cell HTT.out (show 0 < T.length by rw [HTL.out]; omega)
  have hgt : ∀ (i : Nat) (W : World), i < L - 1 → Below B w1 W → W.cell? ⟨bt, offt + i * 2, none⟩ = some (.int .i64 (T.getD i 0).num) ∧ W.cell? ⟨bt, offt + i * 2 + 1, none⟩ = some (.int .i64 ((T.getD i 0).den : Int)) := by
    intro i W hi hbW
    rw [← hB] at hbW
    obtain ⟨b', off', he, hb', x0, x1⟩ := q_cell HTT.out (show i < T.length by rw [HTL.out]; exact hi)
    cases he
    exact ⟨(hbW.cell (p := ⟨bt, offt + i * 2, none⟩) hb').trans x0, (hbW.cell (p := ⟨bt, offt + i * 2 + 1, none⟩) hb').trans x1⟩
  have HGT := hid hgt
  clear hb1 hgc hgt HCC HTT hB
  go_wp2_with fail
  go_loopw [6, 19] (fun y x wr => ∃ i : Nat, x = .int .i64 i ∧ i ≤ L ∧ Hid (wr.ownsRow B 44 4 y (normTo C T i).length (ptsC (normTo C T i))) ∧ Below B w1 wr) (fun _ x _ => L - (intOf x).toNat)
  case atStart => exact ⟨0, rfl, Nat.zero_le _, hid (World.ownsRow_nil _ _ _ _), Below.refl _ _⟩
  case round =>
    obtain ⟨i, rfl, hi, HO, hbel⟩ := hrel
    by_cases hiL : i < L
    · have hi2 : (i : Int) < (L : Int) := by omega
      have hgi := HGC.out i wr hiL hbel
      obtain ⟨P, hP⟩ : ∃ P, C.getD i (0, 0) = P := ⟨_, rfl⟩
      rw [hP] at hgi
      obtain ⟨p1, hp1⟩ : ∃ z, P.1.num = z := ⟨_, rfl⟩
      obtain ⟨p2, hp2⟩ : ∃ z, (P.1.den : Int) = z := ⟨_, rfl⟩
      obtain ⟨p3, hp3⟩ : ∃ z, P.2.num = z := ⟨_, rfl⟩
      obtain ⟨p4, hp4⟩ : ∃ z, (P.2.den : Int) = z := ⟨_, rfl⟩
      rw [hp1, hp2, hp3, hp4] at hgi
      have HPC : Hid (ptsC [C.getD i (0, 0)] = [.int .i64 p1, .int .i64 p2, .int .i64 p3, .int .i64 p4]) := hid (by
        rw [hP, ← hp1, ← hp2, ← hp3, ← hp4]
        rfl)
      obtain ⟨x0, x1, x2, x3⟩ := hgi
      have hnl := normTo_len C T i
      obtain ⟨NL, hNL⟩ : ∃ n, (normTo C T i).length = n := ⟨_, rfl⟩
      rw [hNL] at HO hnl
      have HNL := hid hNL
      have hNL48 : NL ≤ 48 := by omega
      clear hNL hP hp1 hp2 hp3 hp4
      go_wp2_with fail
      have kb := Blk.new wr #[.int .i64 p1, .int .i64 p2, .int .i64 p3, .int .i64 p4] 44
      have hbA := alloc_below wr (.cells #[.int .i64 p1, .int .i64 p2, .int .i64 p3, .int .i64 p4] 44)
      obtain ⟨W, hW⟩ : ∃ W, wr.alloc (.cells #[.int .i64 p1, .int .i64 p2, .int .i64 p3, .int .i64 p4] 44) = W := ⟨_, rfl⟩
      obtain ⟨H, hH⟩ : ∃ B, wr.heap.size = B := ⟨_, rfl⟩
      have hBr : B ≤ wr.heap.size := by have := hbel.size; have := HBB.out; omega
      have hbelW := hbel.trans (hbA.mono hBr)
      have HOW := hid (owns_below HO.out hbA)
      have hBW : B ≤ W.heap.size := by rw [← hW]; exact Nat.le_trans hBr hbA.size
      rw [hW] at kb hbelW HOW ⊢
      rw [hH] at kb ⊢
      clear hW hH hbA x0 x1 x2 x3 hbel HO hBr
      have hd := (Below.refl W.heap.size W).drew
      have HOd := hid (owns_below HOW.out hd)
      have hbd := hbelW.trans (hd.mono hBW)
      have hsd : B ≤ W.drew.heap.size := hBW
      have kd := kb.below hd
      have c0 := kd.look 0 rfl
      have c1 := kd.look 1 rfl
      have c2 := kd.look 2 rfl
      have c3 := kd.look 3 rfl
      by_cases hi0 : i = 0
      · have hkeep : keepB C T i = true := by
          unfold keepB
          rw [decide_eq_true hi0]
          rfl
        have hi3 : (i : Int) = 0 := by omega
        refine wp_walkJ (T := Below (W.heap.size)) (belowV_pre _) (.rd 0 (.rd 1 (.rd 2 (.rd 3 (.rd 4 (.rd 5 (.rd 6 (.rd 7 (.rd 8 (.rd 9 (.rd 10 (.rd 11 (.rd 12 (.rd 13 (.rd 14 (.rd 15 (.rd 16 (.rd 17 (.rd 18 (.rd 19 (.rd 20 (.inv [])))))))))))))))))))))) (by kernel_rfl) rfl (by kernel_rfl) (by kernel_rfl) ?_
        iterate 21 (refine walkJ_rd rfl (fun K hK => ?_); go_simp; refine hK _ ?_; clear hK K)
        refine walkJ_nil ?_
        have HK := hid (normTo_yes hkeep)
        clear hkeep
        obtain ⟨Wd, hWd⟩ : ∃ Wd, W.drew = Wd := ⟨_, rfl⟩
        rw [hWd] at HOd hbd hsd c0 c1 c2 c3 ⊢
        clear hWd
        go_wp2_with (first
          | (at_builtin; refine wpList_appH rfl (.tmp 45) (.tmp 47) _ rfl B 44 (.agg #[.int .i64 0, .int .i64 0, .int .i64 0, .int .i64 0]) 4 32 Tryz.underlying22 infoPoint rfl (by decide) 44 _ _ _ rfl HOd.out [.int .i64 p1, .int .i64 p2, .int .i64 p3, .int .i64 p4] _ (by first | rfl | simp) rfl rfl (by simp [Value.oneCell']) (by unfold maxLen; omega) (by omega) (by omega) ?_; intro g5 gcap w5 ho5 hb5 _ _ _))
        go_roundw
        case rel =>
          refine ⟨i + 1, by go_num, by omega, ?_, hbd.trans hb5⟩
          rw [HK.out, List.length_append, ptsC_append, HPC.out, HNL.out]
          exact hid ho5
        case measure => simp [intOf]; omega
      have hi3 : ¬ (i : Int) = 0 := by omega
      have hq0 : ((i : Int) == 0) = false := beq_eq_false_iff_ne.2 hi3
      by_cases hlast : i + 1 = L
      · have hl2 : (i : Int) = ((L - 1 : Nat) : Int) := by omega
        have hl3 : i = L - 1 := by omega
        have hl4 : ¬ L - 1 = 0 := by omega
        have hkeep : keepB C T i = true := by
          unfold keepB
          rw [HCL.out, decide_eq_true hlast]
          simp
        refine wp_walkJ (T := Below (W.heap.size)) (belowV_pre _) (.rd 0 (.rd 1 (.rd 2 (.rd 3 (.rd 4 (.rd 5 (.rd 6 (.rd 7 (.rd 8 (.rd 9 (.rd 10 (.rd 11 (.rd 12 (.rd 13 (.rd 14 (.rd 15 (.rd 16 (.rd 17 (.rd 18 (.rd 19 (.rd 20 (.inv [])))))))))))))))))))))) (by kernel_rfl) rfl (by kernel_rfl) (by kernel_rfl) ?_
        iterate 21 (refine walkJ_rd rfl (fun K hK => ?_); go_simp; refine hK _ ?_; clear hK K)
        refine walkJ_nil ?_
        have HK := hid (normTo_yes hkeep)
        clear hkeep
        obtain ⟨Wd, hWd⟩ : ∃ Wd, W.drew = Wd := ⟨_, rfl⟩
        rw [hWd] at HOd hbd hsd c0 c1 c2 c3 ⊢
        clear hWd
        go_wp2_with (first
          | (at_builtin; refine wpList_appH rfl (.tmp 45) (.tmp 47) _ rfl B 44 (.agg #[.int .i64 0, .int .i64 0, .int .i64 0, .int .i64 0]) 4 32 Tryz.underlying22 infoPoint rfl (by decide) 44 _ _ _ rfl HOd.out [.int .i64 p1, .int .i64 p2, .int .i64 p3, .int .i64 p4] _ (by first | rfl | simp) rfl rfl (by simp [Value.oneCell']) (by unfold maxLen; omega) (by omega) (by omega) ?_; intro g5 gcap w5 ho5 hb5 _ _ _))
        go_roundw
        case rel =>
          refine ⟨i + 1, by go_num, by omega, ?_, hbd.trans hb5⟩
          rw [HK.out, List.length_append, ptsC_append, HPC.out, HNL.out]
          exact hid ho5
        case measure => simp [intOf]; omega
      · have hl2 : ¬ (i : Int) = ((L - 1 : Nat) : Int) := by omega
        have hql : ((i : Int) == ((L - 1 : Nat) : Int)) = false := beq_eq_false_iff_ne.2 hl2
        have hl3 : ¬ i = L - 1 := by omega
        obtain ⟨I, hI⟩ : ∃ I, i = I + 1 := ⟨i - 1, by omega⟩
        have hIL : I < L - 1 := by omega
        have hIL2 : (I : Int) < ((L - 1 : Nat) : Int) := by omega
        have hi1L : i < L - 1 := by omega
        have hi1L2 : (i : Int) < ((L - 1 : Nat) : Int) := by omega
        have wI : IntKind.i64.wrap ((i : Int) - 1) = (I : Int) := by rw [IntWalk.i64_left]; unfold wrap64; omega
        have s0 := fun x : SubT (Below W.heap.size) W.drew => (HGT.out I x.w hIL (hbelW.trans ((hd.trans x.b).mono hBW))).1
        have s1 := fun x : SubT (Below W.heap.size) W.drew => (HGT.out I x.w hIL (hbelW.trans ((hd.trans x.b).mono hBW))).2
        have s2 := fun x : SubT (Below W.heap.size) W.drew => (HGT.out i x.w hi1L (hbelW.trans ((hd.trans x.b).mono hBW))).1
        have s3 := fun x : SubT (Below W.heap.size) W.drew => (HGT.out i x.w hi1L (hbelW.trans ((hd.trans x.b).mono hBW))).2
        have hki : keepB C T i = decide (T.getD I 0 ≠ T.getD i 0) := by
          unfold keepB
          rw [HCL.out, decide_eq_false hlast, decide_eq_false hi0, show i - 1 = I by omega]
          rfl
        obtain ⟨S, hS⟩ : ∃ S, T.getD I 0 = S := ⟨_, rfl⟩
        obtain ⟨U, hU⟩ : ∃ S, T.getD i 0 = S := ⟨_, rfl⟩
        rw [hS] at s0 s1 hki
        rw [hU] at s2 s3 hki
        have hre := rat_eq_iff S U
        obtain ⟨n1, hn1⟩ : ∃ z, S.num = z := ⟨_, rfl⟩
        obtain ⟨d1, hd1⟩ : ∃ z, (S.den : Int) = z := ⟨_, rfl⟩
        obtain ⟨n2, hn2⟩ : ∃ z, U.num = z := ⟨_, rfl⟩
        obtain ⟨d2, hd2⟩ : ∃ z, (U.den : Int) = z := ⟨_, rfl⟩
        rw [hn1, hd1, hn2, hd2] at hre
        rw [hn1] at s0
        rw [hd1] at s1
        rw [hn2] at s2
        rw [hd2] at s3
        have HRE := hid hre
        have HKI := hid hki
        clear hS hU hn1 hd1 hn2 hd2 hre hki hI
        by_cases hnn : n1 = n2
        · by_cases hdd : d1 = d2
          · have hkeep : keepB C T i = false := by
              rw [HKI.out]
              exact decide_eq_false (fun h => h (HRE.out.2 ⟨hnn, hdd⟩))
            have HK := hid (normTo_no hkeep)
            clear hkeep
            subst hnn hdd
            refine wp_walkJ (T := Below (W.heap.size)) (belowV_pre _) (.rd 0 (.rd 1 (.rd 2 (.rd 3 (.rd 4 (.rd 5 (.rd 6 (.rd 7 (.rd 8 (.rd 9 (.rd 10 (.rd 11 (.rd 12 (.rd 13 (.rd 14 (.rd 15 (.rd 16 (.rd 17 (.rd 18 (.rd 19 (.rd 20 (.inv [])))))))))))))))))))))) (by kernel_rfl) rfl (by kernel_rfl) (by kernel_rfl) ?_
            iterate 21 (refine walkJ_rd rfl (fun K hK => ?_); go_simp; refine hK _ ?_; clear hK K)
            refine walkJ_nil ?_
            clear s0 s1 s2 s3
            go_wp2
            go_roundw
            case rel =>
              refine ⟨i + 1, by go_num, by omega, ?_, hbd⟩
              rw [HK.out, HNL.out]
              exact HOd
            case measure => simp [intOf]; omega
          · have hkeep : keepB C T i = true := by
              rw [HKI.out]
              exact decide_eq_true (fun h => hdd (HRE.out.1 h).2)
            subst hnn
            refine wp_walkJ (T := Below (W.heap.size)) (belowV_pre _) (.rd 0 (.rd 1 (.rd 2 (.rd 3 (.rd 4 (.rd 5 (.rd 6 (.rd 7 (.rd 8 (.rd 9 (.rd 10 (.rd 11 (.rd 12 (.rd 13 (.rd 14 (.rd 15 (.rd 16 (.rd 17 (.rd 18 (.rd 19 (.rd 20 (.inv [])))))))))))))))))))))) (by kernel_rfl) rfl (by kernel_rfl) (by kernel_rfl) ?_
            iterate 21 (refine walkJ_rd rfl (fun K hK => ?_); go_simp; refine hK _ ?_; clear hK K)
            refine walkJ_nil ?_
            clear s0 s1 s2 s3 hdd
            have HK := hid (normTo_yes hkeep)
            clear hkeep
            obtain ⟨Wd, hWd⟩ : ∃ Wd, W.drew = Wd := ⟨_, rfl⟩
            rw [hWd] at HOd hbd hsd c0 c1 c2 c3 ⊢
            clear hWd
            go_wp2_with (first
              | (at_builtin; refine wpList_appH rfl (.tmp 45) (.tmp 47) _ rfl B 44 (.agg #[.int .i64 0, .int .i64 0, .int .i64 0, .int .i64 0]) 4 32 Tryz.underlying22 infoPoint rfl (by decide) 44 _ _ _ rfl HOd.out [.int .i64 p1, .int .i64 p2, .int .i64 p3, .int .i64 p4] _ (by first | rfl | simp) rfl rfl (by simp [Value.oneCell']) (by unfold maxLen; omega) (by omega) (by omega) ?_; intro g5 gcap w5 ho5 hb5 _ _ _))
            go_roundw
            case rel =>
              refine ⟨i + 1, by go_num, by omega, ?_, hbd.trans hb5⟩
              rw [HK.out, List.length_append, ptsC_append, HPC.out, HNL.out]
              exact hid ho5
            case measure => simp [intOf]; omega
        · have hkeep : keepB C T i = true := by
            rw [HKI.out]
            exact decide_eq_true (fun h => hnn (HRE.out.1 h).1)
          refine wp_walkJ (T := Below (W.heap.size)) (belowV_pre _) (.rd 0 (.rd 1 (.rd 2 (.rd 3 (.rd 4 (.rd 5 (.rd 6 (.rd 7 (.rd 8 (.rd 9 (.rd 10 (.rd 11 (.rd 12 (.rd 13 (.rd 14 (.rd 15 (.rd 16 (.rd 17 (.rd 18 (.rd 19 (.rd 20 (.inv [])))))))))))))))))))))) (by kernel_rfl) rfl (by kernel_rfl) (by kernel_rfl) ?_
          iterate 21 (refine walkJ_rd rfl (fun K hK => ?_); go_simp; refine hK _ ?_; clear hK K)
          refine walkJ_nil ?_
          clear s0 s1 s2 s3 hnn
          have HK := hid (normTo_yes hkeep)
          clear hkeep
          obtain ⟨Wd, hWd⟩ : ∃ Wd, W.drew = Wd := ⟨_, rfl⟩
          rw [hWd] at HOd hbd hsd c0 c1 c2 c3 ⊢
          clear hWd
          go_wp2_with (first
            | (at_builtin; refine wpList_appH rfl (.tmp 45) (.tmp 47) _ rfl B 44 (.agg #[.int .i64 0, .int .i64 0, .int .i64 0, .int .i64 0]) 4 32 Tryz.underlying22 infoPoint rfl (by decide) 44 _ _ _ rfl HOd.out [.int .i64 p1, .int .i64 p2, .int .i64 p3, .int .i64 p4] _ (by first | rfl | simp) rfl rfl (by simp [Value.oneCell']) (by unfold maxLen; omega) (by omega) (by omega) ?_; intro g5 gcap w5 ho5 hb5 _ _ _))
          go_roundw
          case rel =>
            refine ⟨i + 1, by go_num, by omega, ?_, hbd.trans hb5⟩
            rw [HK.out, List.length_append, ptsC_append, HPC.out, HNL.out]
            exact hid ho5
          case measure => simp [intOf]; omega
    · obtain rfl : L = i := by omega
      have hi2 : ¬ (L : Int) < (L : Int) := by omega
      obtain ⟨ao3, c3, he3, -⟩ := id (SlR.of_owns HO.out)
      subst he3
      have hBw : Below w.heap.size w wr := HB1.out.trans ((show Below w1.heap.size w1 wr by rw [HBB.out]; exact hbel).mono HB1.out.size)
      have hwg : w.heap.size ≤ B := by rw [← HBB.out]; exact HB1.out.size
      have hr := SlR.mono (SlR.of_owns HO.out) hwg
      have e : R = normTo C T L := HR2.out
      have HRR := hid hr
      have HRE := hid e
      clear hr e
      go_wp2
      go_ret2
      refine ⟨⟨_, rfl, ?_⟩, hBw⟩
      unfold PsR
      rw [HRE.out]
      exact HRR.out

end Go.Proofs.YtfkclcoipadhmaaGreatDoor
