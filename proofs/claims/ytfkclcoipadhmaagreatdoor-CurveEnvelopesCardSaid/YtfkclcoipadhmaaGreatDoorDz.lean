/- Several of my texts in one: Dh, Di, Dj, Dk, Dl. -/
import Derived.Test.YtfkclcoipadhmaaGreatDoorDy
/- Walk of curve.Norm. -/
namespace Go.Proofs.YtfkclcoipadhmaaGreatDoor
open Go.RowKit
attribute [local irreducible] seqS seqST walkV walkJ

theorem wpList_appH {P : Program} {w0 : World} {ops : Array Oper} {rest : List Oper} {o : Oper} {a : Act} {Q : Exit → Act → World → Prop} (hgd : o.guard = none) (s x : Operand) (t : TypeId)
    (ho : o.op = .call { callee := .builtin .append, args := #[s, x], argTypes := #[t, t] })
    (base : Nat) (e : TypeId) (z : Value) (size bytes : Nat) (ht : P.underlying t = some (.slice e)) (hi : (P.info? e).map (fun i => (i.zero, i.size, i.bytes)) = some (some z, size, bytes))
    (hzs : z.cells.size = size) (hsz : 0 < size) (te : TypeId)
    (v : Value) (n : Nat) (xs : List Value) (hs : a.eval s = v) (hown : w0.ownsRow base e size v n xs)
    (news : List Value) (H : Nat) (hH : w0.heap.size = H) (hx : a.eval x = .slice (some ⟨H, 0, none⟩) 1 1) (hl : news.length = size) (h1 : ∀ u ∈ news, u.oneCell' = true)
    (h63 : n + 1 ≤ maxLen) (hbytes : (n + 1) * bytes ≤ 140737488355328) (hbase : base ≤ w0.heap.size)
    (h : ∀ g cap w', w'.ownsRow base e size (.slice (some ⟨g, 0, none⟩) (n + 1) cap) (n + 1) (xs ++ news) → Below base w0 w' → w0.grownBy w' v.ownBlock → base ≤ g → g < w'.heap.size →
      wpList P ops Q rest (a.put o.dst (.slice (some ⟨g, 0, none⟩) (n + 1) cap)) w') :
    wpList P ops Q (o :: rest) a (w0.alloc (.cells news.toArray te)) := by
  subst hH
  exact wpList_app hgd s x t ho base e z size bytes ht hi hzs hsz te v n xs hs hown news hx hl h1 h63 hbytes hbase h

theorem infoPoint : (Tryz.prog.info? 44).map (fun i => (i.zero, i.size, i.bytes)) = some (some (.agg #[.int .i64 0, .int .i64 0, .int .i64 0, .int .i64 0]), 4, 32) := by kernel_rfl
/-- What Norm hands back. -/
def nrmL (c : List P4) : List Pt := if slpE c = 0 then normTo (toQ c) (slpL c) c.length else []
theorem rat_eq_iff (p q : Rat) : p = q ↔ p.num = q.num ∧ (p.den : Int) = (q.den : Int) := by
  constructor
  · rintro rfl; exact ⟨rfl, rfl⟩
  · rintro ⟨h1, h2⟩
    exact Rat.ext h1 (by omega)
theorem owns_four {w : World} {g base : Nat} {e : TypeId} {x y z u : Value} (h : Blk w g #[x, y, z, u] e) (hb : base ≤ g) : w.ownsRow base e 4 (.slice (some ⟨g, 0, none⟩) 1 1) 1 [x, y, z, u] :=
  ⟨by simp, .inr ⟨g, 1, #[x, y, z, u], rfl, hb, h, Nat.le_refl _, by unfold maxLen; omega, by simp, by simp⟩⟩
theorem slp_zero {c : List P4} (h : slpE c = 0) : RV c ∧ slsO (toQ c) (c.length - 1) = some (slpL c) := by
  unfold slpE at h
  by_cases hr : RV c
  · rw [if_pos hr] at h
    refine ⟨hr, ?_⟩
    unfold slpL
    rw [if_pos hr]
    cases hs : slsO (toQ c) (c.length - 1) with
    | none => rw [hs] at h; cases h
    | some l => rfl
  · rw [if_neg hr] at h
    cases h

set_option maxHeartbeats 8000000 in
set_option maxRecDepth 100000 in
theorem Norm_any (c : List P4) (v : Value) (w : World) (h : P4R 0 w v c) (hz : Z0 w) :
    Calls Tryz.prog 59 #[v] w fun r w' => (∃ vl, r = .returned (.tuple #[vl, .int .i64 (slpE c)]) ∧ PsR w.heap.size w' vl (nrmL c)) ∧ Below w.heap.size w w' := by
  obtain ⟨ao, cap, rfl, hcap, hmax, hc⟩ := id h
  unfold maxLen at hmax
  have SA := hid (Slopes_any c (.slice ao c.length cap) w h hz)
  obtain ⟨E, hE⟩ : ∃ E, slpE c = E := ⟨_, rfl⟩
  obtain ⟨R, hR⟩ : ∃ R, nrmL c = R := ⟨_, rfl⟩
  rw [hE] at SA
  rw [hE, hR]
  have HE := hid hE
  have HR := hid hR
  clear hE hR hc
  obtain ⟨L, hL⟩ : ∃ L, c.length = L := ⟨_, rfl⟩
  rw [hL] at SA hcap h ⊢
  have HL := hid hL
  clear hL
  go_enter Tryz.func59, Tryz.ntmps59
  go_wp2_with fail
  refine SA.out.mono ?_
  rintro r w1 ⟨⟨vs, rfl, hvs⟩, hb1⟩
  by_cases hE0 : E = 0
  case neg =>
    have e2 : R = [] := by rw [← HR.out]; unfold nrmL; rw [HE.out]; exact if_neg hE0
    subst e2
    have HE0 := hid hE0
    go_wp2
    go_ret2
    exact ⟨⟨_, rfl, SlR.nil _ _⟩, hb1⟩
  have HS := hid (slp_zero (HE.out.trans hE0))
  have hq := (P4R.toQ (h : P4R 0 w (.slice ao L cap) c) HS.out.1).below hb1
  have e2 : nrmL c = normTo (toQ c) (slpL c) c.length := by unfold nrmL; rw [HE.out]; exact if_pos hE0
  have hsl := slsO_len HS.out.2
  have hcv := rv_cv HS.out.1
  have hlen := toQ_len c
  rw [HL.out] at hlen e2 hsl
  have HR2 := hid (HR.out.symm.trans e2)
  generalize toQ c = C at hq hcv hlen HR2
  generalize slpL c = T at hvs hsl HR2
  subst hE0
  have hL2 : 2 ≤ L := by have := hcv.two; omega
  have hL48 : L ≤ 48 := by have := hcv.most; omega
  have HCL := hid hlen
  have HTL := hid hsl
  obtain ⟨ao2, cap2, he2, -, -, hcc⟩ := hq
  obtain ⟨rfl, -⟩ : ao2 = ao ∧ True := by
    injection he2 with g1 g2 g3
    exact ⟨g1.symm, trivial⟩
  obtain ⟨b, off, rfl, hb, x0, x1, x2, x3⟩ := p_cell hcc (show 0 < C.length by omega)
  have HCC := hid hcc
  obtain ⟨at', ct, rfl, hct, hmt, htt⟩ := hvs
  have HTT := hid htt
  rw [hsl] at hct ⊢
  simp only [Nat.zero_mul, Nat.add_zero] at x0 x1 x2 x3
  clear e2 hcv hlen he2 hcc hsl htt HS HR HE SA
  unfold maxLen at hmt
  have hL0 : 0 < L := by omega
  have hL1 : 1 ≤ L := by omega
  have wL : IntKind.i64.wrap ((L : Int) - 1) = ((L - 1 : Nat) : Int) := by rw [IntWalk.i64_left]; unfold wrap64; omega
  obtain ⟨P0, hP0⟩ : ∃ P, C.getD 0 (0, 0) = P := ⟨_, rfl⟩
  rw [hP0] at x0 x1 x2 x3
  have HP0 := hid hP0
  clear hP0
  go_wp2_with fail
  have k4 := Blk.new w1 #[.int .i64 P0.1.num, .int .i64 (P0.1.den : Int), .int .i64 P0.2.num, .int .i64 (P0.2.den : Int)] 44
  have ba := alloc_below w1 (.cells #[.int .i64 P0.1.num, .int .i64 (P0.1.den : Int), .int .i64 P0.2.num, .int .i64 (P0.2.den : Int)] 44)
  have HN1 : Hid (normTo C T 1 = [P0]) := hid (by
    have : keepB C T 0 = true := rfl
    rw [normTo_yes this, HP0.out]
    rfl)
  obtain ⟨w2, hw2⟩ : ∃ w2, w1.alloc (.cells #[.int .i64 P0.1.num, .int .i64 (P0.1.den : Int), .int .i64 P0.2.num, .int .i64 (P0.2.den : Int)] 44) = w2 := ⟨_, rfl⟩
  obtain ⟨B, hB⟩ : ∃ B, w1.heap.size = B := ⟨_, rfl⟩
  have HB1 := hid hb1
  have HBB := hid hB
  rw [hw2] at k4 ba ⊢
  rw [hB] at k4 ba ⊢
  have ho1 := owns_four k4 (Nat.le_refl _)
  have hgc : ∀ (i : Nat) (W : World), i < L → Below B w1 W → W.cell? ⟨b, off + i * 4, none⟩ = some (.int .i64 (C.getD i (0, 0)).1.num) ∧ W.cell? ⟨b, off + i * 4 + 1, none⟩ = some (.int .i64 ((C.getD i (0, 0)).1.den : Int)) ∧ W.cell? ⟨b, off + i * 4 + 2, none⟩ = some (.int .i64 (C.getD i (0, 0)).2.num) ∧ W.cell? ⟨b, off + i * 4 + 3, none⟩ = some (.int .i64 ((C.getD i (0, 0)).2.den : Int)) := by
    intro i W hi hbW
    rw [← hB] at hbW
    obtain ⟨b', off', he, hb', x0, x1, x2, x3⟩ := p_cell HCC.out (show i < C.length by rw [HCL.out]; exact hi)
    cases he
    exact ⟨(hbW.cell (p := ⟨b, off + i * 4, none⟩) hb').trans x0, (hbW.cell (p := ⟨b, off + i * 4 + 1, none⟩) hb').trans x1, (hbW.cell (p := ⟨b, off + i * 4 + 2, none⟩) hb').trans x2, (hbW.cell (p := ⟨b, off + i * 4 + 3, none⟩) hb').trans x3⟩
  have HGC := hid hgc
  obtain ⟨bt, offt, rfl, -, -, -⟩ := q_cell HTT.out (show 0 < T.length by rw [HTL.out]; omega)
  have hgt : ∀ (i : Nat) (W : World), i < L - 1 → Below B w1 W → W.cell? ⟨bt, offt + i * 2, none⟩ = some (.int .i64 (T.getD i 0).num) ∧ W.cell? ⟨bt, offt + i * 2 + 1, none⟩ = some (.int .i64 ((T.getD i 0).den : Int)) := by
    intro i W hi hbW
    rw [← hB] at hbW
    obtain ⟨b', off', he, hb', x0, x1⟩ := q_cell HTT.out (show i < T.length by rw [HTL.out]; exact hi)
    cases he
    exact ⟨(hbW.cell (p := ⟨bt, offt + i * 2, none⟩) hb').trans x0, (hbW.cell (p := ⟨bt, offt + i * 2 + 1, none⟩) hb').trans x1⟩
  have HGT := hid hgt
  clear hw2 hB hb1 k4 x0 x1 x2 x3 hgc hgt HCC HTT
  go_loopw [6, 24] (fun y x wr => ∃ i : Nat, x = .int .i64 i ∧ i ≤ L - 1 ∧ Hid (wr.ownsRow B 44 4 y (normTo C T (i + 1)).length (ptsC (normTo C T (i + 1)))) ∧ Below B w1 wr) (fun _ x _ => L - 1 - (intOf x).toNat)
  case atStart => exact ⟨0, rfl, Nat.zero_le _, by rw [show 0 + 1 = 1 from rfl, HN1.out]; exact hid ho1, ba⟩
  case round =>
    obtain ⟨i, rfl, hi, HO, hbel⟩ := hrel
    by_cases hiL : i < L - 1
    · have hi2 : (i : Int) < ((L - 1 : Nat) : Int) := by omega
      have hgi := HGC.out (i + 1) wr (by omega) hbel
      rw [show off + (i + 1) * 4 = off + 4 + i * 4 by omega] at hgi
      obtain ⟨P, hP⟩ : ∃ P, C.getD (i + 1) (0, 0) = P := ⟨_, rfl⟩
      rw [hP] at hgi
      obtain ⟨p1, hp1⟩ : ∃ z, P.1.num = z := ⟨_, rfl⟩
      obtain ⟨p2, hp2⟩ : ∃ z, (P.1.den : Int) = z := ⟨_, rfl⟩
      obtain ⟨p3, hp3⟩ : ∃ z, P.2.num = z := ⟨_, rfl⟩
      obtain ⟨p4, hp4⟩ : ∃ z, (P.2.den : Int) = z := ⟨_, rfl⟩
      rw [hp1, hp2, hp3, hp4] at hgi
      have HPC : Hid (ptsC [C.getD (i + 1) (0, 0)] = [.int .i64 p1, .int .i64 p2, .int .i64 p3, .int .i64 p4]) := hid (by
        rw [hP, ← hp1, ← hp2, ← hp3, ← hp4]
        rfl)
      obtain ⟨x0, x1, x2, x3⟩ := hgi
      have hnl := normTo_len C T (i + 1)
      obtain ⟨NL, hNL⟩ : ∃ n, (normTo C T (i + 1)).length = n := ⟨_, rfl⟩
      rw [hNL] at HO hnl
      have HNL := hid hNL
      have hNL48 : NL ≤ 48 := by omega
      clear hNL
      clear hP hp1 hp2 hp3 hp4
      have hL12 : ((L - 1 : Nat) : Int) - 1 = ((L - 2 : Nat) : Int) := by omega
      have wL2 : IntKind.i64.wrap (((L - 1 : Nat) : Int) - 1) = ((L - 2 : Nat) : Int) := by rw [IntWalk.i64_left, hL12]; unfold wrap64; omega
      have wI : IntKind.i64.wrap ((i : Int) + 1) = ((i + 1 : Nat) : Int) := by rw [IntWalk.i64_left]; unfold wrap64; omega
      clear hL12
      go_wp2_with fail
      have kb := Blk.new wr #[.int .i64 p1, .int .i64 p2, .int .i64 p3, .int .i64 p4] 44
      have hbA := alloc_below wr (.cells #[.int .i64 p1, .int .i64 p2, .int .i64 p3, .int .i64 p4] 44)
      obtain ⟨W, hW⟩ : ∃ W, wr.alloc (.cells #[.int .i64 p1, .int .i64 p2, .int .i64 p3, .int .i64 p4] 44) = W := ⟨_, rfl⟩
      obtain ⟨H, hH⟩ : ∃ B, wr.heap.size = B := ⟨_, rfl⟩
      have hBr : B ≤ wr.heap.size := by have := hbel.size; have := HBB.out; omega
      have hbelW := hbel.trans (hbA.mono hBr)
      have HOW := hid (owns_below HO.out hbA)
      have hBW : B ≤ W.heap.size := by rw [← hW]; exact Nat.le_trans hBr hbA.size
      rw [hW] at kb hbelW HOW ⊢
      rw [hH] at kb ⊢
      clear hW hH hbA x0 x1 x2 x3 hbel HO hBr
      have hd := (Below.refl W.heap.size W).drew
      have HOd := hid (owns_below HOW.out hd)
      have hbd := hbelW.trans (hd.mono hBW)
      have hsd : B ≤ W.drew.heap.size := hBW
      have kd := kb.below hd
      have c0 := kd.look 0 rfl
      have c1 := kd.look 1 rfl
      have c2 := kd.look 2 rfl
      have c3 := kd.look 3 rfl
      by_cases hlast : i + 2 = L
      · have hl2 : (i : Int) = ((L - 2 : Nat) : Int) := by omega
        have hl3 : i = L - 2 := by omega
        have hkeep : keepB C T (i + 1) = true := by
          unfold keepB
          rw [HCL.out, decide_eq_true (show i + 1 + 1 = L by omega)]
          simp
        refine wp_walkJ (T := Below (W.heap.size)) (belowV_pre _) (.rd 0 (.rd 1 (.rd 2 (.rd 3 (.rd 4 (.rd 5 (.rd 6 (.rd 7 (.rd 8 (.rd 9 (.rd 10 (.rd 11 (.rd 12 (.rd 13 (.rd 14 (.rd 15 (.rd 16 (.inv [])))))))))))))))))) (by kernel_rfl) rfl (by kernel_rfl) (by kernel_rfl) ?_
        iterate 17 (refine walkJ_rd rfl (fun K hK => ?_); go_simp; refine hK _ ?_; clear hK K)
        refine walkJ_nil ?_
        have HK := hid (normTo_yes hkeep)
        clear hkeep
        obtain ⟨Wd, hWd⟩ : ∃ Wd, W.drew = Wd := ⟨_, rfl⟩
        rw [hWd] at HOd hbd hsd c0 c1 c2 c3 ⊢
        clear hWd
        go_wp2_with (first
          | (at_builtin; refine wpList_appH rfl (.tmp 46) (.tmp 48) _ rfl B 44 (.agg #[.int .i64 0, .int .i64 0, .int .i64 0, .int .i64 0]) 4 32 Tryz.underlying22 infoPoint rfl (by decide) 44 _ _ _ rfl HOd.out [.int .i64 p1, .int .i64 p2, .int .i64 p3, .int .i64 p4] _ (by first | rfl | simp) rfl rfl (by simp [Value.oneCell']) (by unfold maxLen; omega) (by omega) (by omega) ?_; intro g5 gcap w5 ho5 hb5 _ _ _))
        go_roundw
        case rel =>
          refine ⟨i + 1, by go_num, by omega, ?_, hbd.trans hb5⟩
          rw [HK.out, List.length_append, ptsC_append, HPC.out, HNL.out]
          exact hid ho5
        case measure => simp [intOf]; omega
      · have hl2 : ¬ (i : Int) = ((L - 2 : Nat) : Int) := by omega
        have hl3 : ¬ i = L - 2 := by omega
        have hi1L : i + 1 < L - 1 := by omega
        have hi1L2 : (i : Int) + 1 < ((L - 1 : Nat) : Int) := by omega
        have hi1p : 0 ≤ (i : Int) + 1 := by omega
        have s0 := fun x : SubT (Below W.heap.size) W.drew => (HGT.out i x.w hiL (hbelW.trans ((hd.trans x.b).mono hBW))).1
        have s1 := fun x : SubT (Below W.heap.size) W.drew => (HGT.out i x.w hiL (hbelW.trans ((hd.trans x.b).mono hBW))).2
        have s2 := fun x : SubT (Below W.heap.size) W.drew => (HGT.out (i + 1) x.w hi1L (hbelW.trans ((hd.trans x.b).mono hBW))).1
        have s3 := fun x : SubT (Below W.heap.size) W.drew => (HGT.out (i + 1) x.w hi1L (hbelW.trans ((hd.trans x.b).mono hBW))).2
        have hki : keepB C T (i + 1) = decide (T.getD i 0 ≠ T.getD (i + 1) 0) := by
          unfold keepB
          rw [HCL.out, decide_eq_false (show ¬ i + 1 + 1 = L by omega), decide_eq_false (show ¬ i + 1 = 0 by omega)]
          rfl
        obtain ⟨S, hS⟩ : ∃ S, T.getD i 0 = S := ⟨_, rfl⟩
        obtain ⟨U, hU⟩ : ∃ S, T.getD (i + 1) 0 = S := ⟨_, rfl⟩
        rw [hS] at s0 s1 hki
        rw [hU] at s2 s3 hki
        have hre := rat_eq_iff S U
        obtain ⟨n1, hn1⟩ : ∃ z, S.num = z := ⟨_, rfl⟩
        obtain ⟨d1, hd1⟩ : ∃ z, (S.den : Int) = z := ⟨_, rfl⟩
        obtain ⟨n2, hn2⟩ : ∃ z, U.num = z := ⟨_, rfl⟩
        obtain ⟨d2, hd2⟩ : ∃ z, (U.den : Int) = z := ⟨_, rfl⟩
        rw [hn1, hd1, hn2, hd2] at hre
        rw [hn1] at s0
        rw [hd1] at s1
        rw [hn2] at s2
        rw [hd2] at s3
        have HRE := hid hre
        have HKI := hid hki
        clear hS hU hn1 hd1 hn2 hd2 hre hki
        by_cases hnn : n1 = n2
        · by_cases hdd : d1 = d2
          · have hkeep : keepB C T (i + 1) = false := by
              rw [HKI.out]
              exact decide_eq_false (fun h => h (HRE.out.2 ⟨hnn, hdd⟩))
            have HK := hid (normTo_no hkeep)
            clear hkeep
            subst hnn hdd
            refine wp_walkJ (T := Below (W.heap.size)) (belowV_pre _) (.rd 0 (.rd 1 (.rd 2 (.rd 3 (.rd 4 (.rd 5 (.rd 6 (.rd 7 (.rd 8 (.rd 9 (.rd 10 (.rd 11 (.rd 12 (.rd 13 (.rd 14 (.rd 15 (.rd 16 (.inv [])))))))))))))))))) (by kernel_rfl) rfl (by kernel_rfl) (by kernel_rfl) ?_
            iterate 17 (refine walkJ_rd rfl (fun K hK => ?_); go_simp; refine hK _ ?_; clear hK K)
            refine walkJ_nil ?_
            clear s0 s1 s2 s3
            go_wp2
            go_roundw
            case rel =>
              refine ⟨i + 1, by go_num, by omega, ?_, hbd⟩
              rw [HK.out, HNL.out]
              exact HOd
            case measure => simp [intOf]; omega
          · have hkeep : keepB C T (i + 1) = true := by
              rw [HKI.out]
              exact decide_eq_true (fun h => hdd (HRE.out.1 h).2)
            subst hnn
            refine wp_walkJ (T := Below (W.heap.size)) (belowV_pre _) (.rd 0 (.rd 1 (.rd 2 (.rd 3 (.rd 4 (.rd 5 (.rd 6 (.rd 7 (.rd 8 (.rd 9 (.rd 10 (.rd 11 (.rd 12 (.rd 13 (.rd 14 (.rd 15 (.rd 16 (.inv [])))))))))))))))))) (by kernel_rfl) rfl (by kernel_rfl) (by kernel_rfl) ?_
            iterate 17 (refine walkJ_rd rfl (fun K hK => ?_); go_simp; refine hK _ ?_; clear hK K)
            refine walkJ_nil ?_
            clear s0 s1 s2 s3 hdd
            have HK := hid (normTo_yes hkeep)
            clear hkeep
            obtain ⟨Wd, hWd⟩ : ∃ Wd, W.drew = Wd := ⟨_, rfl⟩
            rw [hWd] at HOd hbd hsd c0 c1 c2 c3 ⊢
            clear hWd
            go_wp2_with (first
              | (at_builtin; refine wpList_appH rfl (.tmp 46) (.tmp 48) _ rfl B 44 (.agg #[.int .i64 0, .int .i64 0, .int .i64 0, .int .i64 0]) 4 32 Tryz.underlying22 infoPoint rfl (by decide) 44 _ _ _ rfl HOd.out [.int .i64 p1, .int .i64 p2, .int .i64 p3, .int .i64 p4] _ (by first | rfl | simp) rfl rfl (by simp [Value.oneCell']) (by unfold maxLen; omega) (by omega) (by omega) ?_; intro g5 gcap w5 ho5 hb5 _ _ _))
            go_roundw
            case rel =>
              refine ⟨i + 1, by go_num, by omega, ?_, hbd.trans hb5⟩
              rw [HK.out, List.length_append, ptsC_append, HPC.out, HNL.out]
              exact hid ho5
            case measure => simp [intOf]; omega
        · have hkeep : keepB C T (i + 1) = true := by
            rw [HKI.out]
            exact decide_eq_true (fun h => hnn (HRE.out.1 h).1)
          refine wp_walkJ (T := Below (W.heap.size)) (belowV_pre _) (.rd 0 (.rd 1 (.rd 2 (.rd 3 (.rd 4 (.rd 5 (.rd 6 (.rd 7 (.rd 8 (.rd 9 (.rd 10 (.rd 11 (.rd 12 (.rd 13 (.rd 14 (.rd 15 (.rd 16 (.inv [])))))))))))))))))) (by kernel_rfl) rfl (by kernel_rfl) (by kernel_rfl) ?_
          iterate 17 (refine walkJ_rd rfl (fun K hK => ?_); go_simp; refine hK _ ?_; clear hK K)
          refine walkJ_nil ?_
          clear s0 s1 s2 s3 hnn
          have HK := hid (normTo_yes hkeep)
          clear hkeep
          obtain ⟨Wd, hWd⟩ : ∃ Wd, W.drew = Wd := ⟨_, rfl⟩
          rw [hWd] at HOd hbd hsd c0 c1 c2 c3 ⊢
          clear hWd
          go_wp2_with (first
            | (at_builtin; refine wpList_appH rfl (.tmp 46) (.tmp 48) _ rfl B 44 (.agg #[.int .i64 0, .int .i64 0, .int .i64 0, .int .i64 0]) 4 32 Tryz.underlying22 infoPoint rfl (by decide) 44 _ _ _ rfl HOd.out [.int .i64 p1, .int .i64 p2, .int .i64 p3, .int .i64 p4] _ (by first | rfl | simp) rfl rfl (by simp [Value.oneCell']) (by unfold maxLen; omega) (by omega) (by omega) ?_; intro g5 gcap w5 ho5 hb5 _ _ _))
          go_roundw
          case rel =>
            refine ⟨i + 1, by go_num, by omega, ?_, hbd.trans hb5⟩
            rw [HK.out, List.length_append, ptsC_append, HPC.out, HNL.out]
            exact hid ho5
          case measure => simp [intOf]; omega
    · obtain rfl : i = L - 1 := by omega
      have hi2 : ¬ ((L - 1 : Nat) : Int) < ((L - 1 : Nat) : Int) := by omega
      obtain ⟨ao3, c3, he3, -⟩ := id (SlR.of_owns HO.out)
      subst he3
      have hBw : Below w.heap.size w wr := HB1.out.trans ((show Below w1.heap.size w1 wr by rw [HBB.out]; exact hbel).mono HB1.out.size)
      have hwg : w.heap.size ≤ B := by rw [← HBB.out]; exact HB1.out.size
      have hr := SlR.mono (SlR.of_owns HO.out) hwg
      have e : R = normTo C T L := HR2.out
      rw [show L - 1 + 1 = L by omega] at hr
      have HRR := hid hr
      have HRE := hid e
      clear hr e
      go_wp2
      go_ret2
      refine ⟨⟨_, rfl, ?_⟩, hBw⟩
      unfold PsR
      rw [HRE.out]
      exact HRR.out

end Go.Proofs.YtfkclcoipadhmaaGreatDoor

/- Walks of calc.at's comparison and of slices.BinarySearchFunc at points. -/
namespace Go.Proofs.YtfkclcoipadhmaaGreatDoor
open Go.RowKit
attribute [local irreducible] seqS seqST walkV walkJ

set_option maxHeartbeats 1000000 in
theorem atc_any (p : Pt) (x : Rat) (hp : fits p.1) (hx : fits x) (w : World) :
    Calls Tryz.prog 79 #[ptQ p, frQ x] w fun r w' => r = .returned (.int .i64 (cmpQ p.1 x)) ∧ Below w.heap.size w w' := by
  have OR := hid (fun w => order_any p.1 x hp hx w)
  obtain ⟨cz, hcz⟩ : ∃ z, cmpQ p.1 x = z := ⟨_, rfl⟩
  rw [hcz] at OR ⊢
  unfold frQ at OR ⊢
  unfold ptQ
  clear hcz
  have b0 := ((Below.refl w.heap.size w).alloc (Nat.le_refl _) (.cells #[.int .i64 p.1.num, .int .i64 (p.1.den : Int), .int .i64 p.2.num, .int .i64 (p.2.den : Int)] 44)).alloc (by simp) (.cells #[.int .i64 x.num, .int .i64 (x.den : Int)] 31)
  go_enter Tryz.func79, Tryz.ntmps79
  go_wp2_with fail
  refine (OR.out _).mono ?_
  rintro r w1 ⟨rfl, hb1⟩
  go_wp2
  go_ret
  exact ⟨rfl, b0.trans (hb1.mono b0.size)⟩
/-- cmp < 0, cmp = 0. -/
theorem cmpQ_lt (a b : Rat) : cmpQ a b < 0 ↔ a < b := by
  rcases cmp_cases a b with ⟨h, e, -⟩ | ⟨h, e, -⟩ | ⟨h, e, -⟩ <;> rw [e]
  · simp [h]
  · constructor
    · intro h2; omega
    · intro h2; grind
  · constructor
    · intro h2; omega
    · intro h2; grind
theorem cmpQ_eq (a b : Rat) : cmpQ a b = 0 ↔ a = b := by
  rcases cmp_cases a b with ⟨h, e, -⟩ | ⟨h, e, -⟩ | ⟨h, e, -⟩ <;> rw [e]
  · constructor
    · intro h2; omega
    · intro h2; grind
  · constructor
    · intro h2; omega
    · intro h2; grind
  · simp [h]

/-- Where a number lies among the points. -/
structure Found (C : List Pt) (x : Rat) (i : Nat) (f : Bool) : Prop where
  le : i ≤ C.length
  lo : ∀ j, j < i → (C.getD j (0, 0)).1 < x
  hi : ∀ j, i ≤ j → j < C.length → x ≤ (C.getD j (0, 0)).1
  yes : f = true ↔ i < C.length ∧ (C.getD i (0, 0)).1 = x

structure FoundR (C : List Pt) (x : Rat) (r : Ending) : Prop where
  out : ∃ (i : Nat) (f : Bool), r = .returned (.tuple #[.int .i64 i, .bool f]) ∧ Found C x i f

set_option maxHeartbeats 4000000 in
set_option maxRecDepth 100000 in
theorem search_any (C : List Pt) (x : Rat) (v : Value) (w : World) (h : PsR 0 w v C) (hf : ∀ i, i < C.length → fits (C.getD i (0, 0)).1) (hr : ∀ i j, i < j → j < C.length → (C.getD i (0, 0)).1 < (C.getD j (0, 0)).1) (hl : C.length ≤ 48) (hx : fits x) :
    Calls Tryz.prog 78 #[v, frQ x, .func (.func 79) #[] #[]] w fun r w' =>
      FoundR C x r ∧ Below w.heap.size w w' := by
  obtain ⟨ao, cap, rfl, hcap, hmax, hc⟩ := h
  unfold maxLen at hmax
  obtain ⟨L, hL⟩ : ∃ L, C.length = L := ⟨_, rfl⟩
  have HL := hid hL
  rw [hL] at hcap hf hr hl ⊢
  have HF := hid hf
  have HR := hid hr
  have HC := hid hc
  have CM := hid (fun (i : Nat) (hi : i < L) w => atc_any (C.getD i (0, 0)) x (hf i hi) hx w)
  unfold frQ ptQ at CM
  unfold frQ
  clear hL hc hf hr
  go_enter Tryz.func78, Tryz.ntmps78
  go_wp2_with fail
  have k0 := Blk.new w #[.int .i64 x.num, .int .i64 (x.den : Int)] 31
  have b0 := alloc_below w (.cells #[.int .i64 x.num, .int .i64 (x.den : Int)] 31)
  obtain ⟨w0, hw0⟩ : ∃ w0, w.alloc (.cells #[.int .i64 x.num, .int .i64 (x.den : Int)] 31) = w0 := ⟨_, rfl⟩
  rw [hw0] at k0 b0 ⊢
  clear hw0
  go_loopw [9, 10] (fun x' y' wr => ∃ i j : Nat, x' = .int .i64 i ∧ y' = .int .i64 j ∧ i ≤ j ∧ j ≤ L ∧ (∀ k, k < i → (C.getD k (0, 0)).1 < x) ∧ (∀ k, j ≤ k → k < L → x ≤ (C.getD k (0, 0)).1) ∧ Below w0.heap.size w0 wr) (fun x' y' _ => (intOf y').toNat - (intOf x').toNat)
  case atStart => exact ⟨0, L, rfl, rfl, Nat.zero_le _, Nat.le_refl _, fun k hk => by omega, fun k h1 h2 => by omega, Below.refl _ _⟩
  case round =>
    obtain ⟨i, j, rfl, rfl, hij, hj, hlo, hhi, hbel⟩ := hrel
    have HLO := hid hlo
    have HHI := hid hhi
    clear hlo hhi
    by_cases hlt : i < j
    · have hlt2 : (i : Int) < (j : Int) := by omega
      go_wp2_with fail
      obtain ⟨m, hm⟩ : ∃ m : Nat, (i + j) / 2 = m := ⟨_, rfl⟩
      have hm2 : ((i : Int) + (j : Int)) / 2 = (m : Int) := by omega
      rw [hm2]
      have hmL : m < L := by omega
      have him : i ≤ m := by omega
      have hmj : m < j := by omega
      have hmL2 : (m : Int) < (L : Int) := by omega
      obtain ⟨b, off, rfl, hb, e0, e1, e2, e3⟩ := p_cell HC.out (show m < C.length by rw [HL.out]; exact hmL)
      have CMM := hid (CM.out m hmL)
      have hlo2 : ∀ k, k < m → k < L → (C.getD k (0, 0)).1 < (C.getD m (0, 0)).1 := fun k h1 _ => HR.out k m h1 hmL
      have hhi2 : ∀ k, m < k → k < L → (C.getD m (0, 0)).1 < (C.getD k (0, 0)).1 := fun k h1 h2 => HR.out m k h1 h2
      obtain ⟨P, hP⟩ : ∃ P, C.getD m (0, 0) = P := ⟨_, rfl⟩
      rw [hP] at e0 e1 e2 e3 CMM hlo2 hhi2
      have HP := hid hP
      have HLO2 := hid hlo2
      have HHI2 := hid hhi2
      have hcl := cmpQ_lt P.1 x
      obtain ⟨cz, hcz⟩ : ∃ z, cmpQ P.1 x = z := ⟨_, rfl⟩
      rw [hcz] at CMM hcl
      have HCL := hid hcl
      have hbw : Below w.heap.size w wr := b0.trans (hbel.mono b0.size)
      clear hm hm2 hP hlo2 hhi2 hcz hcl
      have hd := (Below.refl wr.heap.size wr).drew
      have z0 := fun y : SubT (Below wr.heap.size) wr.drew => ((hbw.trans ((hd.trans y.b).mono hbw.size)).cell (p := ⟨b, off + m * 4, none⟩) hb).trans e0
      have z1 := fun y : SubT (Below wr.heap.size) wr.drew => ((hbw.trans ((hd.trans y.b).mono hbw.size)).cell (p := ⟨b, off + m * 4 + 1, none⟩) hb).trans e1
      have z2 := fun y : SubT (Below wr.heap.size) wr.drew => ((hbw.trans ((hd.trans y.b).mono hbw.size)).cell (p := ⟨b, off + m * 4 + 2, none⟩) hb).trans e2
      have z3 := fun y : SubT (Below wr.heap.size) wr.drew => ((hbw.trans ((hd.trans y.b).mono hbw.size)).cell (p := ⟨b, off + m * 4 + 3, none⟩) hb).trans e3
      have z4 := fun y : SubT (Below wr.heap.size) wr.drew => (k0.below (hbel.trans ((hd.trans y.b).mono hbel.size))).look 0 rfl
      have z5 := fun y : SubT (Below wr.heap.size) wr.drew => (k0.below (hbel.trans ((hd.trans y.b).mono hbel.size))).look 1 rfl
      refine wp_walkJ (T := Below (wr.heap.size)) (belowV_pre _) (.rd 0 (.rd 1 (.rd 2 (.rd 3 (.rd 4 (.rd 5 (.bt 6 (.rd 7 (.inv []))))))))) (by kernel_rfl) rfl (by kernel_rfl) (by kernel_rfl) ?_
      iterate 6 (refine walkJ_rd rfl (fun K hK => ?_); go_simp; refine hK _ ?_; clear hK K)
      clear z0 z1 z2 z3 z4 z5
      (refine walkJ_bt rfl (fun K hK => ?_); go_simp; refine (CMM.out _).mono ?_; rintro r w3 ⟨rfl, hb3⟩; refine ⟨_, rfl, hK _ _ ?_⟩; clear hK K)
      have hbel3 := hbel.trans ((hd.trans hb3).mono hbel.size)
      clear hb3 hd e0 e1 e2 e3
      by_cases hcz : cz < 0
      · have HLT := hid (HCL.out.1 hcz)
        iterate 1 (refine walkJ_rd rfl (fun K hK => ?_); go_simp; refine hK _ ?_; clear hK K)
        refine walkJ_nil ?_
        go_wp2
        go_roundw
        case rel =>
          refine ⟨m + 1, j, by go_num, rfl, by omega, hj, fun k hk => ?_, HHI.out, hbel3⟩
          by_cases hkm : k = m
          · rw [hkm, HP.out]; exact HLT.out
          · have h1 := HLO2.out k (by omega) (by omega)
            have h2 := HLT.out
            grind
        case measure => simp [intOf]; omega
      · have HGE := hid (Rat.not_lt.1 (fun h => hcz (HCL.out.2 h)))
        iterate 1 (refine walkJ_rd rfl (fun K hK => ?_); go_simp; refine hK _ ?_; clear hK K)
        refine walkJ_nil ?_
        go_wp2
        go_roundw
        case rel =>
          refine ⟨i, m, rfl, rfl, by omega, by omega, HLO.out, fun k hk hkL => ?_, hbel3⟩
          by_cases hkm : k = m
          · rw [hkm, HP.out]; exact HGE.out
          · have h1 := HHI2.out k (by omega) hkL
            have h2 := HGE.out
            grind
        case measure => simp [intOf]; omega
    · obtain rfl : i = j := by omega
      have hlt2 : ¬ (i : Int) < (i : Int) := by omega
      have hbw : Below w.heap.size w wr := b0.trans (hbel.mono b0.size)
      go_wp2_with fail
      have hd := (Below.refl wr.heap.size wr).drew
      by_cases hiL : i < L
      · have hiL2 : (i : Int) < (L : Int) := by omega
        obtain ⟨b, off, rfl, hb, e0, e1, e2, e3⟩ := p_cell HC.out (show i < C.length by rw [HL.out]; exact hiL)
        have CMM := hid (CM.out i hiL)
        obtain ⟨P, hP⟩ : ∃ P, C.getD i (0, 0) = P := ⟨_, rfl⟩
        rw [hP] at e0 e1 e2 e3 CMM
        have HP := hid hP
        have hcl := cmpQ_eq P.1 x
        obtain ⟨cz, hcz⟩ : ∃ z, cmpQ P.1 x = z := ⟨_, rfl⟩
        rw [hcz] at CMM hcl
        have HCL := hid hcl
        clear hP hcz hcl
        have z0 := fun y : SubT (Below wr.heap.size) wr.drew => ((hbw.trans ((hd.trans y.b).mono hbw.size)).cell (p := ⟨b, off + i * 4, none⟩) hb).trans e0
        have z1 := fun y : SubT (Below wr.heap.size) wr.drew => ((hbw.trans ((hd.trans y.b).mono hbw.size)).cell (p := ⟨b, off + i * 4 + 1, none⟩) hb).trans e1
        have z2 := fun y : SubT (Below wr.heap.size) wr.drew => ((hbw.trans ((hd.trans y.b).mono hbw.size)).cell (p := ⟨b, off + i * 4 + 2, none⟩) hb).trans e2
        have z3 := fun y : SubT (Below wr.heap.size) wr.drew => ((hbw.trans ((hd.trans y.b).mono hbw.size)).cell (p := ⟨b, off + i * 4 + 3, none⟩) hb).trans e3
        have z4 := fun y : SubT (Below wr.heap.size) wr.drew => (k0.below (hbel.trans ((hd.trans y.b).mono hbel.size))).look 0 rfl
        have z5 := fun y : SubT (Below wr.heap.size) wr.drew => (k0.below (hbel.trans ((hd.trans y.b).mono hbel.size))).look 1 rfl
        refine wp_walkJ (T := Below (wr.heap.size)) (belowV_pre _) (.rd 0 (.rd 1 (.rd 2 (.rd 3 (.rd 4 (.rd 5 (.rd 6 (.rd 7 (.rd 8 (.rd 9 (.rd 10 (.mv 11 (.rd 12 (.rd 13 (.rd 14 (.rd 15 (.inv []))))))))))))))))) (by kernel_rfl) rfl (by kernel_rfl) (by kernel_rfl) ?_
        iterate 11 (refine walkJ_rd rfl (fun K hK => ?_); go_simp; refine hK _ ?_; clear hK K)
        clear z0 z1 z2 z3 z4 z5
        (refine walkJ_mv rfl (fun K hK => ?_); go_simp; refine (CMM.out _).mono ?_; rintro r w3 ⟨rfl, hb3⟩; refine ⟨_, rfl, hK _ _ hb3 ?_⟩; clear hK K)
        have hbw3 := hbw.trans ((hd.trans hb3).mono hbw.size)
        clear hb3 hd e0 e1 e2 e3
        by_cases hcz : cz = 0
        · have HEQ := hid (HCL.out.1 hcz)
          subst hcz
          iterate 4 (refine walkJ_rd rfl (fun K hK => ?_); go_simp; refine hK _ ?_; clear hK K)
          refine walkJ_nil ?_
          go_wp2
          go_ret2
          exact ⟨⟨⟨i, true, rfl, ⟨by rw [HL.out]; exact hj, HLO.out, by rw [HL.out]; exact HHI.out, ⟨fun _ => ⟨by rw [HL.out]; exact hiL, by rw [HP.out]; exact HEQ.out⟩, fun _ => rfl⟩⟩⟩⟩, hbw3⟩
        · have HNE := hid (fun h => hcz (HCL.out.2 h))
          iterate 4 (refine walkJ_rd rfl (fun K hK => ?_); go_simp; refine hK _ ?_; clear hK K)
          refine walkJ_nil ?_
          go_wp2
          go_ret2
          exact ⟨⟨⟨i, _, rfl, ⟨by rw [HL.out]; exact hj, HLO.out, by rw [HL.out]; exact HHI.out, ⟨fun h => absurd (by simpa using h) hcz, fun h => absurd (by rw [← HP.out]; exact h.2) HNE.out⟩⟩⟩⟩, hbw3⟩
      · have hiL2 : ¬ (i : Int) < (L : Int) := by omega
        refine wp_walkJ (T := Below (wr.heap.size)) (belowV_pre _) (.rd 0 (.rd 1 (.rd 2 (.rd 3 (.rd 4 (.rd 5 (.rd 6 (.rd 7 (.rd 8 (.rd 9 (.rd 10 (.mv 11 (.rd 12 (.rd 13 (.rd 14 (.rd 15 (.inv []))))))))))))))))) (by kernel_rfl) rfl (by kernel_rfl) (by kernel_rfl) ?_
        iterate 11 (refine walkJ_rd rfl (fun K hK => ?_); go_simp; refine hK _ ?_; clear hK K)
        (refine walkJ_sk rfl (fun K hK => ?_); go_simp; refine hK _ ?_; clear hK K)
        iterate 4 (refine walkJ_rd rfl (fun K hK => ?_); go_simp; refine hK _ ?_; clear hK K)
        refine walkJ_nil ?_
        have hbw3 := hbw.trans (hd.mono hbw.size)
        go_wp2
        go_ret2
        exact ⟨⟨⟨i, false, rfl, ⟨by rw [HL.out]; exact hj, HLO.out, by rw [HL.out]; exact HHI.out, ⟨fun h => (by cases h), fun h => absurd (by rw [← HL.out]; exact h.1) hiL⟩⟩⟩⟩, hbw3⟩

end Go.Proofs.YtfkclcoipadhmaaGreatDoor

/- Walk of calc.at. -/
namespace Go.Proofs.YtfkclcoipadhmaaGreatDoor
open Go.RowKit
attribute [local irreducible] seqS seqST walkV walkJ

theorem seg_comm (p q : Pt) (x : Rat) : segO p q x = (fitO (x - p.1)).bind fun d => (slO p q).bind fun s => (fitO (d * s)).bind fun m => fitO (p.2 + m) := by
  unfold segO
  cases slO p q with
  | none => cases fitO (x - p.1) <;> rfl
  | some s => cases fitO (x - p.1) <;> rfl
theorem seg_cal (ok : Bool) (p q : Pt) (x : Rat) (k1 k2 k3 : Bool) (v1 v2 v3 : Rat) (h1 : k1 = calK ok (fitO (x - p.1))) (e1 : v1 = calV ok (fitO (x - p.1))) (h2 : k2 = calK k1 (slO p q)) (e2 : v2 = calV k1 (slO p q))
    (h3 : k3 = calK k2 (fitO (v1 * v2))) (e3 : v3 = calV k2 (fitO (v1 * v2))) : calK k3 (fitO (p.2 + v3)) = calK ok (segO p q x) ∧ calV k3 (fitO (p.2 + v3)) = calV ok (segO p q x) := by
  have a3 := cal_bind k2 (fitO (v1 * v2)) (fun m => fitO (p.2 + m))
  rw [← h3, ← e3] at a3
  have a2 := cal_bind k1 (slO p q) (fun s => (fitO (v1 * s)).bind fun m => fitO (p.2 + m))
  rw [← h2, ← e2] at a2
  have a1 := cal_bind ok (fitO (x - p.1)) (fun d => (slO p q).bind fun s => (fitO (d * s)).bind fun m => fitO (p.2 + m))
  rw [← h1, ← e1] at a1
  rw [seg_comm]
  exact ⟨a3.1.trans (a2.1.trans a1.1), a3.2.trans (a2.2.trans a1.2)⟩
theorem segO_fits {p q : Pt} {x r : Rat} (h : segO p q x = some r) : fits r := by
  rw [seg_comm] at h
  cases h1 : fitO (x - p.1) with
  | none => rw [h1] at h; cases h
  | some d =>
    cases h2 : slO p q with
    | none => rw [h1, h2] at h; cases h
    | some s =>
      cases h3 : fitO (d * s) with
      | none => rw [h1, h2] at h; simp only [Option.bind_some] at h; rw [h3] at h; cases h
      | some m =>
        rw [h1, h2] at h
        simp only [Option.bind_some] at h
        rw [h3] at h
        exact (fitO_fits h).1
/-- What the search finds, in the domain of a curve. -/
theorem found_at {C : List Pt} (hc : CV C) {x : Rat} (hd : InDom C x) {i : Nat} {f : Bool} (h : Found C x i f) :
    (f = true ∧ i < C.length ∧ atO C x = some (C.getD i (0, 0)).2) ∨ (f = false ∧ 1 ≤ i ∧ i < C.length ∧ (C.getD (i - 1) (0, 0)).1 ≠ (C.getD i (0, 0)).1 ∧ atO C x = segO (C.getD (i - 1) (0, 0)) (C.getD i (0, 0)) x) := by
  cases f with
  | true =>
    have hy := h.yes.1 rfl
    exact .inl ⟨rfl, hy.1, at_same hc hy.1 hy.2⟩
  | false =>
    right
    have hn : ¬ (i < C.length ∧ (C.getD i (0, 0)).1 = x) := fun hh => by have := h.yes.2 hh; cases this
    have hL := hc.two
    have hi : i < C.length := by
      apply Decidable.byContradiction
      intro hi
      have h1 := h.lo (C.length - 1) (by omega)
      have h2 := hd.2
      grind
    have hi1 : 1 ≤ i := by
      apply Decidable.byContradiction
      intro h0
      obtain rfl : i = 0 := by omega
      have h1 := h.hi 0 (Nat.le_refl _) (by omega)
      have h2 := hd.1
      have h3 := hc.first
      rw [h3] at h1
      refine hn ⟨by omega, ?_⟩
      rw [h3]
      exact Rat.le_antisymm h2 h1
    have h1 := h.lo (i - 1) (by omega)
    have h2 := h.hi i (Nat.le_refl _) hi
    have h3 : x < (C.getD i (0, 0)).1 := by
      have : (C.getD i (0, 0)).1 ≠ x := fun e => hn ⟨hi, e⟩
      grind
    have hb := at_between hc (i := i - 1) (by omega) h1 (by rw [show i - 1 + 1 = i by omega]; exact h3)
    rw [show i - 1 + 1 = i by omega] at hb
    exact ⟨rfl, hi1, hi, fun e => by grind, hb⟩
structure AtR (C : List Pt) (x : Rat) (g : Nat) (ok : Bool) (w : World) (r : Ending) (w' : World) : Prop where
  out : ∃ V, r = .returned (frQ V) ∧ fits V ∧ (calK ok (atO C x) = true → atO C x = some V)
  cal : CalB w' g (calK ok (atO C x))
  tr : CalT g w w'

set_option maxHeartbeats 4000000 in
set_option maxRecDepth 100000 in
theorem at_any (C : List Pt) (x : Rat) (v : Value) (hc : CV C) (hd : InDom C x) (hx : fits x) (g : Nat) (ok : Bool) (w : World) (h : PsR 0 w v C) (hz : Z0 w) (hk : CalB w g ok) :
    Calls Tryz.prog 39 #[.pointer (some ⟨g, 0, none⟩), v, frQ x] w fun r w' => AtR C x g ok w r w' := by
  obtain ⟨ao, cap, rfl, hcap, hmax, hcells⟩ := id h
  unfold maxLen at hmax
  have SE := hid (fun w h => search_any C x (.slice ao C.length cap) w h (fun i hi => (hc.fit i hi).1) (fun i j hij hj => (hc.lt hij hj).1) hc.most hx)
  obtain ⟨L, hL⟩ : ∃ L, C.length = L := ⟨_, rfl⟩
  have HL := hid hL
  rw [hL] at hcap SE h ⊢
  have HCC := hid hcells
  have HCV := hid hc
  have HDM := hid hd
  have hL2 : 2 ≤ L := by have := hc.two; omega
  have hL48 : L ≤ 48 := by have := hc.most; omega
  unfold frQ at SE ⊢
  clear hL hcells hc hd
  go_enter Tryz.func39, Tryz.ntmps39
  have k0 := (Blk.new w #[.int .i64 x.num, .int .i64 (x.den : Int)] 31).alloc (.cells #[.int .i64 0, .int .i64 0] 31)
  have k1 := Blk.new (w.alloc (.cells #[.int .i64 x.num, .int .i64 (x.den : Int)] 31)) #[.int .i64 0, .int .i64 0] 31
  have b0 := ((Below.refl w.heap.size w).alloc (Nat.le_refl _) (.cells #[.int .i64 x.num, .int .i64 (x.den : Int)] 31)).alloc (by simp) (.cells #[.int .i64 0, .int .i64 0] 31)
  rw [World.size_alloc] at k1
  have c0 := k0.look 0 rfl
  have c1 := k0.look 1 rfl
  go_wp2_with fail
  obtain ⟨w0, hw0⟩ : ∃ w0, (w.alloc (.cells #[.int .i64 x.num, .int .i64 (x.den : Int)] 31)).alloc (.cells #[.int .i64 0, .int .i64 0] 31) = w0 := ⟨_, rfl⟩
  rw [hw0] at k0 k1 b0 ⊢
  clear hw0 c0 c1
  refine (SE.out _ (PsR.below h b0)).mono ?_
  rintro r w1 ⟨⟨⟨i, f, rfl, hf⟩⟩, hb1⟩
  have hfa := found_at HCV.out HDM.out hf
  rw [HL.out] at hfa
  have b1 := b0.trans (hb1.mono b0.size)
  have kx1 := k0.below hb1
  have kr1 := k1.below hb1
  have hg : g < w.heap.size := hk.lt
  have hk1 := CalB.below hk b1
  have hz1 := hz.below b1
  clear hb1 k0 k1 b0 hf
  have hgr : w.heap.size + 1 ≠ g := by omega
  rcases hfa with ⟨rfl, hiL, hat⟩ | ⟨rfl, hi1, hiL, hne, hat⟩
  · obtain ⟨b, off, rfl, hb, e0, e1, e2, e3⟩ := p_cell HCC.out (show i < C.length by rw [HL.out]; exact hiL)
    have hfp := HCV.out.fit i (by rw [HL.out]; exact hiL)
    have HAT := hid hat
    obtain ⟨P, hP⟩ : ∃ P, C.getD i (0, 0) = P := ⟨_, rfl⟩
    rw [hP] at e0 e1 e2 e3 hfp HAT
    have hiL2 : (i : Int) < (L : Int) := by omega
    obtain ⟨n, hn⟩ : ∃ n, P.2.num = n := ⟨_, rfl⟩
    obtain ⟨d, hd⟩ : ∃ n, (P.2.den : Int) = n := ⟨_, rfl⟩
    have x2 := (b1.cell (p := ⟨b, off + i * 4 + 2, none⟩) hb).trans e2
    have x3 := (b1.cell (p := ⟨b, off + i * 4 + 3, none⟩) hb).trans e3
    rw [hn] at x2
    rw [hd] at x3
    have HFP := hid hfp
    have HN := hid hn
    have HD := hid hd
    have q0 := kr1.look 0 rfl
    have q1 := kr1.look 1 rfl
    have f2 := kr1.frozen
    have k24 := (kr1.set 0 (.int .i64 n)).set 1 (.int .i64 d)
    have F1 := hid (Blk.other (Blk.other hk1 (p := ⟨w.heap.size + 1, 0, none⟩) (Ne.symm hgr) (.int .i64 n)) (p := ⟨w.heap.size + 1, 1, none⟩) (Ne.symm hgr) (.int .i64 d))
    have F2 := hid (((CalT.of_below (g := g) b1).setOwn (p := ⟨w.heap.size + 1, 0, none⟩) (by show w.heap.size ≤ w.heap.size + 1; omega) (.int .i64 n)).setOwn (p := ⟨w.heap.size + 1, 1, none⟩) (by show w.heap.size ≤ w.heap.size + 1; omega) (.int .i64 d))
    have r0 : _ = some (Value.int .i64 n) := k24.look 0 rfl
    have r1 : _ = some (Value.int .i64 d) := k24.look 1 rfl
    have R0 := hid r0
    have R1 := hid r1
    clear hn hd hk1 kr1 k24 r0 r1 hat hP e0 e1 e2 e3 hfp
    go_wp2
    refine bodyPost_ret (v := .agg #[.int .i64 n, .int .i64 d]) ?_ rfl ⟨⟨P.2, by unfold frQ; rw [HN.out, HD.out], HFP.out.2, fun _ => HAT.out⟩, ?_, F2.out⟩
    · have r0 := R0.out
      have r1 := R1.out
      simp [results, Tryz.results39, go_sem, r0, r1]
    · rw [HAT.out]
      have : calK ok (some P.2) = ok := by unfold calK; simp
      rw [this]
      exact F1.out
  · obtain ⟨I, hI⟩ : ∃ I : Nat, i = I + 1 := ⟨i - 1, by omega⟩
    have eI : i - 1 = I := by omega
    rw [eI] at hne hat
    have hIL : I < L := by omega
    obtain ⟨b, off, rfl, hb, e0, e1, e2, e3⟩ := p_cell HCC.out (show I < C.length by rw [HL.out]; exact hIL)
    obtain ⟨b', off', he', hb', y0, y1, y2, y3⟩ := p_cell HCC.out (show i < C.length by rw [HL.out]; exact hiL)
    obtain ⟨rfl, rfl⟩ : b = b' ∧ off = off' := by simpa using he'
    have hfp := HCV.out.fit I (by rw [HL.out]; exact hIL)
    have hfq := HCV.out.fit i (by rw [HL.out]; exact hiL)
    obtain ⟨P, hP⟩ : ∃ P, C.getD I (0, 0) = P := ⟨_, rfl⟩
    obtain ⟨Q, hQ⟩ : ∃ P, C.getD i (0, 0) = P := ⟨_, rfl⟩
    rw [hP] at e0 e1 e2 e3 hfp hne hat
    rw [hQ] at y0 y1 y2 y3 hfq hne hat
    have hbg : b ≠ g := calB_ne (off := off + I * 4) hk e1
    have hiL2 : (i : Int) < (L : Int) := by omega
    have hIL2 : (I : Int) < (L : Int) := by omega
    have wI : IntKind.i64.wrap ((i : Int) - 1) = (I : Int) := by rw [IntWalk.i64_left]; unfold wrap64; omega
    -- the operations
    have S1 := hid (fun w hz hk => calc_sub x P.1 hx hfp.1 g ok w hz hk)
    rw [(cop_cal ok (x - P.1)).1, (cop_cal ok (x - P.1)).2] at S1
    have F1 := calV_fits (ok := ok) (o := fitO (x - P.1)) (fun r hr => (fitO_fits hr).1)
    obtain ⟨k1, hk1e⟩ : ∃ o, calK ok (fitO (x - P.1)) = o := ⟨_, rfl⟩
    obtain ⟨v1, hv1e⟩ : ∃ o, calV ok (fitO (x - P.1)) = o := ⟨_, rfl⟩
    rw [hk1e, hv1e] at S1
    rw [hv1e] at F1
    have S2 := hid (fun w hz hk => slope_any P Q hfp hfq hne g k1 w hz hk)
    have F2 := calV_fits (ok := k1) (o := slO P Q) (fun r hr => slO_fits hr)
    obtain ⟨k2, hk2e⟩ : ∃ o, calK k1 (slO P Q) = o := ⟨_, rfl⟩
    obtain ⟨v2, hv2e⟩ : ∃ o, calV k1 (slO P Q) = o := ⟨_, rfl⟩
    rw [hk2e, hv2e] at S2
    rw [hv2e] at F2
    have S3 := hid (fun w hz hk => calc_mul v1 v2 F1 F2 g k2 w hz hk)
    rw [(cop_cal k2 (v1 * v2)).1, (cop_cal k2 (v1 * v2)).2] at S3
    have F3 := calV_fits (ok := k2) (o := fitO (v1 * v2)) (fun r hr => (fitO_fits hr).1)
    obtain ⟨k3, hk3e⟩ : ∃ o, calK k2 (fitO (v1 * v2)) = o := ⟨_, rfl⟩
    obtain ⟨v3, hv3e⟩ : ∃ o, calV k2 (fitO (v1 * v2)) = o := ⟨_, rfl⟩
    rw [hk3e, hv3e] at S3
    rw [hv3e] at F3
    have S4 := hid (fun w hz hk => calc_add P.2 v3 hfp.2 F3 g k3 w hz hk)
    have hfin := seg_cal ok P Q x k1 k2 k3 v1 v2 v3 hk1e.symm hv1e.symm hk2e.symm hv2e.symm hk3e.symm hv3e.symm
    rw [(cop_cal k3 (P.2 + v3)).1, (cop_cal k3 (P.2 + v3)).2, hfin.1, hfin.2] at S4
    have F4 := calV_fits (ok := ok) (o := segO P Q x) (fun r hr => segO_fits hr)
    have hK4 : calK ok (segO P Q x) = true → segO P Q x = some (calV ok (segO P Q x)) := by
      intro hh
      obtain ⟨-, q, h1, h2⟩ := calV_of hh
      rw [h2, h1]
    rw [← hat] at S4 F4 hK4
    obtain ⟨k4, hk4e⟩ : ∃ o, calK ok (atO C x) = o := ⟨_, rfl⟩
    obtain ⟨v4, hv4e⟩ : ∃ o, calV ok (atO C x) = o := ⟨_, rfl⟩
    rw [hk4e, hv4e] at S4
    rw [hk4e, hv4e] at hK4
    rw [hv4e] at F4
    have HK4E := hid hk4e
    have HK4 := hid hK4
    have HF4 := hid F4
    unfold frQ at S1 S2 S3 S4
    unfold ptQ at S2
    clear F1 F2 F3 hfin hk1e hv1e hk2e hv2e hk3e hv3e hk4e hv4e hK4 F4 hat hne hP hQ hfp hfq he' hI eI
    obtain ⟨p1, hp1⟩ : ∃ z, P.1.num = z := ⟨_, rfl⟩
    obtain ⟨p2, hp2⟩ : ∃ z, (P.1.den : Int) = z := ⟨_, rfl⟩
    obtain ⟨p3, hp3⟩ : ∃ z, P.2.num = z := ⟨_, rfl⟩
    obtain ⟨p4, hp4⟩ : ∃ z, (P.2.den : Int) = z := ⟨_, rfl⟩
    obtain ⟨q1, hq1⟩ : ∃ z, Q.1.num = z := ⟨_, rfl⟩
    obtain ⟨q2, hq2⟩ : ∃ z, (Q.1.den : Int) = z := ⟨_, rfl⟩
    obtain ⟨q3, hq3⟩ : ∃ z, Q.2.num = z := ⟨_, rfl⟩
    obtain ⟨q4, hq4⟩ : ∃ z, (Q.2.den : Int) = z := ⟨_, rfl⟩
    rw [hp1, hp2] at S1
    rw [hp1, hp2, hp3, hp4, hq1, hq2, hq3, hq4] at S2
    rw [hp3, hp4] at S4
    rw [hp1] at e0
    rw [hp2] at e1
    rw [hp3] at e2
    rw [hp4] at e3
    rw [hq1] at y0
    rw [hq2] at y1
    rw [hq3] at y2
    rw [hq4] at y3
    clear hp1 hp2 hp3 hp4 hq1 hq2 hq3 hq4
    have x0 := (b1.cell (p := ⟨b, off + I * 4, none⟩) hb).trans e0
    have x1 := (b1.cell (p := ⟨b, off + I * 4 + 1, none⟩) hb).trans e1
    have x2 := (b1.cell (p := ⟨b, off + I * 4 + 2, none⟩) hb).trans e2
    have x3 := (b1.cell (p := ⟨b, off + I * 4 + 3, none⟩) hb).trans e3
    have kpA := Blk.new w1 #[.int .i64 p1, .int .i64 p2, .int .i64 p3, .int .i64 p4] 44
    have ba := alloc_below w1 (.cells #[.int .i64 p1, .int .i64 p2, .int .i64 p3, .int .i64 p4] 44)
    have kxA := kx1.below ba
    have krA := kr1.below ba
    have hkA := CalB.below hk1 ba
    have hzA := hz1.below ba
    have tA := CalT.alloc (CalT.of_below (g := g) b1) (.cells #[.int .i64 p1, .int .i64 p2, .int .i64 p3, .int .i64 p4] 44)
    have c0 := kxA.look 0 rfl
    have c1 := kxA.look 1 rfl
    have c2 := kpA.look 0 rfl
    have c3 := kpA.look 1 rfl
    have hg1 : g < w1.heap.size := hk1.lt
    have KPA := hid kpA
    have KXA := hid kxA
    have KRA := hid krA
    have HKA := hid hkA
    have HZA := hid hzA
    have TA := hid tA
    clear kx1 kr1 hk1 hz1 b1 kpA kxA krA hkA hzA tA ba e0 e1 e2 e3
    go_wp2_with fail
    clear x0 x1 x2 x3 c0 c1 c2 c3
    refine (S1.out _ HZA.out HKA.out).mono ?_
    rintro r w2 ⟨rfl, hk2, ht2⟩
    have t2 := (calT_pre g).trans TA.out ht2
    have kp2 := CalT.blk ht2 KPA.out (by omega)
    have kr2 := CalT.blk ht2 KRA.out (by omega)
    have hz2 := HZA.out.calT HKA.out ht2
    have hs2 : w1.heap.size < w2.heap.size := kp2.lt
    obtain ⟨n1, hn1⟩ : ∃ n, v1.num = n := ⟨_, rfl⟩
    obtain ⟨d1, hd1⟩ : ∃ n, (v1.den : Int) = n := ⟨_, rfl⟩
    rw [hn1, hd1] at S3 ⊢
    clear KPA KXA KRA HKA HZA TA ht2 hn1 hd1
    have kdA := Blk.new w2 #[.int .i64 n1, .int .i64 d1] 31
    have ba := alloc_below w2 (.cells #[.int .i64 n1, .int .i64 d1] 31)
    have kpA := kp2.below ba
    have krA := kr2.below ba
    have hkA := CalB.below hk2 ba
    have hzA := hz2.below ba
    have tA := CalT.alloc t2 (.cells #[.int .i64 n1, .int .i64 d1] 31)
    clear kp2 kr2 hk2 hz2 t2 ba
    go_wp2_with fail
    obtain ⟨W, hW⟩ : ∃ W, w2.alloc (.cells #[.int .i64 n1, .int .i64 d1] 31) = W := ⟨_, rfl⟩
    rw [hW] at kdA kpA krA hkA hzA tA ⊢
    clear hW
    have hd : CalT g W W.drew := CalT.of_below (Below.refl W.heap.size W).drew
    have tx := fun y : SubT (CalT g) W.drew => (calT_pre g).trans hd y.b
    have z0 := fun y : SubT (CalT g) W.drew => (CalT.blk (tx y) kpA (by omega)).look 0 rfl
    have z1 := fun y : SubT (CalT g) W.drew => (CalT.blk (tx y) kpA (by omega)).look 1 rfl
    have z2 := fun y : SubT (CalT g) W.drew => (CalT.blk (tx y) kpA (by omega)).look 2 rfl
    have z3 := fun y : SubT (CalT g) W.drew => (CalT.blk (tx y) kpA (by omega)).look 3 rfl
    have z4 := fun y : SubT (CalT g) W.drew => (CalT.blk (tx y) kdA (by omega)).look 0 rfl
    have z5 := fun y : SubT (CalT g) W.drew => (CalT.blk (tx y) kdA (by omega)).look 1 rfl
    have z6 := fun y : SubT (CalT g) W.drew => (((calT_pre g).trans tA (tx y)).cell (p := ⟨b, off + i * 4, none⟩) hb hbg).trans y0
    have z7 := fun y : SubT (CalT g) W.drew => (((calT_pre g).trans tA (tx y)).cell (p := ⟨b, off + i * 4 + 1, none⟩) hb hbg).trans y1
    have z8 := fun y : SubT (CalT g) W.drew => (((calT_pre g).trans tA (tx y)).cell (p := ⟨b, off + i * 4 + 2, none⟩) hb hbg).trans y2
    have z9 := fun y : SubT (CalT g) W.drew => (((calT_pre g).trans tA (tx y)).cell (p := ⟨b, off + i * 4 + 3, none⟩) hb hbg).trans y3
    clear tx
    refine wp_walkJ (T := CalT g) (calT_pre g) (.rd 0 (.rd 1 (.rd 2 (.rd 3 (.rd 4 (.rd 5 (.rd 6 (.rd 7 (.rd 8 (.rd 9 (.rd 10 (.mv 11 (.mv 12 (.bt 13 (.bt 14 (.inv [])))))))))))))))) (by kernel_rfl) rfl (by kernel_rfl) (by kernel_rfl) ?_
    iterate 11 (refine walkJ_rd rfl (fun K hK => ?_); go_simp; refine hK _ ?_; clear hK K)
    clear z0 z1 z2 z3 z4 z5 z6 z7 z8 z9
    have hkd : CalB W.drew g k1 := CalB.below hkA (Below.refl W.heap.size W).drew
    have hzd := hzA.below (Below.refl W.heap.size W).drew
    (refine walkJ_mv rfl (fun K hK => ?_); go_simp; refine (S2.out _ hzd hkd).mono ?_; rintro e w3 ⟨rfl, hk3, ht3⟩; refine ⟨_, rfl, hK _ _ ht3 ?_⟩; clear hK K)
    have hz3 := hzd.calT hkd ht3
    (refine walkJ_mv rfl (fun K hK => ?_); go_simp; refine (S3.out _ hz3 hk3).mono ?_; rintro e w4 ⟨rfl, hk4, ht4⟩; refine ⟨_, rfl, hK _ _ ht4 ?_⟩; clear hK K)
    have hz4 := hz3.calT hk3 ht4
    (refine walkJ_bt rfl (fun K hK => ?_); go_simp; refine (S4.out _ hz4 hk4).mono ?_; rintro e w5 ⟨rfl, hk5, ht5⟩; refine ⟨_, rfl, hK _ _ ?_⟩; clear hK K)
    have t5 := (calT_pre g).trans hd ((calT_pre g).trans ht3 ((calT_pre g).trans ht4 ht5))
    have kr5 := CalT.blk t5 krA hgr
    have hw5 := (calT_pre g).trans tA t5
    clear hd t5 krA tA kpA kdA hkA hzA hkd hzd ht3 ht4 ht5 hz3 hz4 hk3 hk4
    obtain ⟨n, hn⟩ : ∃ n, v4.num = n := ⟨_, rfl⟩
    obtain ⟨d, hd⟩ : ∃ n, (v4.den : Int) = n := ⟨_, rfl⟩
    rw [hn, hd]
    have HN := hid hn
    have HD := hid hd
    have q0 := kr5.look 0 rfl
    have q1 := kr5.look 1 rfl
    have f2 := kr5.frozen
    have k24 := (kr5.set 0 (.int .i64 n)).set 1 (.int .i64 d)
    have F1 := hid (Blk.other (Blk.other hk5 (p := ⟨w.heap.size + 1, 0, none⟩) (Ne.symm hgr) (.int .i64 n)) (p := ⟨w.heap.size + 1, 1, none⟩) (Ne.symm hgr) (.int .i64 d))
    have F2 := hid ((hw5.setOwn (p := ⟨w.heap.size + 1, 0, none⟩) (by show w.heap.size ≤ w.heap.size + 1; omega) (.int .i64 n)).setOwn (p := ⟨w.heap.size + 1, 1, none⟩) (by show w.heap.size ≤ w.heap.size + 1; omega) (.int .i64 d))
    have r0 : _ = some (Value.int .i64 n) := k24.look 0 rfl
    have r1 : _ = some (Value.int .i64 d) := k24.look 1 rfl
    have R0 := hid r0
    have R1 := hid r1
    clear hn hd hk5 kr5 k24 r0 r1 hw5
    (refine walkJ_bt rfl (fun K hK => ?_); go_simp; refine hK _ _ ?_; clear hK K)
    refine walkJ_nil ?_
    go_wp2
    refine bodyPost_ret (v := .agg #[.int .i64 n, .int .i64 d]) ?_ rfl ⟨⟨v4, by unfold frQ; rw [HN.out, HD.out], HF4.out, fun hh => HK4.out (by rw [← HK4E.out]; exact hh)⟩, by rw [HK4E.out]; exact F1.out, F2.out⟩
    have r0 := R0.out
    have r1 := R1.out
    simp [results, Tryz.results39, go_sem, r0, r1]

end Go.Proofs.YtfkclcoipadhmaaGreatDoor

/- Walks of curve.end, abscissa, ordinate, lesser, merged's closure. -/
namespace Go.Proofs.YtfkclcoipadhmaaGreatDoor
open Go.RowKit
attribute [local irreducible] seqS seqST walkV walkJ

set_option maxHeartbeats 1000000 in
theorem abscissa_any (p : Pt) (w : World) : Calls Tryz.prog 52 #[ptQ p] w fun r w' => r = .returned (frQ p.1) ∧ Below w.heap.size w w' := by
  unfold ptQ frQ
  go_enter Tryz.func52, Tryz.ntmps52
  have b0 := ((Below.refl w.heap.size w).alloc (Nat.le_refl _) (.cells #[.int .i64 p.1.num, .int .i64 (p.1.den : Int), .int .i64 p.2.num, .int .i64 (p.2.den : Int)] 44)).alloc (by simp) (.cells #[.int .i64 p.1.num, .int .i64 (p.1.den : Int)] 31)
  go_wp2
  refine bodyPost_ret (v := .agg #[.int .i64 p.1.num, .int .i64 (p.1.den : Int)]) ?_ rfl ⟨rfl, b0⟩
  simp [results, Tryz.results52, go_sem]

set_option maxHeartbeats 1000000 in
theorem ordinate_any (p : Pt) (w : World) : Calls Tryz.prog 53 #[ptQ p] w fun r w' => r = .returned (frQ p.2) ∧ Below w.heap.size w w' := by
  unfold ptQ frQ
  go_enter Tryz.func53, Tryz.ntmps53
  have b0 := ((Below.refl w.heap.size w).alloc (Nat.le_refl _) (.cells #[.int .i64 p.1.num, .int .i64 (p.1.den : Int), .int .i64 p.2.num, .int .i64 (p.2.den : Int)] 44)).alloc (by simp) (.cells #[.int .i64 p.2.num, .int .i64 (p.2.den : Int)] 31)
  go_wp2
  refine bodyPost_ret (v := .agg #[.int .i64 p.2.num, .int .i64 (p.2.den : Int)]) ?_ rfl ⟨rfl, b0⟩
  simp [results, Tryz.results53, go_sem]

set_option maxHeartbeats 1000000 in
theorem lesser_any (p q : Rat) (hp : fits p) (hq : fits q) (w : World) : Calls Tryz.prog 54 #[frQ p, frQ q] w fun r w' => r = .returned (frQ (if q < p then q else p)) ∧ Below w.heap.size w w' := by
  have OR := hid (fun w => order_any q p hq hp w)
  have hcl := cmp_cases q p
  obtain ⟨cz, hcz⟩ : ∃ z, cmpQ q p = z := ⟨_, rfl⟩
  rw [hcz] at OR hcl
  obtain ⟨V, hV⟩ : ∃ V, (if q < p then q else p) = V := ⟨_, rfl⟩
  rw [hV]
  have HV := hid hV
  have HCL := hid hcl
  unfold frQ at OR ⊢
  clear hV hcl hcz
  obtain ⟨w0, hw0, k0, k1, k2, hB, hsz⟩ := three_new w #[.int .i64 p.num, .int .i64 (p.den : Int)] #[.int .i64 q.num, .int .i64 (q.den : Int)] #[.int .i64 0, .int .i64 0] 31 31 31
  have d0 := k0.look 0 rfl
  have d1 := k0.look 1 rfl
  have d2 := k1.look 0 rfl
  have d3 := k1.look 1 rfl
  have HW := hid hw0
  rw [← hw0] at d0 d1 d2 d3
  have HB := hid hB
  have K0 := hid k0
  have K1 := hid k1
  have K2 := hid k2
  clear hB k0 k1 k2 hsz hw0
  go_enter Tryz.func54, Tryz.ntmps54
  go_wp2_with fail
  rw [HW.out]
  clear HW d0 d1 d2 d3
  refine (OR.out _).mono ?_
  rintro r w1 ⟨rfl, hb1⟩
  have hB1 := HB.out.trans (hb1.mono HB.out.size)
  have k01 := K0.out.below hb1
  have k11 := K1.out.below hb1
  have k21 := K2.out.below hb1
  have d0 := k01.look 0 rfl
  have d1 := k01.look 1 rfl
  have d2 := k11.look 0 rfl
  have d3 := k11.look 1 rfl
  have q0 := k21.look 0 rfl
  have q1 := k21.look 1 rfl
  have f2 := k21.frozen
  clear hb1 HB K0 K1 K2
  rcases HCL.out with ⟨hl, rfl, -⟩ | ⟨hl, rfl, -⟩ | ⟨hl, rfl, -⟩
  · have e : V = q := by rw [← HV.out]; exact if_pos hl
    have k24 := (k21.set 0 (.int .i64 q.num)).set 1 (.int .i64 (q.den : Int))
    have r0 : _ = some (Value.int .i64 q.num) := k24.look 0 rfl
    have r1 : _ = some (Value.int .i64 (q.den : Int)) := k24.look 1 rfl
    have R0 := hid r0
    have R1 := hid r1
    have F := hid ((hB1.setCell (p := ⟨w.heap.size + 1 + 1, 0, none⟩) (by show w.heap.size ≤ w.heap.size + 1 + 1; omega) (.int .i64 q.num)).setCell (p := ⟨w.heap.size + 1 + 1, 1, none⟩) (by show w.heap.size ≤ w.heap.size + 1 + 1; omega) (.int .i64 (q.den : Int)))
    subst e
    clear k24 r0 r1 hB1 k01 k11 k21 hl
    go_wp2
    refine bodyPost_ret (v := .agg #[.int .i64 V.num, .int .i64 (V.den : Int)]) ?_ rfl ⟨rfl, F.out⟩
    have r0 := R0.out
    have r1 := R1.out
    simp [results, Tryz.results54, go_sem, r0, r1]
  · have e : V = p := by rw [← HV.out]; exact if_neg (by grind)
    have k24 := (k21.set 0 (.int .i64 p.num)).set 1 (.int .i64 (p.den : Int))
    have r0 : _ = some (Value.int .i64 p.num) := k24.look 0 rfl
    have r1 : _ = some (Value.int .i64 (p.den : Int)) := k24.look 1 rfl
    have R0 := hid r0
    have R1 := hid r1
    have F := hid ((hB1.setCell (p := ⟨w.heap.size + 1 + 1, 0, none⟩) (by show w.heap.size ≤ w.heap.size + 1 + 1; omega) (.int .i64 p.num)).setCell (p := ⟨w.heap.size + 1 + 1, 1, none⟩) (by show w.heap.size ≤ w.heap.size + 1 + 1; omega) (.int .i64 (p.den : Int)))
    subst e
    clear k24 r0 r1 hB1 k01 k11 k21 hl
    go_wp2
    refine bodyPost_ret (v := .agg #[.int .i64 V.num, .int .i64 (V.den : Int)]) ?_ rfl ⟨rfl, F.out⟩
    have r0 := R0.out
    have r1 := R1.out
    simp [results, Tryz.results54, go_sem, r0, r1]
  · have e : V = p := by rw [← HV.out]; exact if_neg (by grind)
    have k24 := (k21.set 0 (.int .i64 p.num)).set 1 (.int .i64 (p.den : Int))
    have r0 : _ = some (Value.int .i64 p.num) := k24.look 0 rfl
    have r1 : _ = some (Value.int .i64 (p.den : Int)) := k24.look 1 rfl
    have R0 := hid r0
    have R1 := hid r1
    have F := hid ((hB1.setCell (p := ⟨w.heap.size + 1 + 1, 0, none⟩) (by show w.heap.size ≤ w.heap.size + 1 + 1; omega) (.int .i64 p.num)).setCell (p := ⟨w.heap.size + 1 + 1, 1, none⟩) (by show w.heap.size ≤ w.heap.size + 1 + 1; omega) (.int .i64 (p.den : Int)))
    subst e
    clear k24 r0 r1 hB1 k01 k11 k21 hl
    go_wp2
    refine bodyPost_ret (v := .agg #[.int .i64 V.num, .int .i64 (V.den : Int)]) ?_ rfl ⟨rfl, F.out⟩
    have r0 := R0.out
    have r1 := R1.out
    simp [results, Tryz.results54, go_sem, r0, r1]

set_option maxHeartbeats 1000000 in
theorem over_any (m q : Rat) (hm : fits m) (hq : fits q) (gm : Nat) (w : World) (h : Blk w gm #[.int .i64 m.num, .int .i64 (m.den : Int)] 31) :
    Calls Tryz.prog 93 #[frQ q, .pointer (some ⟨gm, 0, none⟩)] w fun r w' => r = .returned (.bool (decide (m < q))) ∧ Below w.heap.size w w' := by
  have OR := hid (fun w => order_any q m hq hm w)
  have hcl := cmp_cases q m
  obtain ⟨cz, hcz⟩ : ∃ z, cmpQ q m = z := ⟨_, rfl⟩
  rw [hcz] at OR hcl
  obtain ⟨V, hV⟩ : ∃ V, decide (m < q) = V := ⟨_, rfl⟩
  rw [hV]
  have HV := hid hV
  have HCL := hid hcl
  unfold frQ at OR ⊢
  clear hV hcl hcz
  have k0 := Blk.new w #[.int .i64 q.num, .int .i64 (q.den : Int)] 31
  have k1 := h.alloc (.cells #[.int .i64 q.num, .int .i64 (q.den : Int)] 31)
  have b0 := alloc_below w (.cells #[.int .i64 q.num, .int .i64 (q.den : Int)] 31)
  have d2 := k1.look 0 rfl
  have d3 := k1.look 1 rfl
  have hlt := h.lt
  clear k0 k1 h
  go_enter Tryz.func93, Tryz.ntmps93
  go_wp2_with fail
  refine (OR.out _).mono ?_
  rintro r w1 ⟨rfl, hb1⟩
  have hB1 := b0.trans (hb1.mono b0.size)
  rcases HCL.out with ⟨hl, rfl, -⟩ | ⟨hl, rfl, -⟩ | ⟨hl, rfl, -⟩
  · have e : V = false := by rw [← HV.out]; exact decide_eq_false (by grind)
    subst e
    clear hb1 b0 d2 d3
    go_wp2
    go_ret
    exact ⟨rfl, hB1⟩
  · have e : V = true := by rw [← HV.out]; exact decide_eq_true hl
    subst e
    clear hb1 b0 d2 d3
    go_wp2
    go_ret
    exact ⟨rfl, hB1⟩
  · have e : V = false := by rw [← HV.out]; exact decide_eq_false (by grind)
    subst e
    clear hb1 b0 d2 d3
    go_wp2
    go_ret
    exact ⟨rfl, hB1⟩

end Go.Proofs.YtfkclcoipadhmaaGreatDoor

/- Walks of curve.end, slices.IndexFunc with merged's closure. -/
namespace Go.Proofs.YtfkclcoipadhmaaGreatDoor
open Go.RowKit
attribute [local irreducible] seqS seqST walkV walkJ

set_option maxHeartbeats 1000000 in
theorem end_any (C : List Pt) (v : Value) (w : World) (h : PsR 0 w v C) (hl : 1 ≤ C.length) (hl2 : C.length ≤ 48) :
    Calls Tryz.prog 55 #[v] w fun r w' => r = .returned (ptQ (C.getD (C.length - 1) (0, 0))) ∧ Below w.heap.size w w' := by
  obtain ⟨ao, cap, rfl, hcap, hmax, hcc⟩ := h
  unfold maxLen at hmax
  obtain ⟨b, off, rfl, hb, x0, x1, x2, x3⟩ := p_cell hcc (show C.length - 1 < C.length by omega)
  obtain ⟨P, hP⟩ : ∃ P, C.getD (C.length - 1) (0, 0) = P := ⟨_, rfl⟩
  rw [hP] at x0 x1 x2 x3 ⊢
  clear hP hcc
  obtain ⟨L, hL⟩ : ∃ L, C.length = L := ⟨_, rfl⟩
  rw [hL] at hcap hl hl2 x0 x1 x2 x3 ⊢
  clear hL
  have wL : IntKind.i64.wrap ((L : Int) - 1) = ((L - 1 : Nat) : Int) := by rw [IntWalk.i64_left]; unfold wrap64; omega
  have h1 : L - 1 < L := by omega
  unfold ptQ
  have b0 := alloc_below w (.cells #[.int .i64 P.1.num, .int .i64 (P.1.den : Int), .int .i64 P.2.num, .int .i64 (P.2.den : Int)] 44)
  go_enter Tryz.func55, Tryz.ntmps55
  go_wp2
  refine bodyPost_ret (v := .agg #[.int .i64 P.1.num, .int .i64 (P.1.den : Int), .int .i64 P.2.num, .int .i64 (P.2.den : Int)]) ?_ rfl ⟨rfl, b0⟩
  simp [results, Tryz.results55, go_sem]

/-- The first number above the limit. -/
structure FirstOver (l : List Rat) (m : Rat) (z : Int) : Prop where
  is : (z = -1 ∧ ∀ i, i < l.length → l.getD i 0 ≤ m) ∨ ∃ i : Nat, z = i ∧ i < l.length ∧ m < l.getD i 0 ∧ ∀ j, j < i → l.getD j 0 ≤ m

set_option maxHeartbeats 2000000 in
set_option maxRecDepth 100000 in
theorem indexOver_any (l : List Rat) (m : Rat) (v : Value) (gm : Nat) (w : World) (h : QsR 0 w v l) (hf : ∀ i, i < l.length → fits (l.getD i 0)) (hm : fits m) (hl : l.length ≤ 1000) (hk : Blk w gm #[.int .i64 m.num, .int .i64 (m.den : Int)] 31) :
    Calls Tryz.prog 122 #[v, .func (.func 93) #[] #[.pointer (some ⟨gm, 0, none⟩)]] w fun r w' => (∃ z : Int, r = .returned (.int .i64 z) ∧ FirstOver l m z) ∧ Below w.heap.size w w' := by
  obtain ⟨ao, cap, rfl, hcap, hmax, hc⟩ := h
  unfold maxLen at hmax
  have CM := hid (fun (i : Nat) (hi : i < l.length) w h => over_any m (l.getD i 0) hm (hf i hi) gm w h)
  obtain ⟨L, hL⟩ : ∃ L, l.length = L := ⟨_, rfl⟩
  have HL := hid hL
  rw [hL] at hcap hl CM ⊢
  have HC := hid hc
  unfold frQ at CM
  clear hL hc hf
  go_enter Tryz.func122, Tryz.ntmps122
  go_wp2_with fail
  go_loopw [8] (fun x' wr => ∃ i : Nat, x' = .int .i64 i ∧ i ≤ L ∧ (∀ k, k < i → l.getD k 0 ≤ m) ∧ Below w.heap.size w wr) (fun x' _ => L - (intOf x').toNat)
  case atStart => exact ⟨0, rfl, Nat.zero_le _, fun k hk => by omega, Below.refl _ _⟩
  case round =>
    obtain ⟨i, rfl, hi, hlo, hbel⟩ := hrel
    have HLO := hid hlo
    clear hlo
    by_cases hiL : i < L
    · have hiL2 : (i : Int) < (L : Int) := by omega
      obtain ⟨b, off, rfl, hb, e0, e1⟩ := q_cell HC.out (show i < l.length by rw [HL.out]; exact hiL)
      have CMM := hid (CM.out i hiL)
      obtain ⟨q, hq⟩ : ∃ P, l.getD i 0 = P := ⟨_, rfl⟩
      rw [hq] at e0 e1 CMM
      have HQ := hid hq
      have x0 := (hbel.cell (p := ⟨b, off + i * 2, none⟩) hb).trans e0
      have x1 := (hbel.cell (p := ⟨b, off + i * 2 + 1, none⟩) hb).trans e1
      have hkr := hk.below hbel
      clear hq e0 e1
      go_wp2_with fail
      refine (CMM.out _ hkr).mono ?_
      rintro r w3 ⟨rfl, hb3⟩
      have hbel3 := hbel.trans (hb3.mono hbel.size)
      clear hb3 hkr x0 x1
      by_cases hmq : m < q
      · rw [decide_eq_true hmq]
        have HMQ := hid hmq
        clear hmq
        go_wp2
        go_ret
        exact ⟨⟨_, rfl, ⟨.inr ⟨i, rfl, by rw [HL.out]; exact hiL, by rw [HQ.out]; exact HMQ.out, HLO.out⟩⟩⟩, hbel3⟩
      · rw [decide_eq_false hmq]
        have HMQ := hid (Rat.not_lt.1 hmq)
        clear hmq
        go_wp2
        go_roundw
        case rel =>
          refine ⟨i + 1, by go_num, by omega, fun k hk => ?_, hbel3⟩
          by_cases hki : k = i
          · rw [hki, HQ.out]; exact HMQ.out
          · exact HLO.out k (by omega)
        case measure => simp [intOf]; omega
    · obtain rfl : L = i := by omega
      have hiL2 : ¬ (L : Int) < (L : Int) := by omega
      go_wp2
      go_ret
      exact ⟨⟨_, rfl, ⟨.inl ⟨rfl, fun k hk => HLO.out k (by rw [← HL.out]; exact hk)⟩⟩⟩, hbel⟩

end Go.Proofs.YtfkclcoipadhmaaGreatDoor
