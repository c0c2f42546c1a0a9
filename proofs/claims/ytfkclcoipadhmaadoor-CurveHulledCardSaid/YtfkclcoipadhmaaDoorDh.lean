/- Walk of curve.Norm. -/
import Derived.Test.YtfkclcoipadhmaaDoorDg
namespace Go.Proofs.YtfkclcoipadhmaaDoor
open Go.RowKit
attribute [local irreducible] seqS seqST walkV walkJ

theorem wpList_appH {P : Program} {w0 : World} {ops : Array Oper} {rest : List Oper} {o : Oper} {a : Act} {Q : Exit → Act → World → Prop} (hgd : o.guard = none) (s x : Operand) (t : TypeId)
    (ho : o.op = .call { callee := .builtin .append, args := #[s, x], argTypes := #[t, t] })
    (base : Nat) (e : TypeId) (z : Value) (size bytes : Nat) (ht : P.underlying t = some (.slice e)) (hi : (P.info? e).map (fun i => (i.zero, i.size, i.bytes)) = some (some z, size, bytes))
    (hzs : z.cells.size = size) (hsz : 0 < size) (te : TypeId)
    (v : Value) (n : Nat) (xs : List Value) (hs : a.eval s = v) (hown : w0.ownsRow base e size v n xs)
    (news : List Value) (H : Nat) (hH : w0.heap.size = H) (hx : a.eval x = .slice (some ⟨H, 0, none⟩) 1 1) (hl : news.length = size) (h1 : ∀ u ∈ news, u.oneCell' = true)
    (h63 : n + 1 ≤ maxLen) (hbytes : (n + 1) * bytes ≤ 140737488355328) (hbase : base ≤ w0.heap.size)
    (h : ∀ g cap w', w'.ownsRow base e size (.slice (some ⟨g, 0, none⟩) (n + 1) cap) (n + 1) (xs ++ news) → Below base w0 w' → w0.grownBy w' v.ownBlock → base ≤ g → g < w'.heap.size →
      wpList P ops Q rest (a.put o.dst (.slice (some ⟨g, 0, none⟩) (n + 1) cap)) w') :
    wpList P ops Q (o :: rest) a (w0.alloc (.cells news.toArray te)) := by
  subst hH
  exact wpList_app hgd s x t ho base e z size bytes ht hi hzs hsz te v n xs hs hown news hx hl h1 h63 hbytes hbase h

theorem infoPoint : (Tryd.prog.info? 52).map (fun i => (i.zero, i.size, i.bytes)) = some (some (.agg #[.int .i64 0, .int .i64 0, .int .i64 0, .int .i64 0]), 4, 32) := by kernel_rfl
/-- What Norm hands back. -/
def nrmL (c : List P4) : List Pt := if slpE c = 0 then normTo (toQ c) (slpL c) c.length else []
theorem rat_eq_iff (p q : Rat) : p = q ↔ p.num = q.num ∧ (p.den : Int) = (q.den : Int) := by
  constructor
  · rintro rfl; exact ⟨rfl, rfl⟩
  · rintro ⟨h1, h2⟩
    exact Rat.ext h1 (by omega)
theorem owns_four {w : World} {g base : Nat} {e : TypeId} {x y z u : Value} (h : Blk w g #[x, y, z, u] e) (hb : base ≤ g) : w.ownsRow base e 4 (.slice (some ⟨g, 0, none⟩) 1 1) 1 [x, y, z, u] :=
  ⟨by simp, .inr ⟨g, 1, #[x, y, z, u], rfl, hb, h, Nat.le_refl _, by unfold maxLen; omega, by simp, by simp⟩⟩
theorem slp_zero {c : List P4} (h : slpE c = 0) : RV c ∧ slsO (toQ c) (c.length - 1) = some (slpL c) := by
  unfold slpE at h
  by_cases hr : RV c
  · rw [if_pos hr] at h
    refine ⟨hr, ?_⟩
    unfold slpL
    rw [if_pos hr]
    cases hs : slsO (toQ c) (c.length - 1) with
    | none => rw [hs] at h; cases h
    | some l => rfl
  · rw [if_neg hr] at h
    cases h

set_option maxHeartbeats 8000000 in
set_option maxRecDepth 100000 in
theorem Norm_any (c : List P4) (v : Value) (w : World) (h : P4R 0 w v c) (hz : Z0 w) :
    Calls Tryd.prog 18 #[v] w fun r w' => (∃ vl, r = .returned (.tuple #[vl, .int .i64 (slpE c)]) ∧ PsR w.heap.size w' vl (nrmL c)) ∧ Below w.heap.size w w' := by
  obtain ⟨ao, cap, rfl, hcap, hmax, hc⟩ := id h
  unfold maxLen at hmax
  have SA := hid (Slopes_any c (.slice ao c.length cap) w h hz)
  obtain ⟨E, hE⟩ : ∃ E, slpE c = E := ⟨_, rfl⟩
  obtain ⟨R, hR⟩ : ∃ R, nrmL c = R := ⟨_, rfl⟩
  rw [hE] at SA
  rw [hE, hR]
  have HE := hid hE
  have HR := hid hR
  clear hE hR hc
  obtain ⟨L, hL⟩ : ∃ L, c.length = L := ⟨_, rfl⟩
  rw [hL] at SA hcap h ⊢
  have HL := hid hL
  clear hL
  go_enter Tryd.func18, Tryd.ntmps18
  go_wp2_with fail
  refine SA.out.mono ?_
  rintro r w1 ⟨⟨vs, rfl, hvs⟩, hb1⟩
  by_cases hE0 : E = 0
  case neg =>
    have e2 : R = [] := by rw [← HR.out]; unfold nrmL; rw [HE.out]; exact if_neg hE0
    subst e2
    have HE0 := hid hE0
    go_wp2
    go_ret2
    exact ⟨⟨_, rfl, SlR.nil _ _⟩, hb1⟩
  have HS := hid (slp_zero (HE.out.trans hE0))
  have hq := (P4R.toQ (h : P4R 0 w (.slice ao L cap) c) HS.out.1).below hb1
  have e2 : nrmL c = normTo (toQ c) (slpL c) c.length := by unfold nrmL; rw [HE.out]; exact if_pos hE0
  have hsl := slsO_len HS.out.2
  have hcv := rv_cv HS.out.1
  have hlen := toQ_len c
  rw [HL.out] at hlen e2 hsl
  have HR2 := hid (HR.out.symm.trans e2)
  generalize toQ c = C at hq hcv hlen HR2
  generalize slpL c = T at hvs hsl HR2
  subst hE0
  have hL2 : 2 ≤ L := by have := hcv.two; omega
  have hL48 : L ≤ 48 := by have := hcv.most; omega
  have HCL := hid hlen
  have HTL := hid hsl
  obtain ⟨ao2, cap2, he2, -, -, hcc⟩ := hq
  obtain ⟨rfl, -⟩ : ao2 = ao ∧ True := by
    injection he2 with g1 g2 g3
    exact ⟨g1.symm, trivial⟩
  obtain ⟨b, off, rfl, hb, x0, x1, x2, x3⟩ := p_cell hcc (show 0 < C.length by omega)
  have HCC := hid hcc
  obtain ⟨at', ct, rfl, hct, hmt, htt⟩ := hvs
  have HTT := hid htt
  rw [hsl] at hct ⊢
  simp only [Nat.zero_mul, Nat.add_zero] at x0 x1 x2 x3
  clear e2 hcv hlen he2 hcc hsl htt HS HR HE SA
  unfold maxLen at hmt
  have hL0 : 0 < L := by omega
  have hL1 : 1 ≤ L := by omega
  have wL : IntKind.i64.wrap ((L : Int) - 1) = ((L - 1 : Nat) : Int) := by rw [IntWalk.i64_left]; unfold wrap64; omega
  obtain ⟨P0, hP0⟩ : ∃ P, C.getD 0 (0, 0) = P := ⟨_, rfl⟩
  rw [hP0] at x0 x1 x2 x3
  have HP0 := hid hP0
  clear hP0
  go_wp2_with fail
  have k4 := Blk.new w1 #[.int .i64 P0.1.num, .int .i64 (P0.1.den : Int), .int .i64 P0.2.num, .int .i64 (P0.2.den : Int)] 52
  have ba := alloc_below w1 (.cells #[.int .i64 P0.1.num, .int .i64 (P0.1.den : Int), .int .i64 P0.2.num, .int .i64 (P0.2.den : Int)] 52)
  have HN1 : Hid (normTo C T 1 = [P0]) := hid (by
    have : keepB C T 0 = true := rfl
    rw [normTo_yes this, HP0.out]
    rfl)
  obtain ⟨w2, hw2⟩ : ∃ w2, w1.alloc (.cells #[.int .i64 P0.1.num, .int .i64 (P0.1.den : Int), .int .i64 P0.2.num, .int .i64 (P0.2.den : Int)] 52) = w2 := ⟨_, rfl⟩
  obtain ⟨B, hB⟩ : ∃ B, w1.heap.size = B := ⟨_, rfl⟩
  have HB1 := hid hb1
  have HBB := hid hB
  rw [hw2] at k4 ba ⊢
  rw [hB] at k4 ba ⊢
  have ho1 := owns_four k4 (Nat.le_refl _)
  have hgc : ∀ (i : Nat) (W : World), i < L → Below B w1 W → W.cell? ⟨b, off + i * 4, none⟩ = some (.int .i64 (C.getD i (0, 0)).1.num) ∧ W.cell? ⟨b, off + i * 4 + 1, none⟩ = some (.int .i64 ((C.getD i (0, 0)).1.den : Int)) ∧ W.cell? ⟨b, off + i * 4 + 2, none⟩ = some (.int .i64 (C.getD i (0, 0)).2.num) ∧ W.cell? ⟨b, off + i * 4 + 3, none⟩ = some (.int .i64 ((C.getD i (0, 0)).2.den : Int)) := by
    intro i W hi hbW
    rw [← hB] at hbW
    obtain ⟨b', off', he, hb', x0, x1, x2, x3⟩ := p_cell HCC.out (show i < C.length by rw [HCL.out]; exact hi)
    cases he
    exact ⟨(hbW.cell (p := ⟨b, off + i * 4, none⟩) hb').trans x0, (hbW.cell (p := ⟨b, off + i * 4 + 1, none⟩) hb').trans x1, (hbW.cell (p := ⟨b, off + i * 4 + 2, none⟩) hb').trans x2, (hbW.cell (p := ⟨b, off + i * 4 + 3, none⟩) hb').trans x3⟩
  have HGC := hid hgc
  obtain ⟨bt, offt, rfl, -, -, -⟩ := q_cell HTT.out (show 0 < T.length by rw [HTL.out]; omega)
  have hgt : ∀ (i : Nat) (W : World), i < L - 1 → Below B w1 W → W.cell? ⟨bt, offt + i * 2, none⟩ = some (.int .i64 (T.getD i 0).num) ∧ W.cell? ⟨bt, offt + i * 2 + 1, none⟩ = some (.int .i64 ((T.getD i 0).den : Int)) := by
    intro i W hi hbW
    rw [← hB] at hbW
    obtain ⟨b', off', he, hb', x0, x1⟩ := q_cell HTT.out (show i < T.length by rw [HTL.out]; exact hi)
    cases he
    exact ⟨(hbW.cell (p := ⟨bt, offt + i * 2, none⟩) hb').trans x0, (hbW.cell (p := ⟨bt, offt + i * 2 + 1, none⟩) hb').trans x1⟩
  have HGT := hid hgt
  clear hw2 hB hb1 k4 x0 x1 x2 x3 hgc hgt HCC HTT
  go_loopw [6, 24] (fun y x wr => ∃ i : Nat, x = .int .i64 i ∧ i ≤ L - 1 ∧ Hid (wr.ownsRow B 52 4 y (normTo C T (i + 1)).length (ptsC (normTo C T (i + 1)))) ∧ Below B w1 wr) (fun _ x _ => L - 1 - (intOf x).toNat)
  case atStart => exact ⟨0, rfl, Nat.zero_le _, by rw [show 0 + 1 = 1 from rfl, HN1.out]; exact hid ho1, ba⟩
  case round =>
    obtain ⟨i, rfl, hi, HO, hbel⟩ := hrel
    by_cases hiL : i < L - 1
    · have hi2 : (i : Int) < ((L - 1 : Nat) : Int) := by omega
      have hgi := HGC.out (i + 1) wr (by omega) hbel
      rw [show off + (i + 1) * 4 = off + 4 + i * 4 by omega] at hgi
      obtain ⟨P, hP⟩ : ∃ P, C.getD (i + 1) (0, 0) = P := ⟨_, rfl⟩
      rw [hP] at hgi
      obtain ⟨p1, hp1⟩ : ∃ z, P.1.num = z := ⟨_, rfl⟩
      obtain ⟨p2, hp2⟩ : ∃ z, (P.1.den : Int) = z := ⟨_, rfl⟩
      obtain ⟨p3, hp3⟩ : ∃ z, P.2.num = z := ⟨_, rfl⟩
      obtain ⟨p4, hp4⟩ : ∃ z, (P.2.den : Int) = z := ⟨_, rfl⟩
      rw [hp1, hp2, hp3, hp4] at hgi
      have HPC : Hid (ptsC [C.getD (i + 1) (0, 0)] = [.int .i64 p1, .int .i64 p2, .int .i64 p3, .int .i64 p4]) := hid (by
        rw [hP, ← hp1, ← hp2, ← hp3, ← hp4]
        rfl)
      obtain ⟨x0, x1, x2, x3⟩ := hgi
      have hnl := normTo_len C T (i + 1)
      obtain ⟨NL, hNL⟩ : ∃ n, (normTo C T (i + 1)).length = n := ⟨_, rfl⟩
      rw [hNL] at HO hnl
      have HNL := hid hNL
      have hNL48 : NL ≤ 48 := by omega
      clear hNL
      clear hP hp1 hp2 hp3 hp4
      have hL12 : ((L - 1 : Nat) : Int) - 1 = ((L - 2 : Nat) : Int) := by omega
      have wL2 : IntKind.i64.wrap (((L - 1 : Nat) : Int) - 1) = ((L - 2 : Nat) : Int) := by rw [IntWalk.i64_left, hL12]; unfold wrap64; omega
      have wI : IntKind.i64.wrap ((i : Int) + 1) = ((i + 1 : Nat) : Int) := by rw [IntWalk.i64_left]; unfold wrap64; omega
      clear hL12
      go_wp2_with fail
      have kb := Blk.new wr #[.int .i64 p1, .int .i64 p2, .int .i64 p3, .int .i64 p4] 52
      have hbA := alloc_below wr (.cells #[.int .i64 p1, .int .i64 p2, .int .i64 p3, .int .i64 p4] 52)
      obtain ⟨W, hW⟩ : ∃ W, wr.alloc (.cells #[.int .i64 p1, .int .i64 p2, .int .i64 p3, .int .i64 p4] 52) = W := ⟨_, rfl⟩
      obtain ⟨H, hH⟩ : ∃ B, wr.heap.size = B := ⟨_, rfl⟩
      have hBr : B ≤ wr.heap.size := by have := hbel.size; have := HBB.out; omega
      have hbelW := hbel.trans (hbA.mono hBr)
      have HOW := hid (owns_below HO.out hbA)
      have hBW : B ≤ W.heap.size := by rw [← hW]; exact Nat.le_trans hBr hbA.size
      rw [hW] at kb hbelW HOW ⊢
      rw [hH] at kb ⊢
      clear hW hH hbA x0 x1 x2 x3 hbel HO hBr
      have hd := (Below.refl W.heap.size W).drew
      have HOd := hid (owns_below HOW.out hd)
      have hbd := hbelW.trans (hd.mono hBW)
      have hsd : B ≤ W.drew.heap.size := hBW
      have kd := kb.below hd
      have c0 := kd.look 0 rfl
      have c1 := kd.look 1 rfl
      have c2 := kd.look 2 rfl
      have c3 := kd.look 3 rfl
      by_cases hlast : i + 2 = L
      · have hl2 : (i : Int) = ((L - 2 : Nat) : Int) := by omega
        have hl3 : i = L - 2 := by omega
        have hkeep : keepB C T (i + 1) = true := by
          unfold keepB
          rw [HCL.out, decide_eq_true (show i + 1 + 1 = L by omega)]
          simp
        refine wp_walkJ (T := Below (W.heap.size)) (belowV_pre _) (.rd 0 (.rd 1 (.rd 2 (.rd 3 (.rd 4 (.rd 5 (.rd 6 (.rd 7 (.rd 8 (.rd 9 (.rd 10 (.rd 11 (.rd 12 (.rd 13 (.rd 14 (.rd 15 (.rd 16 (.inv [])))))))))))))))))) (by kernel_rfl) rfl (by kernel_rfl) (by kernel_rfl) ?_
        iterate 17 (refine walkJ_rd rfl (fun K hK => ?_); go_simp; refine hK _ ?_; clear hK K)
        refine walkJ_nil ?_
        have HK := hid (normTo_yes hkeep)
        clear hkeep
        obtain ⟨Wd, hWd⟩ : ∃ Wd, W.drew = Wd := ⟨_, rfl⟩
        rw [hWd] at HOd hbd hsd c0 c1 c2 c3 ⊢
        clear hWd
        go_wp2_with (first
          | (at_builtin; refine wpList_appH rfl (.tmp 46) (.tmp 48) _ rfl B 52 (.agg #[.int .i64 0, .int .i64 0, .int .i64 0, .int .i64 0]) 4 32 Tryd.underlying22 infoPoint rfl (by decide) 52 _ _ _ rfl HOd.out [.int .i64 p1, .int .i64 p2, .int .i64 p3, .int .i64 p4] _ (by first | rfl | simp) rfl rfl (by simp [Value.oneCell']) (by unfold maxLen; omega) (by omega) (by omega) ?_; intro g5 gcap w5 ho5 hb5 _ _ _))
        go_roundw
        case rel =>
          refine ⟨i + 1, by go_num, by omega, ?_, hbd.trans hb5⟩
          rw [HK.out, List.length_append, ptsC_append, HPC.out, HNL.out]
          exact hid ho5
        case measure => simp [intOf]; omega
      · have hl2 : ¬ (i : Int) = ((L - 2 : Nat) : Int) := by omega
        have hl3 : ¬ i = L - 2 := by omega
        have hi1L : i + 1 < L - 1 := by omega
        have hi1L2 : (i : Int) + 1 < ((L - 1 : Nat) : Int) := by omega
        have hi1p : 0 ≤ (i : Int) + 1 := by omega
        have s0 := fun x : SubT (Below W.heap.size) W.drew => (HGT.out i x.w hiL (hbelW.trans ((hd.trans x.b).mono hBW))).1
        have s1 := fun x : SubT (Below W.heap.size) W.drew => (HGT.out i x.w hiL (hbelW.trans ((hd.trans x.b).mono hBW))).2
        have s2 := fun x : SubT (Below W.heap.size) W.drew => (HGT.out (i + 1) x.w hi1L (hbelW.trans ((hd.trans x.b).mono hBW))).1
        have s3 := fun x : SubT (Below W.heap.size) W.drew => (HGT.out (i + 1) x.w hi1L (hbelW.trans ((hd.trans x.b).mono hBW))).2
        have hki : keepB C T (i + 1) = decide (T.getD i 0 ≠ T.getD (i + 1) 0) := by
          unfold keepB
          rw [HCL.out, decide_eq_false (show ¬ i + 1 + 1 = L by omega), decide_eq_false (show ¬ i + 1 = 0 by omega)]
          rfl
        obtain ⟨S, hS⟩ : ∃ S, T.getD i 0 = S := ⟨_, rfl⟩
        obtain ⟨U, hU⟩ : ∃ S, T.getD (i + 1) 0 = S := ⟨_, rfl⟩
        rw [hS] at s0 s1 hki
        rw [hU] at s2 s3 hki
        have hre := rat_eq_iff S U
        obtain ⟨n1, hn1⟩ : ∃ z, S.num = z := ⟨_, rfl⟩
        obtain ⟨d1, hd1⟩ : ∃ z, (S.den : Int) = z := ⟨_, rfl⟩
        obtain ⟨n2, hn2⟩ : ∃ z, U.num = z := ⟨_, rfl⟩
        obtain ⟨d2, hd2⟩ : ∃ z, (U.den : Int) = z := ⟨_, rfl⟩
        rw [hn1, hd1, hn2, hd2] at hre
        rw [hn1] at s0
        rw [hd1] at s1
        rw [hn2] at s2
        rw [hd2] at s3
        have HRE := hid hre
        have HKI := hid hki
        clear hS hU hn1 hd1 hn2 hd2 hre hki
        by_cases hnn : n1 = n2
        · by_cases hdd : d1 = d2
          · have hkeep : keepB C T (i + 1) = false := by
              rw [HKI.out]
              exact decide_eq_false (fun h => h (HRE.out.2 ⟨hnn, hdd⟩))
            have HK := hid (normTo_no hkeep)
            clear hkeep
            subst hnn hdd
            refine wp_walkJ (T := Below (W.heap.size)) (belowV_pre _) (.rd 0 (.rd 1 (.rd 2 (.rd 3 (.rd 4 (.rd 5 (.rd 6 (.rd 7 (.rd 8 (.rd 9 (.rd 10 (.rd 11 (.rd 12 (.rd 13 (.rd 14 (.rd 15 (.rd 16 (.inv [])))))))))))))))))) (by kernel_rfl) rfl (by kernel_rfl) (by kernel_rfl) ?_
            iterate 17 (refine walkJ_rd rfl (fun K hK => ?_); go_simp; refine hK _ ?_; clear hK K)
            refine walkJ_nil ?_
            clear s0 s1 s2 s3
            go_wp2
            go_roundw
            case rel =>
              refine ⟨i + 1, by go_num, by omega, ?_, hbd⟩
              rw [HK.out, HNL.out]
              exact HOd
            case measure => simp [intOf]; omega
          · have hkeep : keepB C T (i + 1) = true := by
              rw [HKI.out]
              exact decide_eq_true (fun h => hdd (HRE.out.1 h).2)
            subst hnn
            refine wp_walkJ (T := Below (W.heap.size)) (belowV_pre _) (.rd 0 (.rd 1 (.rd 2 (.rd 3 (.rd 4 (.rd 5 (.rd 6 (.rd 7 (.rd 8 (.rd 9 (.rd 10 (.rd 11 (.rd 12 (.rd 13 (.rd 14 (.rd 15 (.rd 16 (.inv [])))))))))))))))))) (by kernel_rfl) rfl (by kernel_rfl) (by kernel_rfl) ?_
            iterate 17 (refine walkJ_rd rfl (fun K hK => ?_); go_simp; refine hK _ ?_; clear hK K)
            refine walkJ_nil ?_
            clear s0 s1 s2 s3 hdd
            have HK := hid (normTo_yes hkeep)
            clear hkeep
            obtain ⟨Wd, hWd⟩ : ∃ Wd, W.drew = Wd := ⟨_, rfl⟩
            rw [hWd] at HOd hbd hsd c0 c1 c2 c3 ⊢
            clear hWd
            go_wp2_with (first
              | (at_builtin; refine wpList_appH rfl (.tmp 46) (.tmp 48) _ rfl B 52 (.agg #[.int .i64 0, .int .i64 0, .int .i64 0, .int .i64 0]) 4 32 Tryd.underlying22 infoPoint rfl (by decide) 52 _ _ _ rfl HOd.out [.int .i64 p1, .int .i64 p2, .int .i64 p3, .int .i64 p4] _ (by first | rfl | simp) rfl rfl (by simp [Value.oneCell']) (by unfold maxLen; omega) (by omega) (by omega) ?_; intro g5 gcap w5 ho5 hb5 _ _ _))
            go_roundw
            case rel =>
              refine ⟨i + 1, by go_num, by omega, ?_, hbd.trans hb5⟩
              rw [HK.out, List.length_append, ptsC_append, HPC.out, HNL.out]
              exact hid ho5
            case measure => simp [intOf]; omega
        · have hkeep : keepB C T (i + 1) = true := by
            rw [HKI.out]
            exact decide_eq_true (fun h => hnn (HRE.out.1 h).1)
          refine wp_walkJ (T := Below (W.heap.size)) (belowV_pre _) (.rd 0 (.rd 1 (.rd 2 (.rd 3 (.rd 4 (.rd 5 (.rd 6 (.rd 7 (.rd 8 (.rd 9 (.rd 10 (.rd 11 (.rd 12 (.rd 13 (.rd 14 (.rd 15 (.rd 16 (.inv [])))))))))))))))))) (by kernel_rfl) rfl (by kernel_rfl) (by kernel_rfl) ?_
          iterate 17 (refine walkJ_rd rfl (fun K hK => ?_); go_simp; refine hK _ ?_; clear hK K)
          refine walkJ_nil ?_
          clear s0 s1 s2 s3 hnn
          have HK := hid (normTo_yes hkeep)
          clear hkeep
          obtain ⟨Wd, hWd⟩ : ∃ Wd, W.drew = Wd := ⟨_, rfl⟩
          rw [hWd] at HOd hbd hsd c0 c1 c2 c3 ⊢
          clear hWd
          go_wp2_with (first
            | (at_builtin; refine wpList_appH rfl (.tmp 46) (.tmp 48) _ rfl B 52 (.agg #[.int .i64 0, .int .i64 0, .int .i64 0, .int .i64 0]) 4 32 Tryd.underlying22 infoPoint rfl (by decide) 52 _ _ _ rfl HOd.out [.int .i64 p1, .int .i64 p2, .int .i64 p3, .int .i64 p4] _ (by first | rfl | simp) rfl rfl (by simp [Value.oneCell']) (by unfold maxLen; omega) (by omega) (by omega) ?_; intro g5 gcap w5 ho5 hb5 _ _ _))
          go_roundw
          case rel =>
            refine ⟨i + 1, by go_num, by omega, ?_, hbd.trans hb5⟩
            rw [HK.out, List.length_append, ptsC_append, HPC.out, HNL.out]
            exact hid ho5
          case measure => simp [intOf]; omega
    · obtain rfl : i = L - 1 := by omega
      have hi2 : ¬ ((L - 1 : Nat) : Int) < ((L - 1 : Nat) : Int) := by omega
      obtain ⟨ao3, c3, he3, -⟩ := id (SlR.of_owns HO.out)
      subst he3
      have hBw : Below w.heap.size w wr := HB1.out.trans ((show Below w1.heap.size w1 wr by rw [HBB.out]; exact hbel).mono HB1.out.size)
      have hwg : w.heap.size ≤ B := by rw [← HBB.out]; exact HB1.out.size
      have hr := SlR.mono (SlR.of_owns HO.out) hwg
      have e : R = normTo C T L := HR2.out
      rw [show L - 1 + 1 = L by omega] at hr
      have HRR := hid hr
      have HRE := hid e
      clear hr e
      go_wp2
      go_ret2
      refine ⟨⟨_, rfl, ?_⟩, hBw⟩
      unfold PsR
      rw [HRE.out]
      exact HRR.out

end Go.Proofs.YtfkclcoipadhmaaDoor
