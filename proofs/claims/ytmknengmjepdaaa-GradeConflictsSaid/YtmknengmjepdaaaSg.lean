/- Walk of trankref04.bad. -/
import Derived.Test.YtmknengmjepdaaaSf
import Derived.Test.YtmknengmjepdaaaRv
namespace Go.Proofs.Ytmknengmjepdaaa
open Go.RowKit
attribute [local irreducible] seqS seqST walkV

set_option maxHeartbeats 8000000 in
set_option maxRecDepth 100000 in
theorem bad_any (p : Pat) (n d : Int) (v : Value) (w : World) (h : PatF 0 w v p) (hp : PValid p) (hs : FSize n d) :
    Calls Try.prog 92 #[v, .agg #[.int .i64 n, .int .i64 d]] w fun e w' =>
      (∃ c x ok, e = .returned (.tuple #[.int .i64 c, .int .i64 x, .bool ok]) ∧ ((ok = true ∧ BadAt p ((n : Rat) / (d : Rat)) c x) ∨ (ok = false ∧ Feas p ((n : Rat) / (d : Rat))))) ∧ Below w.heap.size w w' := by
  obtain ⟨sv, rfl, -⟩ := id h
  obtain ⟨N, hN⟩ : ∃ N : Nat, p.n = N := ⟨p.n.toNat, by have := hp.1; omega⟩
  have hN1 : N ≤ 16 := by have := hp.2.1; omega
  have hp3 := hp.2.2.1
  have HN := hid hN
  have HP := hid hp
  have HS := hid hs
  have hN0 : p.n.toNat = N := by rw [hN, Int.toNat_natCast]
  have HN0 := hid hN0
  have HRV := hid (ext_rv hp.1 hp.2.2.2)
  rw [hN] at h ⊢
  obtain ⟨Z, hZ⟩ : ∃ Z, wArr (fun _ _ => ⟨0, 0, 0⟩) = Z := ⟨_, rfl⟩
  have hz := (zero_of_info infoW).1
  rw [hZ] at hz
  have HZ := hid hZ
  clear hN hp hs hN0 hZ
  go_enter Try.func92, Try.ntmps92
  go_wp2_with fail
  obtain ⟨w0, hw0, k0, k1, hB, hsz⟩ := one_new w #[.int .i64 (N : Int), sv] #[.int .i64 n, .int .i64 d] 24 26
  rw [hw0]
  clear hw0
  have fin : Hid (∀ W, Below w0.heap.size w0 W → Below w.heap.size w W) := hid (fun W hb => hB.trans (hb.mono hB.size))
  have h0 := h.below hB
  obtain ⟨S, hS⟩ : ∃ S, w.heap.size = S := ⟨_, rfl⟩
  rw [hS] at k0 k1 hsz ⊢
  clear hS h hB
  have c0 := k0.look 0 rfl
  have c1 := k0.look 1 rfl
  go_wp2_with fail
  refine (All4_any p _ _ h0 HP.out.1 HP.out.2.1 (by have := HP.out.2.2.1; omega)).mono ?_
  rintro e w1 ⟨v1, v2, rfl, hr1, -, hb1⟩
  obtain ⟨ro, rcap, rfl, hrc, hrm, hrcells⟩ := hr1
  unfold maxLen at hrm
  obtain ⟨E, hE⟩ : ∃ E, (ext p).length = E := ⟨_, rfl⟩
  have HE := hid hE
  have hE80 : E ≤ 80 := by
    rw [← hE]; unfold ext; rw [List.length_append, List.length_map, List.length_range, HN0.out]; have := HP.out.2.2.1; omega
  rw [hE] at hrc ⊢
  have kp := k0.below hb1
  have ks := k1.below hb1
  have hsB := hb1.size
  clear hE c0 c1 k0 k1 h0
  go_wp2_with fail
  obtain ⟨B, hBB⟩ : ∃ B, w1.heap.size = B := ⟨_, rfl⟩
  have hb2 : Below B w1 (w1.alloc (.cells Z 155)) := (Below.refl _ _).alloc (Nat.le_of_eq hBB.symm) _
  have kn := Blk.new w1 Z 155
  rw [hBB] at kn hsB ⊢
  obtain ⟨w2, hw2⟩ : ∃ w2, w1.alloc (.cells Z 155) = w2 := ⟨_, rfl⟩
  rw [hw2] at kn hb2 ⊢
  have HB := hid hBB
  clear hw2 hBB
  have hkn : Blk w2 B (wArr (initM 0 0)) 155 := by rw [initM_zero, HZ.out]; exact kn
  clear kn
  go_loopw [25] (fun x wr => ∃ a : Nat, x = .int .i64 a ∧ a ≤ 16 ∧ Blk wr B (wArr (initM a 0)) 155 ∧ Below B w1 wr) (fun x _ => 16 - (intOf x).toNat)
  case atStart => exact ⟨0, rfl, Nat.zero_le _, hkn, hb2⟩
  case round =>
    obtain ⟨a, rfl, ha, ka, ba⟩ := hrel
    clear hkn hb2
    by_cases ha16 : a < 16
    · have ha2 : (a : Int) < 16 := by omega
      go_wp2_with fail
      go_loopw [28] (fun x wr => ∃ b : Nat, x = .int .i64 b ∧ b ≤ 16 ∧ Blk wr B (wArr (initM a b)) 155 ∧ Below B w1 wr) (fun x _ => 16 - (intOf x).toNat)
      case atStart => exact ⟨0, rfl, Nat.zero_le _, ka, ba⟩
      case round =>
        obtain ⟨b, rfl, hb, kb, bb⟩ := hrel
        clear ka ba
        by_cases hb16 : b < 16
        · have hb2 : (b : Int) < 16 := by omega
          have c0 := kb.look (a * 48 + b * 3) (wArr_w _ ha16 hb16)
          have f0 := kb.frozen
          go_wp2_with fail
          have hset := kb.set (a * 48 + b * 3) (.int .i64 NONE)
          rw [initM_step ha16 hb16] at hset
          refine ⟨⟨b + 1, by go_num, by omega, hset, bb.setCell (p := ⟨B, a * 48 + b * 3, none⟩) (Nat.le_refl B) _⟩, by simp [intOf]; omega⟩
        · obtain rfl : b = 16 := by omega
          have c0 := kb.look (a * 48 + a * 3) (wArr_w _ ha16 ha16)
          have f0 := kb.frozen
          go_wp2_with fail
          have hset := kb.set (a * 48 + a * 3) (.int .i64 0)
          rw [initM_row ha16] at hset
          refine ⟨⟨a + 1, by go_num, by omega, hset, bb.setCell (p := ⟨B, a * 48 + a * 3, none⟩) (Nat.le_refl B) _⟩, by simp [intOf]; omega⟩
    · have he1 : a = 16 := by omega
      rw [he1] at ka
      have hnl1 : ¬ ((a : Int) < 16) := by omega
      clear ha ha16 he1
      have KP : Hid (∀ W, Below B w1 W → W.cell? ⟨S, 0, none⟩ = some (.int .i64 (N : Int))) := hid fun W hb => (kp.below (by rw [HB.out]; exact hb)).look 0 rfl
      have KS : Hid (∀ W, Below B w1 W → W.cell? ⟨S + 1, 0, none⟩ = some (.int .i64 n) ∧ W.cell? ⟨S + 1, 1, none⟩ = some (.int .i64 d)) := hid fun W hb => ⟨(ks.below (by rw [HB.out]; exact hb)).look 0 rfl, (ks.below (by rw [HB.out]; exact hb)).look 1 rfl⟩
      have KR : Hid (∀ W, Below B w1 W → CellsOf w0.heap.size W ro (ruCells (ext p))) := hid fun W hb => hrcells.below (by rw [HB.out]; exact hb)
      clear kp ks hrcells
      have hnow := now_start (n := n) (d := d) HP.out
      have hnp := np_start (p := p) (n := n) (d := d)
      generalize initM 16 0 = M0 at ka hnow
      have HNOW := hid hnow
      have HNP := hid hnp
      have c0 := KP.out _ ba
      clear hnow hnp
      go_wp2_with fail
      clear c0 hnl1
      go_loopw [45] (fun x wr => ∃ k : Nat, x = .int .i64 k ∧ k ≤ N ∧ ∃ M, Hid (NowI p n d k M) ∧ Hid (NP p n d k) ∧ Blk wr B (wArr M) 155 ∧ Below B w1 wr) (fun x _ => N - (intOf x).toNat)
      case atStart => exact ⟨0, rfl, Nat.zero_le _, _, HNOW, HNP, ka, ba⟩
      case round =>
        obtain ⟨k, rfl, hk, M, HNOW2, HNP2, kM, bM⟩ := hrel
        clear ka ba HNOW HNP M0
        by_cases hkN : k < N
        · have hk2 : (k : Int) < (N : Int) := by omega
          go_wp2_with fail
          obtain ⟨D, hDD⟩ : ∃ D, wr.heap.size = D := ⟨_, rfl⟩
          have hBD : B < D := by rw [← hDD]; exact kM.lt
          have kM2 := kM.alloc (.cells Z 155)
          have kX := Blk.new wr Z 155
          have bX := bM.alloc (show B ≤ wr.heap.size by omega) (.cells Z 155)
          rw [hDD] at kX ⊢
          obtain ⟨w3, hw3⟩ : ∃ w3, wr.alloc (.cells Z 155) = w3 := ⟨_, rfl⟩
          rw [hw3] at kM2 kX bX ⊢
          clear hw3 hDD kM bM
          have hkX : Blk w3 D (wArr (nextM 0 0)) 155 := by rw [nextM_zero, HZ.out]; exact kX
          clear kX
          go_loopw [47] (fun x wr => ∃ a : Nat, x = .int .i64 a ∧ a ≤ 16 ∧ Blk wr B (wArr M) 155 ∧ Blk wr D (wArr (nextM a 0)) 155 ∧ Below B w1 wr) (fun x _ => 16 - (intOf x).toNat)
          case atStart => exact ⟨0, rfl, Nat.zero_le _, kM2, hkX, bX⟩
          case round =>
            obtain ⟨a, rfl, ha, kM, kX, bX2⟩ := hrel
            clear hkX kM2 bX
            by_cases ha16 : a < 16
            · have ha2 : (a : Int) < 16 := by omega
              go_wp2_with fail
              go_loopw [50] (fun x wr => ∃ b : Nat, x = .int .i64 b ∧ b ≤ 16 ∧ Blk wr B (wArr M) 155 ∧ Blk wr D (wArr (nextM a b)) 155 ∧ Below B w1 wr) (fun x _ => 16 - (intOf x).toNat)
              case atStart => exact ⟨0, rfl, Nat.zero_le _, kM, kX, bX2⟩
              case round =>
                obtain ⟨b, rfl, hb, kM3, kX3, bX3⟩ := hrel
                clear kM kX bX2
                by_cases hb16 : b < 16
                · have hb2 : (b : Int) < 16 := by omega
                  have c0 := kX3.look (a * 48 + b * 3) (wArr_w _ ha16 hb16)
                  have f0 := kX3.frozen
                  go_wp2_with fail
                  have hset := kX3.set (a * 48 + b * 3) (.int .i64 NONE)
                  rw [nextM_step ha16 hb16] at hset
                  refine ⟨⟨b + 1, by go_num, by omega, kM3.other (p := ⟨D, a * 48 + b * 3, none⟩) (by show B ≠ D; omega) _, hset, bX3.setCell (p := ⟨D, a * 48 + b * 3, none⟩) (by show B ≤ D; omega) _⟩, by simp [intOf]; omega⟩
                · obtain rfl : b = 16 := by omega
                  rw [nextM_row] at kX3
                  go_wp2_with fail
                  refine ⟨⟨a + 1, by go_num, by omega, kM3, kX3, bX3⟩, by simp [intOf]; omega⟩
            · have he2 : a = 16 := by omega
              rw [he2] at kX
              have hnl2 : ¬ ((a : Int) < 16) := by omega
              clear ha ha16 he2
              have hpass := pass_start (p := p) (n := n) (d := d) (k := k) HP.out
              generalize nextM 16 0 = X0 at kX hpass
              have HPASS := hid hpass
              have HNA : Hid (NPa p n d k 0) := hid fun x hx => absurd hx (Nat.not_lt_zero x)
              have c0 := KP.out _ bX2
              clear hpass
              go_wp2_with fail
              clear c0 hnl2
              go_loopw [62] (fun x wr => ∃ a : Nat, x = .int .i64 a ∧ a ≤ N ∧ ∃ X, Hid (PassI p n d k a X) ∧ Hid (NPa p n d k a) ∧ Blk wr B (wArr M) 155 ∧ Blk wr D (wArr X) 155 ∧ Below B w1 wr) (fun x _ => N - (intOf x).toNat)
              case atStart => exact ⟨0, rfl, Nat.zero_le _, _, HPASS, HNA, kM, kX, bX2⟩
              case round =>
                obtain ⟨a, rfl, ha, X, HPASS2, HNA2, kM3, kX3, bX3⟩ := hrel
                clear kM kX bX2 HPASS HNA X0
                by_cases haN : a < N
                · have ha2 : (a : Int) < (N : Int) := by omega
                  have haN0 : a < p.n.toNat := by rw [HN0.out]; exact haN
                  have HROW := hid (row_start HPASS2.out haN0)
                  go_wp2_with fail
                  go_loopw [67] (fun x wr => ∃ j : Nat, x = .int .i64 j ∧ j ≤ E ∧ ∃ X, Hid (RowI p n d k a j X) ∧ Blk wr B (wArr M) 155 ∧ Blk wr D (wArr X) 155 ∧ Below B w1 wr) (fun x _ => E - (intOf x).toNat)
                  case atStart => exact ⟨0, rfl, Nat.zero_le _, _, HROW, kM3, kX3, bX3⟩
                  case round =>
                    obtain ⟨j, rfl, hj, Y, HROW2, kM, kX, bX⟩ := hrel
                    clear kM3 kX3 bX3 HPASS2 HROW X
                    by_cases hjE : j < E
                    · have hj2 : (j : Int) < (E : Int) := by omega
                      obtain ⟨r, hr⟩ := ex_rule (l := ext p) (i := j) (by rw [HE.out]; exact hjE)
                      have hrv := HRV.out r (rule_mem hr)
                      obtain ⟨b9, off9, rfl, hb9, d0, d1, d2, d3⟩ := ru_cell (KR.out _ bX) hr
                      obtain ⟨A, hA⟩ : ∃ A : Nat, r.a = A := ⟨r.a.toNat, by have := hrv.1; omega⟩
                      obtain ⟨C, hC⟩ : ∃ A : Nat, r.b = A := ⟨r.b.toNat, by have := hrv.2.2.1; omega⟩
                      have hAN : A < N := by have := hrv.2.1; have := HN.out; omega
                      have hCN : C < N := by have := hrv.2.2.2.1; have := HN.out; omega
                      have hwt := wt_le hrv HS.out
                      have hbd := best_bd HP.out HS.out (by omega) (HNOW2.out a A haN0 (by rw [HN0.out]; exact hAN))
                      have hcd : -1000 ≤ r.c ∧ r.c ≤ 1000 ∧ -100 ≤ r.d ∧ r.d ≤ 100 := ⟨hrv.2.2.2.2.1, hrv.2.2.2.2.2.1, hrv.2.2.2.2.2.2.1, hrv.2.2.2.2.2.2.2⟩
                      have hskip := fun hw => row_skip HP.out HS.out (by omega) hr HNOW2.out haN0 (by rw [hA, Int.toNat_natCast, HN0.out]; exact hAN) hw HROW2.out
                      have htake := fun hw => row_take HP.out HS.out (by omega) hr HNOW2.out haN0 hrv.1 (by rw [hA, Int.toNat_natCast, HN0.out]; exact hAN) hw hwt.1 HROW2.out
                      have WT : Hid (∀ w, Calls Try.prog 81 #[.agg #[.int .i64 r.a, .int .i64 r.b, .int .i64 r.c, .int .i64 r.d], .agg #[.int .i64 n, .int .i64 d]] w fun e w' => e = .returned (.int .i64 (wt r n d)) ∧ Below w.heap.size w w') := hid fun w => weight_any _ r n d w hrv HS.out
                      obtain ⟨rc, hrc9⟩ : ∃ z, r.c = z := ⟨_, rfl⟩
                      obtain ⟨rd, hrd9⟩ : ∃ z, r.d = z := ⟨_, rfl⟩
                      obtain ⟨t, ht⟩ : ∃ z, wt r n d = z := ⟨_, rfl⟩
                      rw [hA, hC, hrc9, hrd9, ht] at WT
                      rw [hA, hC, hrc9, hrd9, ht, Int.toNat_natCast, Int.toNat_natCast] at htake
                      rw [hA, Int.toNat_natCast] at hskip
                      rw [ht] at hwt
                      rw [hrc9, hrd9] at hcd
                      rw [hA] at d0
                      rw [hC] at d1
                      rw [hrc9] at d2
                      rw [hrd9] at d3
                      obtain ⟨⟨mw, mc, md⟩, hm⟩ : ∃ m, M a A = m := ⟨_, rfl⟩
                      rw [hm] at hbd hskip htake
                      dsimp only at hbd hskip htake
                      have HM := hid hm
                      have HSKIP := hid hskip
                      have HTAKE := hid htake
                      have ha16 : a < 16 := by omega
                      have hA16 : A < 16 := by omega
                      have hC16 : C < 16 := by omega
                      have haI : (a : Int) < 16 := by omega
                      have hAI : (A : Int) < 16 := by omega
                      have hCI : (C : Int) < 16 := by omega
                      clear hr hrv hA hC hrc9 hrd9 ht hm hskip htake
                      go_wp2_with fail
                      have kr := Blk.new wr #[.int .i64 (A : Int), .int .i64 (C : Int), .int .i64 rc, .int .i64 rd] 46
                      have kM0 := kM.alloc (.cells #[.int .i64 (A : Int), .int .i64 (C : Int), .int .i64 rc, .int .i64 rd] 46)
                      have kX0 := kX.alloc (.cells #[.int .i64 (A : Int), .int .i64 (C : Int), .int .i64 rc, .int .i64 rd] 46)
                      have hltX := kX.lt
                      have bX0 := bX.alloc (show B ≤ wr.heap.size by omega) (.cells #[.int .i64 (A : Int), .int .i64 (C : Int), .int .i64 rc, .int .i64 rd] 46)
                      obtain ⟨W0, hW0⟩ : ∃ W0, wr.alloc (.cells #[.int .i64 (A : Int), .int .i64 (C : Int), .int .i64 rc, .int .i64 rd] 46) = W0 := ⟨_, rfl⟩
                      obtain ⟨R, hR⟩ : ∃ R, wr.heap.size = R := ⟨_, rfl⟩
                      rw [hW0] at kr kM0 kX0 bX0 ⊢
                      rw [hR] at kr hltX ⊢
                      clear hW0 hR kM kX bX d0 d1 d2 d3 hb9
                      have hd := (Below.refl W0.heap.size W0).drew
                      have z0 := fun x : SubT (Below W0.heap.size) W0.drew => (kr.below (hd.trans x.b)).look 0 rfl
                      have z1 := fun x : SubT (Below W0.heap.size) W0.drew => ((kM0.below (hd.trans x.b)).look _ (wArr_w M ha16 hA16)).trans (congrArg (fun y : W3 => some (Value.int .i64 y.w)) HM.out)
                      have z2 := fun x : SubT (Below W0.heap.size) W0.drew => ((kM0.below (hd.trans x.b)).look _ (wArr_c M ha16 hA16)).trans (congrArg (fun y : W3 => some (Value.int .i64 y.c)) HM.out)
                      have z3 := fun x : SubT (Below W0.heap.size) W0.drew => ((kM0.below (hd.trans x.b)).look _ (wArr_d M ha16 hA16)).trans (congrArg (fun y : W3 => some (Value.int .i64 y.d)) HM.out)
                      refine wp_walkV (T := Below (W0.heap.size)) (belowV_pre _) (.rd 0 (.rd 1 (.rd 2 (.rd 3 (.rd 4 (.rd 5 (.mv 6 (.bt 7 .nil)))))))) (by kernel_rfl) rfl rfl (by kernel_rfl) (by kernel_rfl) ?_
                      iterate 6 (refine walkV_rd rfl (fun K hK => ?_); go_simp; refine hK _ ?_; clear hK K)
                      clear z0 z1 z2 z3
                      obtain ⟨W1, hW1⟩ : ∃ W1, W0.drew = W1 := ⟨_, rfl⟩
                      have hs1 : W0.heap.size = W1.heap.size := by rw [← hW1]; rfl
                      have HS1 := hid hs1
                      have kr1 := kr.drew
                      have kM1 := kM0.drew
                      have kX1 := kX0.drew
                      have bX1 := bX0.drew
                      rw [hW1] at kr1 kM1 kX1 bX1 ⊢
                      clear hW1 kr kM0 kX0 bX0 hd hs1
                      (refine walkV_mv rfl (fun K hK => ?_); go_simp; refine hK _ _ ((Below.refl _ _).alloc (Nat.le_of_eq HS1.out) _) ?_; clear hK K)
                      have y9 := Blk.new W1 #[.int .i64 0, .int .i64 0, .int .i64 0] 153
                      have q0 := y9.look 0 rfl
                      have q1 := y9.look 1 rfl
                      have q2 := y9.look 2 rfl
                      have f0 := y9.frozen
                      (refine walkV_bt rfl (fun K hK => ?_); go_simp; refine hK _ _ ?_; clear hK K)
                      refine walkV_nil ?_
                      clear q0 q1 q2 f0 y9
                      have kx2 := Blk.new W1 #[.int .i64 mw, .int .i64 mc, .int .i64 md] 153
                      have kr2 := kr1.alloc (.cells #[.int .i64 mw, .int .i64 mc, .int .i64 md] 153)
                      have kM2 := kM1.alloc (.cells #[.int .i64 mw, .int .i64 mc, .int .i64 md] 153)
                      have kX2 := kX1.alloc (.cells #[.int .i64 mw, .int .i64 mc, .int .i64 md] 153)
                      have hlt1 := kX1.lt
                      have bX2 := bX1.alloc (show B ≤ W1.heap.size by omega) (.cells #[.int .i64 mw, .int .i64 mc, .int .i64 md] 153)
                      obtain ⟨W2, hW2⟩ : ∃ W2, W1.alloc (.cells #[.int .i64 mw, .int .i64 mc, .int .i64 md] 153) = W2 := ⟨_, rfl⟩
                      obtain ⟨V1, hV1⟩ : ∃ V1, W1.heap.size = V1 := ⟨_, rfl⟩
                      rw [hW2] at kx2 kr2 kM2 kX2 bX2 ⊢
                      rw [hV1] at kx2 hlt1 ⊢
                      clear hW2 HS1 hV1 kr1 kM1 kX1 bX1
                      have x0 := kx2.look 0 rfl
                      by_cases hmn : mw = -1152921504606846976
                      · have hrow := hid (HSKIP.out hmn)
                        subst hmn
                        go_wp2
                        go_roundw
                        case rel => exact ⟨j + 1, by go_num, by omega, Y, hrow, kM2, kX2, bX2⟩
                        case measure => simp [intOf]; omega
                      · obtain ⟨g1, g2, g3, g4, g5, g6⟩ := hbd.resolve_left hmn
                        obtain ⟨yw, hyw⟩ : ∃ z, mw + t = z := ⟨_, rfl⟩
                        obtain ⟨yc, hyc⟩ : ∃ z, mc + rc = z := ⟨_, rfl⟩
                        obtain ⟨yd, hyd⟩ : ∃ z, md + rd = z := ⟨_, rfl⟩
                        have hrow := HTAKE.out hmn
                        rw [hyw, hyc, hyd] at hrow
                        have HROW3 := hid hrow
                        have wW : IntKind.i64.wrap (mw + t) = yw := by rw [IntWalk.i64_left, ← hyw]; unfold wrap64; omega
                        have wC : IntKind.i64.wrap (mc + rc) = yc := by rw [IntWalk.i64_left, ← hyc]; unfold wrap64; omega
                        have wD : IntKind.i64.wrap (md + rd) = yd := by rw [IntWalk.i64_left, ← hyd]; unfold wrap64; omega
                        clear hrow hyw hyc hyd
                        go_wp2_with fail
                        clear x0
                        obtain ⟨W3, hW3⟩ : ∃ W3, W2.drew = W3 := ⟨_, rfl⟩
                        have hs3 : W2.heap.size = W3.heap.size := by rw [← hW3]; rfl
                        have HS3 := hid hs3
                        have kr3 := kr2.drew
                        have kM3 := kM2.drew
                        have kX3 := kX2.drew
                        have kx3 := kx2.drew
                        have bX3 := bX2.drew
                        rw [hW3] at kr3 kM3 kX3 kx3 bX3
                        clear kr2 kM2 kX2 kx2 bX2
                        have hltX3 := kX3.lt
                        have z0 := fun x : SubT (Below W2.heap.size) W3 => (kx3.below (x.b.mono (Nat.le_of_eq HS3.out.symm))).look 0 rfl
                        have z1 := fun x : SubT (Below W2.heap.size) W3 => (kx3.below (x.b.mono (Nat.le_of_eq HS3.out.symm))).look 1 rfl
                        have z2 := fun x : SubT (Below W2.heap.size) W3 => (kx3.below (x.b.mono (Nat.le_of_eq HS3.out.symm))).look 2 rfl
                        have z3 := fun x : SubT (Below W2.heap.size) W3 => (kr3.below (x.b.mono (Nat.le_of_eq HS3.out.symm))).look 0 rfl
                        have z4 := fun x : SubT (Below W2.heap.size) W3 => (kr3.below (x.b.mono (Nat.le_of_eq HS3.out.symm))).look 1 rfl
                        have z5 := fun x : SubT (Below W2.heap.size) W3 => (kr3.below (x.b.mono (Nat.le_of_eq HS3.out.symm))).look 2 rfl
                        have z6 := fun x : SubT (Below W2.heap.size) W3 => (kr3.below (x.b.mono (Nat.le_of_eq HS3.out.symm))).look 3 rfl
                        have z7 := fun x : SubT (Below W2.heap.size) W3 => (KS.out _ (bX3.trans (x.b.mono (by have := HS3.out; omega)))).1
                        have z8 := fun x : SubT (Below W2.heap.size) W3 => (KS.out _ (bX3.trans (x.b.mono (by have := HS3.out; omega)))).2
                        refine wp_walkV (T := Below (W2.heap.size)) (belowV_pre _) (.rd 0 (.rd 1 (.rd 2 (.rd 3 (.rd 6 (.rd 7 (.rd 8 (.rd 9 (.rd 10 (.rd 11 (.rd 12 (.rd 13 (.rd 14 (.rd 15 (.two 4 (.rd 5 (.rd 16 (.mv 17 (.bt 18 .nil)))) 17 (.mv 4 (.rd 5 (.rd 16 (.bt 18 .nil))))))))))))))))))) (by kernel_rfl) rfl rfl (by kernel_rfl) (by kernel_rfl) ?_
                        rw [hW3]
                        iterate 14 (refine walkV_rd rfl (fun K hK => ?_); go_simp; refine hK _ ?_; clear hK K)
                        clear z0 z1 z2 z3 z4 z5 z6 z7 z8 hW3
                        refine walkV_two rfl rfl (fun K hK => ?_) (fun K hK => ?_)
                        · go_simp
                          refine (WT.out _).mono ?_
                          rintro e u1 ⟨rfl, hb4⟩
                          refine ⟨_, rfl, hK _ _ (hb4.mono (Nat.le_of_eq HS3.out)) ?_⟩
                          clear hK K
                          iterate 2 (refine walkV_rd rfl (fun K hK => ?_); go_simp; refine hK _ ?_; clear hK K)
                          have hs4 := hb4.size
                          (refine walkV_mv rfl (fun K hK => ?_); go_simp; refine hK _ _ ((Below.refl _ _).alloc (by have := HS3.out; omega) _) ?_; clear hK K)
                          have y9 := Blk.new u1 #[.int .i64 0, .int .i64 0, .int .i64 0] 153
                          have q0 := y9.look 0 rfl
                          have q1 := y9.look 1 rfl
                          have q2 := y9.look 2 rfl
                          have f0 := y9.frozen
                          (refine walkV_bt rfl (fun K hK => ?_); go_simp; refine hK _ _ ?_; clear hK K)
                          refine walkV_nil ?_
                          clear q0 q1 q2 f0 y9
                          have ky := Blk.new u1 #[.int .i64 yw, .int .i64 yc, .int .i64 yd] 153
                          have kr5 := (kr3.below hb4).alloc (.cells #[.int .i64 yw, .int .i64 yc, .int .i64 yd] 153)
                          have kM5 := (kM3.below hb4).alloc (.cells #[.int .i64 yw, .int .i64 yc, .int .i64 yd] 153)
                          have kX5 := (kX3.below hb4).alloc (.cells #[.int .i64 yw, .int .i64 yc, .int .i64 yd] 153)
                          have bX5 := (bX3.trans (hb4.mono (by omega))).alloc (show B ≤ u1.heap.size by omega) (.cells #[.int .i64 yw, .int .i64 yc, .int .i64 yd] 153)
                          obtain ⟨W5, hW5⟩ : ∃ W5, u1.alloc (.cells #[.int .i64 yw, .int .i64 yc, .int .i64 yd] 153) = W5 := ⟨_, rfl⟩
                          obtain ⟨V, hV⟩ : ∃ V, u1.heap.size = V := ⟨_, rfl⟩
                          rw [hW5] at ky kr5 kM5 kX5 bX5 ⊢
                          rw [hV] at ky ⊢
                          have hVD : D < V := by omega
                          clear hW5 hV hb4 hs4 kr3 kM3 kX3 kx3 bX3 HS3 hs3
                          obtain ⟨yo, hyo⟩ : ∃ z, (Y a C).w = z := ⟨_, rfl⟩
                          have HYO := hid hyo
                          clear hyo
                          go_wp2_with fail
                          obtain ⟨W6, hW6⟩ : ∃ W6, W5.drew = W6 := ⟨_, rfl⟩
                          have hs6 : W5.heap.size = W6.heap.size := by rw [← hW6]; rfl
                          have HS6 := hid hs6
                          have kr6 := kr5.drew
                          have kM6 := kM5.drew
                          have kX6 := kX5.drew
                          have ky6 := ky.drew
                          have bX6 := bX5.drew
                          rw [hW6] at kr6 kM6 kX6 ky6 bX6
                          clear kr5 kM5 kX5 ky bX5 hs6
                          have z0 := fun x : SubT (Below W5.heap.size) W6 => (ky6.below (x.b.mono (Nat.le_of_eq HS6.out.symm))).look 0 rfl
                          have z1 := fun x : SubT (Below W5.heap.size) W6 => (kr6.below (x.b.mono (Nat.le_of_eq HS6.out.symm))).look 1 rfl
                          have z2 := fun x : SubT (Below W5.heap.size) W6 => ((kX6.below (x.b.mono (Nat.le_of_eq HS6.out.symm))).look _ (wArr_w Y ha16 hC16)).trans (congrArg (fun z => some (Value.int .i64 z)) HYO.out)
                          refine wp_walkV (T := Below (W5.heap.size)) (belowV_pre _) (.rd 0 (.rd 1 (.rd 2 (.rd 3 (.rd 4 (.rd 5 (.rd 6 (.rd 7 (.rd 8 (.rd 9 .nil)))))))))) (by kernel_rfl) rfl rfl (by kernel_rfl) (by kernel_rfl) ?_
                          rw [hW6]
                          iterate 10 (refine walkV_rd rfl (fun K hK => ?_); go_simp; refine hK _ ?_; clear hK K)
                          clear z0 z1 z2 hW6
                          refine walkV_nil ?_
                          by_cases hlt : yo < yw
                          · go_wp2_with fail
                            obtain ⟨W7, hW7⟩ : ∃ W7, W6.drew = W7 := ⟨_, rfl⟩
                            have hs7 : W6.heap.size = W7.heap.size := by rw [← hW7]; rfl
                            have HS7 := hid hs7
                            have kr7 := kr6.drew
                            have kM7 := kM6.drew
                            have kX7 := kX6.drew
                            have ky7 := ky6.drew
                            have bX7 := bX6.drew
                            rw [hW7] at kr7 kM7 kX7 ky7 bX7
                            clear kr6 kM6 kX6 ky6 bX6 hs7
                            have z0 := fun x : SubT (Below W6.heap.size) W7 => (ky7.below (x.b.mono (Nat.le_of_eq HS7.out.symm))).look 0 rfl
                            have z1 := fun x : SubT (Below W6.heap.size) W7 => (ky7.below (x.b.mono (Nat.le_of_eq HS7.out.symm))).look 1 rfl
                            have z2 := fun x : SubT (Below W6.heap.size) W7 => (ky7.below (x.b.mono (Nat.le_of_eq HS7.out.symm))).look 2 rfl
                            have z3 := fun x : SubT (Below W6.heap.size) W7 => (kr7.below (x.b.mono (Nat.le_of_eq HS7.out.symm))).look 1 rfl
                            refine wp_walkV (T := Below (W6.heap.size)) (belowV_pre _) (.rd 0 (.rd 1 (.rd 2 (.rd 3 (.rd 4 (.rd 5 (.bt 6 .nil))))))) (by kernel_rfl) rfl rfl (by kernel_rfl) (by kernel_rfl) ?_
                            rw [hW7]
                            iterate 6 (refine walkV_rd rfl (fun K hK => ?_); go_simp; refine hK _ ?_; clear hK K)
                            clear z0 z1 z2 z3 hW7
                            have f0 := kX7.frozen
                            have q0 := kX7.look _ (wArr_w Y ha16 hC16)
                            have q1 := kX7.look _ (wArr_c Y ha16 hC16)
                            have q2 := kX7.look _ (wArr_d Y ha16 hC16)
                            (refine walkV_bt rfl (fun K hK => ?_); go_simp; refine hK _ _ ?_; clear hK K)
                            refine walkV_nil ?_
                            clear f0 q0 q1 q2
                            have hrow := HROW3.out
                            rw [if_pos (by rw [HYO.out]; exact hlt)] at hrow
                            have HROW4 := hid hrow
                            have kX8 := ((kX7.set (a * 48 + C * 3) (.int .i64 yw)).set (a * 48 + C * 3 + 1) (.int .i64 yc)).set (a * 48 + C * 3 + 2) (.int .i64 yd)
                            rw [wArr_set3 Y hC16 ⟨yw, yc, yd⟩] at kX8
                            have kM8 := ((kM7.other (p := ⟨D, a * 48 + C * 3, none⟩) (by show B ≠ D; omega) (.int .i64 yw)).other (p := ⟨D, a * 48 + C * 3 + 1, none⟩) (by show B ≠ D; omega) (.int .i64 yc)).other (p := ⟨D, a * 48 + C * 3 + 2, none⟩) (by show B ≠ D; omega) (.int .i64 yd)
                            have bX8 := ((bX7.setCell (p := ⟨D, a * 48 + C * 3, none⟩) (by show B ≤ D; omega) (.int .i64 yw)).setCell (p := ⟨D, a * 48 + C * 3 + 1, none⟩) (by show B ≤ D; omega) (.int .i64 yc)).setCell (p := ⟨D, a * 48 + C * 3 + 2, none⟩) (by show B ≤ D; omega) (.int .i64 yd)
                            clear hrow
                            go_wp2
                            go_roundw
                            case rel => exact ⟨j + 1, by go_num, by omega, _, HROW4, kM8, kX8, bX8⟩
                            case measure => simp [intOf]; omega
                          · have hrow := HROW3.out
                            rw [if_neg (by rw [HYO.out]; exact hlt)] at hrow
                            have HROW4 := hid hrow
                            clear hrow
                            go_wp2
                            go_roundw
                            case rel => exact ⟨j + 1, by go_num, by omega, Y, HROW4, kM6, kX6, bX6⟩
                            case measure => simp [intOf]; omega
                        · go_simp
                          have ha9 : Below W2.heap.size W3 (W3.alloc (.cells #[.int .i64 0, .int .i64 0, .int .i64 0] 153)) := (Below.refl _ _).alloc (Nat.le_of_eq HS3.out) _
                          refine hK _ _ ha9 ?_
                          clear hK K
                          have y4 := Blk.new W3 #[.int .i64 0, .int .i64 0, .int .i64 0] 153
                          have kr4 := kr3.alloc (.cells #[.int .i64 0, .int .i64 0, .int .i64 0] 153)
                          have kM4 := kM3.alloc (.cells #[.int .i64 0, .int .i64 0, .int .i64 0] 153)
                          have kX4 := kX3.alloc (.cells #[.int .i64 0, .int .i64 0, .int .i64 0] 153)
                          have bX4 := bX3.alloc (show B ≤ W3.heap.size by omega) (.cells #[.int .i64 0, .int .i64 0, .int .i64 0] 153)
                          obtain ⟨V, hV⟩ : ∃ V, W3.heap.size = V := ⟨_, rfl⟩
                          obtain ⟨W4, hW4⟩ : ∃ W4, W3.alloc (.cells #[.int .i64 0, .int .i64 0, .int .i64 0] 153) = W4 := ⟨_, rfl⟩
                          have hs4 : V + 1 = W4.heap.size := by rw [← hW4, World.size_alloc, hV]
                          have HV := hid hV
                          have hVD : D < V := by omega
                          have hVR : R < V := by have := kr3.lt; omega
                          rw [hV] at y4 ⊢
                          rw [hW4] at y4 kr4 kM4 kX4 bX4 ⊢
                          clear hV hW4 kr3 kM3 kX3 kx3 bX3 ha9
                          have HS4 := hid hs4
                          (refine walkV_mv rfl (fun K hK => ?_); go_simp; refine (WT.out _).mono ?_; rintro e u1 ⟨rfl, hb4⟩; refine ⟨_, rfl, hK _ _ (hb4.mono (by have := HS3.out; have := HV.out; have := HS4.out; omega)) ?_⟩; clear hK K)
                          iterate 2 (refine walkV_rd rfl (fun K hK => ?_); go_simp; refine hK _ ?_; clear hK K)
                          have y5 := y4.below hb4
                          have q0 := y5.look 0 rfl
                          have q1 := y5.look 1 rfl
                          have q2 := y5.look 2 rfl
                          have f0 := y5.frozen
                          (refine walkV_bt rfl (fun K hK => ?_); go_simp; refine hK _ _ ?_; clear hK K)
                          refine walkV_nil ?_
                          clear q0 q1 q2 f0
                          have ky := ((y5.set 0 (.int .i64 yw)).set 1 (.int .i64 yc)).set 2 (.int .i64 yd)
                          have kr5 := (((kr4.below hb4).other (p := ⟨V, 0, none⟩) (by show R ≠ V; omega) (.int .i64 yw)).other (p := ⟨V, 1, none⟩) (by show R ≠ V; omega) (.int .i64 yc)).other (p := ⟨V, 2, none⟩) (by show R ≠ V; omega) (.int .i64 yd)
                          have kM5 := (((kM4.below hb4).other (p := ⟨V, 0, none⟩) (by show B ≠ V; omega) (.int .i64 yw)).other (p := ⟨V, 1, none⟩) (by show B ≠ V; omega) (.int .i64 yc)).other (p := ⟨V, 2, none⟩) (by show B ≠ V; omega) (.int .i64 yd)
                          have kX5 := (((kX4.below hb4).other (p := ⟨V, 0, none⟩) (by show D ≠ V; omega) (.int .i64 yw)).other (p := ⟨V, 1, none⟩) (by show D ≠ V; omega) (.int .i64 yc)).other (p := ⟨V, 2, none⟩) (by show D ≠ V; omega) (.int .i64 yd)
                          have bX5 := (((bX4.trans (hb4.mono (by omega))).setCell (p := ⟨V, 0, none⟩) (by show B ≤ V; omega) (.int .i64 yw)).setCell (p := ⟨V, 1, none⟩) (by show B ≤ V; omega) (.int .i64 yc)).setCell (p := ⟨V, 2, none⟩) (by show B ≤ V; omega) (.int .i64 yd)
                          obtain ⟨W5, hW5⟩ : ∃ W5, ((u1.setCell ⟨V, 0, none⟩ (.int .i64 yw)).setCell ⟨V, 1, none⟩ (.int .i64 yc)).setCell ⟨V, 2, none⟩ (.int .i64 yd) = W5 := ⟨_, rfl⟩
                          rw [hW5] at ky kr5 kM5 kX5 bX5 ⊢
                          clear hW5 hb4 hs4 y4 y5 kr4 kM4 kX4 bX4 HS3 HS4 HV hs3
                          obtain ⟨yo, hyo⟩ : ∃ z, (Y a C).w = z := ⟨_, rfl⟩
                          have HYO := hid hyo
                          clear hyo
                          go_wp2_with fail
                          obtain ⟨W6, hW6⟩ : ∃ W6, W5.drew = W6 := ⟨_, rfl⟩
                          have hs6 : W5.heap.size = W6.heap.size := by rw [← hW6]; rfl
                          have HS6 := hid hs6
                          have kr6 := kr5.drew
                          have kM6 := kM5.drew
                          have kX6 := kX5.drew
                          have ky6 := ky.drew
                          have bX6 := bX5.drew
                          rw [hW6] at kr6 kM6 kX6 ky6 bX6
                          clear kr5 kM5 kX5 ky bX5 hs6
                          have z0 := fun x : SubT (Below W5.heap.size) W6 => (ky6.below (x.b.mono (Nat.le_of_eq HS6.out.symm))).look 0 rfl
                          have z1 := fun x : SubT (Below W5.heap.size) W6 => (kr6.below (x.b.mono (Nat.le_of_eq HS6.out.symm))).look 1 rfl
                          have z2 := fun x : SubT (Below W5.heap.size) W6 => ((kX6.below (x.b.mono (Nat.le_of_eq HS6.out.symm))).look _ (wArr_w Y ha16 hC16)).trans (congrArg (fun z => some (Value.int .i64 z)) HYO.out)
                          refine wp_walkV (T := Below (W5.heap.size)) (belowV_pre _) (.rd 0 (.rd 1 (.rd 2 (.rd 3 (.rd 4 (.rd 5 (.rd 6 (.rd 7 (.rd 8 (.rd 9 .nil)))))))))) (by kernel_rfl) rfl rfl (by kernel_rfl) (by kernel_rfl) ?_
                          rw [hW6]
                          iterate 10 (refine walkV_rd rfl (fun K hK => ?_); go_simp; refine hK _ ?_; clear hK K)
                          clear z0 z1 z2 hW6
                          refine walkV_nil ?_
                          by_cases hlt : yo < yw
                          · go_wp2_with fail
                            obtain ⟨W7, hW7⟩ : ∃ W7, W6.drew = W7 := ⟨_, rfl⟩
                            have hs7 : W6.heap.size = W7.heap.size := by rw [← hW7]; rfl
                            have HS7 := hid hs7
                            have kr7 := kr6.drew
                            have kM7 := kM6.drew
                            have kX7 := kX6.drew
                            have ky7 := ky6.drew
                            have bX7 := bX6.drew
                            rw [hW7] at kr7 kM7 kX7 ky7 bX7
                            clear kr6 kM6 kX6 ky6 bX6 hs7
                            have z0 := fun x : SubT (Below W6.heap.size) W7 => (ky7.below (x.b.mono (Nat.le_of_eq HS7.out.symm))).look 0 rfl
                            have z1 := fun x : SubT (Below W6.heap.size) W7 => (ky7.below (x.b.mono (Nat.le_of_eq HS7.out.symm))).look 1 rfl
                            have z2 := fun x : SubT (Below W6.heap.size) W7 => (ky7.below (x.b.mono (Nat.le_of_eq HS7.out.symm))).look 2 rfl
                            have z3 := fun x : SubT (Below W6.heap.size) W7 => (kr7.below (x.b.mono (Nat.le_of_eq HS7.out.symm))).look 1 rfl
                            refine wp_walkV (T := Below (W6.heap.size)) (belowV_pre _) (.rd 0 (.rd 1 (.rd 2 (.rd 3 (.rd 4 (.rd 5 (.bt 6 .nil))))))) (by kernel_rfl) rfl rfl (by kernel_rfl) (by kernel_rfl) ?_
                            rw [hW7]
                            iterate 6 (refine walkV_rd rfl (fun K hK => ?_); go_simp; refine hK _ ?_; clear hK K)
                            clear z0 z1 z2 z3 hW7
                            have f0 := kX7.frozen
                            have q0 := kX7.look _ (wArr_w Y ha16 hC16)
                            have q1 := kX7.look _ (wArr_c Y ha16 hC16)
                            have q2 := kX7.look _ (wArr_d Y ha16 hC16)
                            (refine walkV_bt rfl (fun K hK => ?_); go_simp; refine hK _ _ ?_; clear hK K)
                            refine walkV_nil ?_
                            clear f0 q0 q1 q2
                            have hrow := HROW3.out
                            rw [if_pos (by rw [HYO.out]; exact hlt)] at hrow
                            have HROW4 := hid hrow
                            have kX8 := ((kX7.set (a * 48 + C * 3) (.int .i64 yw)).set (a * 48 + C * 3 + 1) (.int .i64 yc)).set (a * 48 + C * 3 + 2) (.int .i64 yd)
                            rw [wArr_set3 Y hC16 ⟨yw, yc, yd⟩] at kX8
                            have kM8 := ((kM7.other (p := ⟨D, a * 48 + C * 3, none⟩) (by show B ≠ D; omega) (.int .i64 yw)).other (p := ⟨D, a * 48 + C * 3 + 1, none⟩) (by show B ≠ D; omega) (.int .i64 yc)).other (p := ⟨D, a * 48 + C * 3 + 2, none⟩) (by show B ≠ D; omega) (.int .i64 yd)
                            have bX8 := ((bX7.setCell (p := ⟨D, a * 48 + C * 3, none⟩) (by show B ≤ D; omega) (.int .i64 yw)).setCell (p := ⟨D, a * 48 + C * 3 + 1, none⟩) (by show B ≤ D; omega) (.int .i64 yc)).setCell (p := ⟨D, a * 48 + C * 3 + 2, none⟩) (by show B ≤ D; omega) (.int .i64 yd)
                            clear hrow
                            go_wp2
                            go_roundw
                            case rel => exact ⟨j + 1, by go_num, by omega, _, HROW4, kM8, kX8, bX8⟩
                            case measure => simp [intOf]; omega
                          · have hrow := HROW3.out
                            rw [if_neg (by rw [HYO.out]; exact hlt)] at hrow
                            have HROW4 := hid hrow
                            clear hrow
                            go_wp2
                            go_roundw
                            case rel => exact ⟨j + 1, by go_num, by omega, Y, HROW4, kM6, kX6, bX6⟩
                            case measure => simp [intOf]; omega
                    · obtain rfl : j = E := by omega
                      have hpa := row_end (by rw [HE.out]; exact HROW2.out)
                      have hbest := hpa.1 a a (Nat.lt_succ_self a) haN0
                      have ha16 : a < 16 := by omega
                      have haI : (a : Int) < 16 := by omega
                      obtain ⟨yo, hyo⟩ : ∃ z, (Y a a).w = z := ⟨_, rfl⟩
                      have c0 := (kX.look _ (wArr_w Y ha16 ha16)).trans (congrArg (fun z => some (Value.int .i64 z)) hyo)
                      by_cases hpos : 0 < yo
                      · have HBAD := hid (bad_here HS.out (by omega) hbest (by rw [hyo]; exact hpos))
                        clear hpa hbest hyo
                        go_wp2_with fail
                        clear c0
                        obtain ⟨W6, hW6⟩ : ∃ W6, wr.drew = W6 := ⟨_, rfl⟩
                        have hs6 : wr.heap.size = W6.heap.size := by rw [← hW6]; rfl
                        have HS6 := hid hs6
                        have kX6 := kX.drew
                        have bX6 := bX.drew
                        rw [hW6] at kX6 bX6
                        clear hs6 kM kX bX
                        have z1 := fun x : SubT (Below wr.heap.size) W6 => (kX6.below (x.b.mono (Nat.le_of_eq HS6.out.symm))).look _ (wArr_c Y ha16 ha16)
                        have z2 := fun x : SubT (Below wr.heap.size) W6 => (kX6.below (x.b.mono (Nat.le_of_eq HS6.out.symm))).look _ (wArr_d Y ha16 ha16)
                        refine wp_walkV (T := Below (wr.heap.size)) (belowV_pre _) (.rd 0 (.rd 1 (.rd 2 (.rd 3 (.rd 4 (.rd 5 (.rd 6 (.rd 7 (.rd 8 (.rd 9 (.rd 10 (.rd 11 (.rd 12 (.rd 13 (.rd 14 .nil))))))))))))))) (by kernel_rfl) rfl rfl (by kernel_rfl) (by kernel_rfl) ?_
                        rw [hW6]
                        iterate 15 (refine walkV_rd rfl (fun K hK => ?_); go_simp; refine hK _ ?_; clear hK K)
                        clear z1 z2 hW6
                        refine walkV_nil ?_
                        go_wp2
                        refine bodyPost_ret (v := .tuple #[.int .i64 (Y a a).c, .int .i64 (Y a a).d, .bool true]) ?_ rfl ⟨⟨_, _, _, rfl, .inl ⟨rfl, HBAD.out⟩⟩, fin.out _ (hb1.trans (bX6.mono hsB))⟩
                        simp [results, Try.results92, go_sem]
                      · have HNA3 := hid (npa_step hbest (by rw [hyo]; exact hpos) HNA2.out)
                        have HPA := hid hpa
                        clear hpa hbest hyo
                        go_wp2
                        go_roundw
                        case rel => exact ⟨a + 1, by go_num, by omega, Y, HPA, HNA3, kM, kX, bX⟩
                        case measure => simp [intOf]; omega
                · obtain rfl : a = N := by omega
                  have HNOW3 := hid (pass_end (p := p) (by rw [HN0.out]; exact HPASS2.out))
                  have HNP3 := hid (np_step HP.out HNP2.out (by rw [HN0.out]; exact HNA2.out))
                  go_wp2_with (first
                    | (refine wpList_load_row rfl 155 (.tmp 12) rfl D rfl 155 (wArr X) (0, 0) _ kX3 Try.underlying155 rfl (w_info _) ?_)
                    | (refine wpList_store_row rfl 155 (.tmp 9) (.tmp 134) rfl B (wArr X) rfl rfl 155 (wArr M) kM3 (w_info _) ?_ (w_one _) ?_))
                  · rw [wArr_size, wArr_size]
                  · go_roundw
                    case rel => exact ⟨k + 1, by go_num, by omega, X, HNOW3, HNP3, setRow_blk kM3, setRow_below bX3 (Nat.le_refl B) _⟩
                    case measure => simp [intOf]; omega
        · obtain rfl : k = N := by omega
          have HF := hid (feas_here HP.out HS.out (by rw [HN0.out]; exact HNP2.out))
          go_wp2
          refine bodyPost_ret (v := .tuple #[.int .i64 0, .int .i64 0, .bool false]) ?_ rfl ⟨⟨_, _, _, rfl, .inr ⟨rfl, HF.out⟩⟩, fin.out _ (hb1.trans (bM.mono hsB))⟩
          simp [results, Try.results92, go_sem]

end Go.Proofs.Ytmknengmjepdaaa
