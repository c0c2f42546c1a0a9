/- Walk of tranklaw04.GradeCored. -/
import Derived.Test.YtmknengmjepdaaaLm
import Derived.Test.YtmknengmjepdaaaWi
namespace Go.Proofs.Ytmknengmjepdaaa
open Go.RowKit
attribute [local irreducible] seqS seqST walkV walkJ

set_option maxHeartbeats 8000000 in
set_option maxRecDepth 100000 in
theorem GradeCored_any (p : Pat) (n d : Int) (v : Value) (w : World) (h : PatF 0 w v p) :
    Calls Try.prog 20 #[v, .agg #[.int .i64 n, .int .i64 d]] w fun e w' => e = .returned (.bool true) ∧ Below w.heap.size w w' := by
  obtain ⟨ao, cap, rfl, hcap, hmax, hc⟩ := h.shape
  unfold maxLen at hmax
  have GI := hid (fun v w hv => gCore_any (p71 p) n d v w hv)
  rw [rLeastE71, coreL71] at GI
  obtain ⟨LL, hbb⟩ : ∃ b, coreL p n d = b := ⟨_, rfl⟩
  obtain ⟨ee, hee⟩ : ∃ b, rLeastE p n d = b := ⟨_, rfl⟩
  rw [hbb, hee] at GI
  have HBB := hid hbb
  have HEE := hid hee
  clear hbb hee
  go_enter Try.func20, Try.ntmps20
  go_wp2_with fail
  obtain ⟨w0, hw0, k0, k1, hB, hsz⟩ := one_new w #[.int .i64 p.n, .slice ao p.rules.length cap] #[.int .i64 n, .int .i64 d] 24 26
  rw [hw0]
  clear hw0
  have h0 := h.below hB
  have hc0 := hid (hc.below hB)
  have hd := (Below.refl w0.heap.size w0).drew
  have z0 := fun x : SubT (Below w0.heap.size) w0.drew => (k0.below (hd.trans x.b)).look 0 rfl
  have z1 := fun x : SubT (Below w0.heap.size) w0.drew => (k0.below (hd.trans x.b)).look 1 rfl
  have z2 := fun x : SubT (Below w0.heap.size) w0.drew => (k1.below (hd.trans x.b)).look 0 rfl
  have z3 := fun x : SubT (Below w0.heap.size) w0.drew => (k1.below (hd.trans x.b)).look 1 rfl
  refine wp_walkJ (T := Below (w0.heap.size)) (belowV_pre _) (.rd 0 (.rd 2 (.mv 1 (.bt 3 (.rd 4 (.rd 5 (.rd 6 (.rd 7 (.rd 8 (.inv [])))))))))) (by kernel_rfl) rfl (by kernel_rfl) (by kernel_rfl) ?_
  iterate 2 (refine walkJ_rd rfl (fun K hK => ?_); go_simp; refine hK _ ?_; clear hK K)
  clear z0 z1 z2 z3
  (refine walkJ_mv rfl (fun K hK => ?_); go_simp; refine (of_any p _ _ (h0.below hd)).mono ?_; rintro e w1 ⟨v1, rfl, hv1, hb1⟩; refine ⟨_, rfl, hK _ _ hb1 ?_⟩; clear hK K)
  (refine walkJ_bt rfl (fun K hK => ?_); go_simp; refine (GI.out _ _ (hv1.mono (Nat.zero_le _))).mono ?_; rintro e w2 ⟨⟨vl, rfl, hvl⟩, hb2⟩; refine ⟨_, rfl, hK _ _ ?_⟩; clear hK K)
  iterate 5 (refine walkJ_rd rfl (fun K hK => ?_); go_simp; refine hK _ ?_; clear hK K)
  refine walkJ_nil ?_
  have hB2 : Below w0.heap.size w0 w2 := hd.trans (Below.trans hb1 (hb2.mono hb1.size))
  have k02 := k0.below hB2
  have k12 := k1.below hB2
  have h2 := h0.below hB2
  have c0 := k02.look 0 rfl
  have c1 := k02.look 1 rfl
  have c2 := k12.look 0 rfl
  have c3 := k12.look 1 rfl
  have HVL := hid hvl
  have hl1 := hb1.size
  have hl2 := hb2.size
  clear hvl hb1 hb2 hv1 hd h0 k0 k1
  go_wp2_with fail
  refine (Good_any p n d _ _ h2).mono ?_
  rintro e w3 ⟨rfl, hb3⟩
  clear c0 c1 c2 c3
  have hB3 : Below w.heap.size w w3 := hB.trans ((hB2.trans (hb3.mono hB2.size)).mono hB.size)
  by_cases hg : PValid p ∧ FSize n d
  case neg =>
    have hbb : (decide (PValid p) && decide (FSize n d)) = false := by rw [← Bool.decide_and]; exact decide_eq_false hg
    have hE2 : ee = 2 := by rw [← HEE.out]; exact leastE_two hbb
    rw [hbb, hE2]
    clear hbb hg
    go_wp2_with fail
    refine (awake_any _).mono ?_
    rintro e wz ⟨rfl, hbz⟩
    go_wp2
    go_ret
    exact ⟨rfl, hB3.trans (hbz.mono hB3.size)⟩
  obtain ⟨hpv, hfs⟩ := hg
  rw [decide_eq_true hpv, decide_eq_true hfs, Bool.and_self]
  cases hbad : chBad p n d with
  | true =>
    have hE2 : ee = 10 := by rw [← HEE.out, leastE_of hpv hfs, hbad]; rfl
    rw [hE2]
    clear hpv hfs hbad
    go_wp2_with fail
    refine (awake_any _).mono ?_
    rintro e wz ⟨rfl, hbz⟩
    go_wp2
    go_ret
    exact ⟨rfl, hB3.trans (hbz.mono hB3.size)⟩
  | false =>
    have hE2 : ee = 0 := by rw [← HEE.out, leastE_of hpv hfs, hbad]; rfl
    have hL2 : LL = (coreP n d p).2 := by rw [← HBB.out]; unfold coreL; rw [HEE.out, hE2]; rfl
    have C := cored_plain hpv hfs hbad
    rw [← hL2] at C
    obtain ⟨Q, hQ⟩ : ∃ Q, (coreP n d p).1 = Q := ⟨_, rfl⟩
    rw [hQ] at C
    have HC := hid C
    have HP := hid hpv
    have HF := hid hfs
    have h71 : p71 p = p := by rcases p71_cases p with h | ⟨h1, -⟩
                               · exact h
                               · exact absurd hpv h1
    have H71 := hid h71
    rw [hE2]
    obtain ⟨M, hM⟩ : ∃ M, LL.length = M := ⟨_, rfl⟩
    have HM := hid hM
    obtain ⟨L, hL⟩ : ∃ L, p.rules.length = L := ⟨_, rfl⟩
    have HL := hid hL
    have hL64 : L ≤ 64 := by rw [← hL]; exact hpv.2.2.1
    have hM64 : M ≤ 64 := by have := C.len; have := C.val.2.2.1; omega
    obtain ⟨al, cl, rfl, hcl, hml, hll⟩ := HVL.out
    unfold maxLen at hml
    rw [hM] at hcl HVL ⊢
    rw [hL] at k02 hcap
    have k03 := k02.below hb3
    have k13 := k12.below hb3
    have h3 := h2.below hb3
    rw [hL] at h3
    have HLC := hid (hll.below hb3)
    have HRC := hid ((hc0.out.below hB2).below hb3)
    clear hE2 hL2 C hQ hpv hfs h71 hM hL hll hbad h2 hc0
    have c0 := k03.look 0 rfl
    go_wp2_with fail
    clear c0
    have kH := Blk.new w3 #[.int .i64 p.n, .slice none 0 0] 33
    have hbH := alloc_below w3 (.cells #[.int .i64 p.n, .slice none 0 0] 33)
    obtain ⟨H, hH⟩ : ∃ H, w3.heap.size = H := ⟨_, rfl⟩
    obtain ⟨w4, hw4⟩ : ∃ w4, w3.alloc (.cells #[.int .i64 p.n, .slice none 0 0] 33) = w4 := ⟨_, rfl⟩
    rw [hw4] at kH hbH ⊢
    rw [hH] at kH hbH ⊢
    have HHH := hid hH
    have hs4 : H + 1 ≤ w4.heap.size := kH.lt
    have hSH : w.heap.size + 1 < H := by have := k13.lt; omega
    clear hH hw4
    go_loopw [41] (fun x wr => ∃ (i : Nat) (vq : Value), x = .int .i64 i ∧ i ≤ M ∧ Blk wr H #[.int .i64 p.n, vq] 33 ∧ wr.ownsRow (H + 1) 92 4 vq i (ruCells (Q.rules.take i)) ∧ Below H w3 wr ∧ H + 1 ≤ wr.heap.size) (fun x _ => M - (intOf x).toNat)
    case atStart => exact ⟨0, _, rfl, Nat.zero_le _, kH, World.ownsRow_nil _ _ _ _, hbH, hs4⟩
    case round =>
      obtain ⟨i, vq, rfl, hi, kq, hown, hbel, hs5⟩ := hrel
      clear kH hbH hs4
      have kSr := k03.below' hbel (by omega)
      have kFr := k13.below' hbel (by omega)
      have c0 := kq.look 0 rfl
      have c1 := kq.look 1 rfl
      have f0 := kq.frozen
      have e8 := kSr.look 0 rfl
      have e9 := kSr.look 1 rfl
      by_cases hiM : i < M
      · have hiM2 : (i : Int) < (M : Int) := by omega
        obtain ⟨m, hm1, hm2, hm3⟩ := HC.out.get i (by rw [HM.out]; exact hiM)
        rw [HL.out] at hm2
        obtain ⟨r, hr⟩ := ex_rule (l := p.rules) (i := m) (by rw [HL.out]; exact hm2)
        obtain ⟨b, off, rfl, hb, d0, d1, d2, d3⟩ := ru_cell HRC.out hr
        obtain ⟨b2, off2, rfl, hb2, x0⟩ := int_cell HLC.out hm1
        have HRR := hid (hm3.trans hr)
        have e0 := (hbel.cell (p := ⟨b, off + m * 4, none⟩) (by rw [← HHH.out]; exact hb)).trans d0
        have e1 := (hbel.cell (p := ⟨b, off + m * 4 + 1, none⟩) (by rw [← HHH.out]; exact hb)).trans d1
        have e2 := (hbel.cell (p := ⟨b, off + m * 4 + 2, none⟩) (by rw [← HHH.out]; exact hb)).trans d2
        have e3 := (hbel.cell (p := ⟨b, off + m * 4 + 3, none⟩) (by rw [← HHH.out]; exact hb)).trans d3
        have e4 := (hbel.cell (p := ⟨b2, off2 + i, none⟩) (by rw [← HHH.out]; exact hb2)).trans x0
        have hmL : (m : Int) < (L : Int) := by omega
        have hm0 : ¬ (m : Int) < 0 := by omega
        have hmL2 : ¬ (L : Int) ≤ (m : Int) := by omega
        obtain ⟨ra, rb, rc, rd⟩ := r
        dsimp only at e0 e1 e2 e3
        have HM1 := hid hm1
        clear d0 d1 d2 d3 x0 hr hm1 hm3
        have hlt : H < wr.heap.size := by omega
        by_cases hi0 : 0 < (i : Int)
        · obtain ⟨m', hm1', hm2', -⟩ := HC.out.get (i - 1) (by rw [HM.out]; omega)
          obtain ⟨b3, off3, he3, hb3', x1⟩ := int_cell HLC.out hm1'
          cases he3
          have e5 := (hbel.cell (p := ⟨b2, off2 + (i - 1), none⟩) (by rw [← HHH.out]; exact hb3')).trans x1
          have hinc := HC.out.inc (i - 1) m' m hm1' (by rw [show i - 1 + 1 = i by omega]; exact HM1.out)
          have hmm : ¬ (m : Int) ≤ (m' : Int) := by omega
          have wK : IntKind.i64.wrap ((i : Int) - 1) = ((i - 1 : Nat) : Int) := by rw [IntWalk.i64_left]; unfold wrap64; omega
          have hi1 : ((i - 1 : Nat) : Int) < (M : Int) := by omega
          clear x1 hm1' hinc
          go_wp2_with (at_builtin; refine wpList_appH rfl (.tmp 74) (.tmp 84) _ rfl (H + 1) 92 (.agg #[.int .i64 0, .int .i64 0, .int .i64 0, .int .i64 0]) 4 32 Try.underlying31 infoRule rfl (by decide) 92 _ _ _ rfl (hown.alloc _) [.int .i64 ra, .int .i64 rb, .int .i64 rc, .int .i64 rd] (wr.heap.size + 1) (World.size_alloc _ _) rfl rfl (by simp [Value.oneCell']) (by unfold maxLen; omega) (by omega) (by simp; omega) ?_; intro g gcap w5 hown2 hb5 _ _ _; have kq2 := (kq.alloc (.cells #[.int .i64 ra, .int .i64 rb, .int .i64 rc, .int .i64 rd] 46)).below' hb5 (Nat.lt_succ_self _); have cc1 := kq2.look 1 rfl; have ff := kq2.frozen)
          have hba : Below H w3 w5 := (hbel.alloc (by omega) (.cells #[.int .i64 ra, .int .i64 rb, .int .i64 rc, .int .i64 rd] 46)).trans (hb5.mono (Nat.le_succ H))
          have hs6 := hb5.size
          rw [World.size_alloc] at hs6
          go_roundw
          case rel =>
            exact ⟨i + 1, _, by go_num, by omega, kq2.set 1 _, ownsRow_setCell_below (by rw [ru_snoc HRR.out]; exact hown2) (Nat.lt_succ_self _) _, hba.setCell (Nat.le_refl _) _, by simp [World.setCell]; omega⟩
          case measure => simp [intOf]; omega
        · skip
          go_wp2_with (at_builtin; refine wpList_appH rfl (.tmp 74) (.tmp 84) _ rfl (H + 1) 92 (.agg #[.int .i64 0, .int .i64 0, .int .i64 0, .int .i64 0]) 4 32 Try.underlying31 infoRule rfl (by decide) 92 _ _ _ rfl (hown.alloc _) [.int .i64 ra, .int .i64 rb, .int .i64 rc, .int .i64 rd] (wr.heap.size + 1) (World.size_alloc _ _) rfl rfl (by simp [Value.oneCell']) (by unfold maxLen; omega) (by omega) (by simp; omega) ?_; intro g gcap w5 hown2 hb5 _ _ _; have kq2 := (kq.alloc (.cells #[.int .i64 ra, .int .i64 rb, .int .i64 rc, .int .i64 rd] 46)).below' hb5 (Nat.lt_succ_self _); have cc1 := kq2.look 1 rfl; have ff := kq2.frozen)
          have hba : Below H w3 w5 := (hbel.alloc (by omega) (.cells #[.int .i64 ra, .int .i64 rb, .int .i64 rc, .int .i64 rd] 46)).trans (hb5.mono (Nat.le_succ H))
          have hs6 := hb5.size
          rw [World.size_alloc] at hs6
          go_roundw
          case rel =>
            exact ⟨i + 1, _, by go_num, by omega, kq2.set 1 _, ownsRow_setCell_below (by rw [ru_snoc HRR.out]; exact hown2) (Nat.lt_succ_self _) _, hba.setCell (Nat.le_refl _) _, by simp [World.setCell]; omega⟩
          case measure => simp [intOf]; omega
      · obtain rfl : M = i := by omega
        have hiM2 : ¬ (M : Int) < (M : Int) := by omega
        have hQ : Q.rules.take M = Q.rules := List.take_of_length_le (by rw [HC.out.len, HM.out]; exact Nat.le_refl _)
        rw [hQ] at hown
        obtain ⟨vo, vcap, rfl, hvc, hvm, hvl⟩ := SlR.of_owns hown
        have hQL : Q.rules.length = M := by rw [HC.out.len, HM.out]
        have hqp : PatF 0 wr (.agg #[.int .i64 p.n, .slice vo M vcap]) Q := by
          rw [← HC.out.nn]
          refine ⟨_, rfl, ?_⟩
          rw [hQL]
          exact ⟨_, _, rfl, hvc, hvm, CellsOf.mono hvl (Nat.zero_le _)⟩
        have hpp : PatF 0 wr (.agg #[.int .i64 p.n, .slice ao L cap]) p := h3.below (by rw [HHH.out]; exact hbel)
        have HQP := hid hqp
        have HPP := hid hpp
        have hbw : Below w.heap.size w wr := hB3.trans (hbel.mono (by omega))
        have hQ3 := HC.out
        have EQ := hid (fun v u w hv hu => gEqual_any p Q n d v u w hv hu)
        rw [hQ3.eqe, hQ3.eqb] at EQ
        have IM := hid (fun (k : Nat) (hk : k < M) (v : Value) (w : World) hv => by
          have := gImplied_any Q n d k v w hv
          rw [(hQ3.imp k (by rw [hQL]; exact hk)).1, (hQ3.imp k (by rw [hQL]; exact hk)).2] at this
          exact this)
        have h71 := H71.out
        clear hvc hvl hqp hpp hQL hQ hQ3 hown hbel hi hiM e8 e9 h3 h hc hB hsz hB2 k12 hl1 hl2 hb3 k02 hcl
        go_wp2_with fail
        have hd := (Below.refl wr.heap.size wr).drew
        have z0 := fun x : SubT (Below wr.heap.size) wr.drew => (kSr.below (hd.trans x.b)).look 0 rfl
        have z1 := fun x : SubT (Below wr.heap.size) wr.drew => (kSr.below (hd.trans x.b)).look 1 rfl
        have z2 := fun x : SubT (Below wr.heap.size) wr.drew => (kFr.below (hd.trans x.b)).look 0 rfl
        have z3 := fun x : SubT (Below wr.heap.size) wr.drew => (kFr.below (hd.trans x.b)).look 1 rfl
        have z4 := fun x : SubT (Below wr.heap.size) wr.drew => (kq.below (hd.trans x.b)).look 0 rfl
        have z5 := fun x : SubT (Below wr.heap.size) wr.drew => (kq.below (hd.trans x.b)).look 1 rfl
        refine wp_walkJ (T := Below (wr.heap.size)) (belowV_pre _) (.rd 0 (.rd 2 (.rd 3 (.mv 1 (.bt 4 (.rd 5 (.rd 6 (.rd 7 (.rd 8 (.rd 9 (.inv []))))))))))) (by kernel_rfl) rfl (by kernel_rfl) (by kernel_rfl) ?_
        iterate 3 (refine walkJ_rd rfl (fun K hK => ?_); go_simp; refine hK _ ?_; clear hK K)
        clear z0 z1 z2 z3 z4 z5
        (refine walkJ_mv rfl (fun K hK => ?_); go_simp; refine (of_any p _ _ (HPP.out.below hd)).mono ?_; rintro e w5 ⟨v5, rfl, hv5, hb5⟩; refine ⟨_, rfl, hK _ _ hb5 ?_⟩; clear hK K)
        have hv5 : PatF wr.drew.heap.size w5 v5 (p71 p) := hv5
        rw [h71] at hv5
        (refine walkJ_bt rfl (fun K hK => ?_); go_simp; refine (EQ.out _ _ _ (hv5.mono (Nat.zero_le _)) ((HQP.out.below hd).below hb5)).mono ?_; rintro e w6 ⟨rfl, hb6⟩; refine ⟨_, rfl, hK _ _ ?_⟩; clear hK K)
        iterate 5 (refine walkJ_rd rfl (fun K hK => ?_); go_simp; refine hK _ ?_; clear hK K)
        refine walkJ_nil ?_
        have hb56 : Below wr.heap.size wr w6 := hd.trans (Below.trans hb5 (hb6.mono hb5.size))
        have kq6 := kq.below hb56
        have kF6 := kFr.below hb56
        have hq6 := hid (HQP.out.below hb56)
        have hbw6 := hbw.trans (hb56.mono hbw.size)
        clear hd hb5 hb6 hv5 hb56 kSr kFr kq c0 c1 f0
        have c1 := kq6.look 1 rfl
        go_wp2_with fail
        clear c1
        go_loopw [105] (fun x wr => ∃ i : Nat, x = .int .i64 i ∧ i ≤ M ∧ Below w6.heap.size w6 wr) (fun x _ => M - (intOf x).toNat)
        case atStart => exact ⟨0, rfl, Nat.zero_le _, Below.refl _ _⟩
        case round =>
          obtain ⟨i, rfl, hi, hbel⟩ := hrel
          by_cases hiM : i < M
          · have hiM2 : (i : Int) < (M : Int) := by omega
            have c0 := (kq6.below hbel).look 0 rfl
            have c1 := (kq6.below hbel).look 1 rfl
            have c2 := (kF6.below hbel).look 0 rfl
            have c3 := (kF6.below hbel).look 1 rfl
            go_wp2_with fail
            refine (IM.out i hiM _ _ (hq6.out.below hbel)).mono ?_
            rintro e w7 ⟨rfl, hb7⟩
            go_wp2
            exact ⟨⟨i + 1, by go_num, by omega, hbel.trans (hb7.mono hbel.size)⟩, by simp [intOf]; omega⟩
          · obtain rfl : M = i := by omega
            have hiM2 : ¬ (M : Int) < (M : Int) := by omega
            have hB7 := hbw6.trans (hbel.mono hbw6.size)
            go_wp2_with fail
            refine (awake_any _).mono ?_
            rintro e wz ⟨rfl, hbz⟩
            go_wp2
            go_ret
            exact ⟨rfl, hB7.trans (hbz.mono hB7.size)⟩

end Go.Proofs.Ytmknengmjepdaaa
