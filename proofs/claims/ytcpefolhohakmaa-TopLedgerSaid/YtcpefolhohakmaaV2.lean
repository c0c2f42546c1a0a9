/- The counts of a book: arrays of 256 numbers; the walk of 'with'. -/
import Derived.Test.YtcpefolhohakmaaV1
import Derived.Deep.WholeRow
import Derived.Deep.MidRow
namespace Go.Proofs.Ytcpefolhohakmaa
open Go.RowKit
attribute [local irreducible] seqS seqST walkV walkJ

/-- The cells of counts. -/
def CA (c : List Int) : Array Value := arr 256 fun k => .int .i64 (c.getD k 0)
theorem CA_size (c : List Int) : (CA c).size = 256 := arr_size _ _
theorem CA_get (c : List Int) {k : Nat} (h : k < 256) : (CA c)[k]? = some (.int .i64 (c.getD k 0)) := arr_get _ h
theorem CA_add {c : List Int} (hc : c.length = 256) {k : Nat} (hk : k < 256) (z : Int) : (CA c).setIfInBounds k (.int .i64 (c.getD k 0 + z)) = CA (addAt c k z) := by
  unfold CA
  rw [arr_set]
  refine arr_congr fun j hj => ?_
  rw [addAt_get _ _ _ _ (by omega)]
  by_cases e : j = k
  · rw [if_pos e, if_pos e, e]
  · rw [if_neg e, if_neg e, Int.add_zero]
theorem infoCnt : (Try.prog.info? 98).map (fun i => (i.zero, i.size)) = some (some (.agg (CA [])), 256) := by kernel_rfl
theorem CA_info (c : List Int) : (Try.prog.info? 98).map (·.size) = some (CA c).size := by
  rw [CA_size]; exact (zero_of_info infoCnt).2
theorem arr_one {n : Nat} {f : Nat → Value} (h : ∀ i, (f i).oneCell' = true) : (arr n f).all (·.oneCell') = true := by
  rw [Array.all_eq_true_iff_forall_mem]
  intro v hv
  unfold arr at hv
  rw [List.mem_toArray, List.mem_map] at hv
  obtain ⟨i, _, rfl⟩ := hv
  exact h i
theorem CA_one (c : List Int) : (CA c).all (·.oneCell') = true := arr_one (fun _ => rfl)
theorem putL_step (c : List Int) (l : List Tr) {k : Nat} (h : k < l.length) : putL c (l.take (k + 1)) = putT (putL c (l.take k)) (l.getD k ⟨0, 0, 0, 0⟩) := by
  rw [List.take_succ_eq_append_getElem h, putL_snoc, List.getD_eq_getElem?_getD, List.getElem?_eq_getElem h]; rfl

theorem wrap_id {z : Int} (h1 : -9223372036854775808 ≤ z) (h2 : z < 9223372036854775808) : IntKind.i64.wrap z = z := by
  rcases Int.le_total 0 z with h | h
  · have := Go.Lib.wrap_i64_small z.toNat (by omega)
    rwa [Int.toNat_of_nonneg h] at this
  · by_cases h0 : z = 0
    · subst h0; rfl
    have e : z % 2 ^ 64 = z + 2 ^ 64 := by omega
    simp only [IntKind.wrap, IntKind.bits, IntKind.signed, e]
    rw [if_pos]
    · omega
    · simp; omega
set_option maxHeartbeats 4000000 in
set_option maxRecDepth 100000 in
theorem with_any (c : List Int) (l : List Tr) (v : Value) (w : World) (h : TsR 0 w v l) (hl : ∀ t ∈ l, t.Ok) (hn : l.length ≤ 16) (hc : c.length = 256) (hb : ∀ k, k < 256 → -1000000000 ≤ c.getD k 0 ∧ c.getD k 0 ≤ 1000000000) :
    Calls Try.prog 49 #[.agg (CA c), v] w fun r w' => r = .returned (.agg (CA (putL c l))) ∧ Below w.heap.size w w' := by
  obtain ⟨ao, cap, rfl, hcap, hmax, hcs⟩ := h
  unfold maxLen at hmax
  have HC := hid hcs
  obtain ⟨n, hnn⟩ : ∃ n, l.length = n := ⟨_, rfl⟩
  have HN := hid hnn
  rw [hnn] at hcap hn ⊢
  have HLO := hid hl
  have HCL := hid hc
  have HBD := hid hb
  obtain ⟨Z, hZ⟩ : ∃ Z, CA [] = Z := ⟨_, rfl⟩
  have hz := (zero_of_info infoCnt).1
  rw [hZ] at hz
  obtain ⟨A0, hA0⟩ : ∃ Z, CA c = Z := ⟨_, rfl⟩
  rw [hA0]
  have kA := (Blk.new w A0 98).alloc (.cells Z 98)
  have kZ := Blk.new (w.alloc (.cells A0 98)) Z 98
  have bZ := ((Below.refl w.heap.size w).alloc (Nat.le_refl _) (.cells A0 98)).alloc (by simp) (.cells Z 98)
  rw [World.size_alloc] at kZ
  have hZs : Hid (Z.size = 256) := hid (by rw [← hZ, CA_size])
  clear hcs hnn hl hc hb hZ
  go_enter Try.func49, Try.ntmps49
  go_wp2_with fail
  obtain ⟨B, hB⟩ : ∃ B, w.heap.size = B := ⟨_, rfl⟩
  have HB := hid hB
  rw [hB] at kA kZ bZ ⊢
  generalize (w.alloc (.cells A0 98)).alloc (.cells Z 98) = w0 at kA kZ bZ ⊢
  clear hB
  go_loopw [6, 9] (fun _ z wr => ∃ k : Nat, z = .int .i64 (k : Int) ∧ k ≤ n ∧ Hid (Blk wr B (CA (putL c (l.take k))) 98) ∧ Hid (Blk wr (B + 1) Z 98) ∧ Hid (Below B w wr)) (fun _ z _ => n - (intOf z).toNat)
  case atStart => exact ⟨0, rfl, Nat.zero_le _, hid (by rw [List.take_zero]; show Blk _ _ (CA c) _; rw [hA0]; exact kA), hid kZ, hid bZ⟩
  case round =>
    obtain ⟨k, rfl, hk, KA, KZ, HBE⟩ := hrel
    clear kA kZ bZ
    by_cases hkn : k < n
    case neg =>
      obtain rfl : n = k := by omega
      have hk2 : ¬ (n : Int) < (n : Int) := by omega
      have htk : l.take n = l := List.take_of_length_le (by rw [HN.out]; exact Nat.le_refl _)
      rw [htk] at KA
      obtain ⟨F, hF⟩ : ∃ F, putL c l = F := ⟨_, rfl⟩
      rw [hF] at KA
      have HF := hid hF
      clear hF
      have hne : B + 1 ≠ B := by omega
      have KF := hid (row_blk (cs' := CA F) KZ.out)
      have HBF := hid (row_below HBE.out (show B ≤ B + 1 by omega) (CA F))
      go_wp2_with (first
        | (refine wpList_load_row rfl 98 (.tmp 2) rfl B rfl 98 (CA F) (0, 0) _ KA.out Try.underlying98 rfl (CA_info _) ?_)
        | (refine wpList_store_row rfl 98 (.tmp 4) (.tmp 38) rfl (B + 1) (CA F) rfl rfl 98 Z KZ.out (CA_info _) (by rw [hZs.out, CA_size]) (CA_one _) ?_))
      refine bodyPost_ret (results_cell_row Try.results49 _ _ (B + 1) 98 (CA F) (0, 0) _ rfl KF.out Try.underlying98 rfl (CA_info _)) rfl ?_
      rw [HB.out, HF.out]
      exact ⟨rfl, HBF.out⟩
    case pos =>
      have hk2 : (k : Int) < (n : Int) := by omega
      obtain ⟨g, off, rfl, hg, x0, x1, x2, x3⟩ := tr_cell HC.out (show k < l.length by rw [HN.out]; exact hkn)
      have hst := putL_step c l (show k < l.length by rw [HN.out]; exact hkn)
      have hok : (l.getD k ⟨0, 0, 0, 0⟩).Ok := HLO.out _ (by
        rw [List.getD_eq_getElem?_getD, List.getElem?_eq_getElem (by rw [HN.out]; exact hkn)]
        exact List.getElem_mem _)
      obtain ⟨t, ht⟩ : ∃ t, l.getD k ⟨0, 0, 0, 0⟩ = t := ⟨_, rfl⟩
      rw [ht] at x0 x1 x2 x3 hst hok
      rw [HB.out] at hg
      replace x0 := (HBE.out.cell (p := ⟨g, off + k * 4, none⟩) hg).trans x0
      replace x1 := (HBE.out.cell (p := ⟨g, off + k * 4 + 1, none⟩) hg).trans x1
      replace x2 := (HBE.out.cell (p := ⟨g, off + k * 4 + 2, none⟩) hg).trans x2
      replace x3 := (HBE.out.cell (p := ⟨g, off + k * 4 + 3, none⟩) hg).trans x3
      have hbd := putL_bd (l.take k) (fun t h => HLO.out t (List.mem_of_mem_take h)) c HCL.out
      have hlk : (l.take k).length ≤ 16 := by rw [List.length_take]; omega
      obtain ⟨C, hC⟩ : ∃ C, putL c (l.take k) = C := ⟨_, rfl⟩
      have hCl : C.length = 256 := by rw [← hC, putL_length]; exact HCL.out
      rw [hC] at KA hst hbd
      clear ht hC
      obtain ⟨ti, ts, td, tn⟩ := t
      obtain ⟨⟨a1, a2⟩, ⟨b1, b2⟩, ⟨c1, c2⟩, hsd, d1, d2⟩ := hok
      simp only at x0 x1 x2 x3 a1 a2 b1 b2 c1 c2 hsd d1 d2
      obtain ⟨i, rfl⟩ : ∃ i : Nat, ti = i := ⟨ti.toNat, by omega⟩
      obtain ⟨sr, rfl⟩ : ∃ i : Nat, ts = i := ⟨ts.toNat, by omega⟩
      obtain ⟨de, rfl⟩ : ∃ i : Nat, td = i := ⟨td.toNat, by omega⟩
      obtain ⟨N, rfl⟩ : ∃ i : Nat, tn = i := ⟨tn.toNat, by omega⟩
      have hs1 : sr * 16 + i < 256 := by omega
      have hs2 : de * 16 + i < 256 := by omega
      have hne : sr * 16 + i ≠ de * 16 + i := by omega
      have hb1 := hbd (sr * 16 + i)
      have hb2 := hbd (de * 16 + i)
      have hc1 := HBD.out (sr * 16 + i) hs1
      have hc2 := HBD.out (de * 16 + i) hs2
      have hst2 : putL c (l.take (k + 1)) = addAt (addAt C (sr * 16 + i) (-(N : Int))) (de * 16 + i) (N : Int) := hst
      have HST := hid hst2
      have hCA1 : (CA C).setIfInBounds (sr * 16 + i) (.int .i64 (C.getD (sr * 16 + i) 0 - (N : Int))) = CA (addAt C (sr * 16 + i) (-(N : Int))) := CA_add hCl hs1 (-(N : Int))
      have hget : (addAt C (sr * 16 + i) (-(N : Int))).getD (de * 16 + i) 0 = C.getD (de * 16 + i) 0 := by
        rw [addAt_get _ _ _ _ (by omega), if_neg (by omega), Int.add_zero]
      have hCA2 := CA_add (c := addAt C (sr * 16 + i) (-(N : Int))) (by rw [addAt_length]; exact hCl) hs2 (N : Int)
      rw [hget, ← hst2] at hCA2
      obtain ⟨X1, hX1⟩ : ∃ X, C.getD (sr * 16 + i) 0 = X := ⟨_, rfl⟩
      obtain ⟨X2, hX2⟩ : ∃ X, C.getD (de * 16 + i) 0 = X := ⟨_, rfl⟩
      have KA0 := KA.out.look (sr * 16 + i) (CA_get C hs1)
      obtain ⟨C2, hC2⟩ : ∃ X, addAt C (sr * 16 + i) (-(N : Int)) = X := ⟨_, rfl⟩
      rw [hX1] at hb1 hCA1
      rw [hX2] at hb2 hCA2 hget
      rw [hC2] at hCA1 hCA2 hget
      have hw1 : IntKind.i64.wrap (X1 - (N : Int)) = X1 - (N : Int) := wrap_id (by omega) (by omega)
      have hw2 : IntKind.i64.wrap (X2 + (N : Int)) = X2 + (N : Int) := wrap_id (by omega) (by omega)
      have HCA1 := hid hCA1
      have HCA2 := hid hCA2
      have HGT := hid hget
      have HX1 := hid hX1
      clear hst hst2 hCl hCA1 hCA2 hget hX1 hX2 hC2 KA0 hbd hc1 hc2 hsd hlk
      have kT := Blk.new wr #[.int .i64 (i : Int), .int .i64 (sr : Int), .int .i64 (de : Int), .int .i64 (N : Int)] 103
      have bT := alloc_below wr (.cells #[.int .i64 (i : Int), .int .i64 (sr : Int), .int .i64 (de : Int), .int .i64 (N : Int)] 103)
      have hBs := HBE.out.size
      have KA2 := hid (KA.out.below bT)
      have KZ2 := hid (KZ.out.below bT)
      have KT2 := hid kT
      have HB2 := hid (HBE.out.trans (bT.mono (Nat.le_trans (Nat.le_of_lt KA.out.lt) (Nat.le_refl _))))
      have hBT : B < wr.heap.size := KA.out.lt
      go_wp2_with fail
      clear x0 x1 x2 x3 kT bT KA KZ HBE hBs
      have hgw : wr.heap.size ≠ B := by omega
      have hgw3 : B ≤ wr.heap.size := by omega
      generalize wr.heap.size = gt at KT2 hgw hgw3 ⊢
      generalize wr.alloc (.cells #[.int .i64 (i : Int), .int .i64 (sr : Int), .int .i64 (de : Int), .int .i64 (N : Int)] 103) = W at KA2 KZ2 KT2 HB2 ⊢
      have z0 := fun y : SubT (Below W.heap.size) W.drew => (KT2.out.below ((Below.refl W.heap.size W).drew.trans y.b)).look 0 rfl
      have z1 := fun y : SubT (Below W.heap.size) W.drew => (KT2.out.below ((Below.refl W.heap.size W).drew.trans y.b)).look 1 rfl
      have z3 := fun y : SubT (Below W.heap.size) W.drew => (KT2.out.below ((Below.refl W.heap.size W).drew.trans y.b)).look 3 rfl
      have zc := fun y : SubT (Below W.heap.size) W.drew => (KA2.out.below ((Below.refl W.heap.size W).drew.trans y.b)).look (sr * 16 + i) (CA_get C hs1)
      simp only [HX1.out] at zc
      refine wp_walkJ (T := Below (W.heap.size)) (belowV_pre _) (.rd 0 (.rd 1 (.rd 2 (.rd 3 (.rd 4 (.rd 5 (.rd 6 (.rd 7 (.rd 8 (.rd 9 (.rd 10 (.rd 11 (.bt 12 (.inv [])))))))))))))) (by kernel_rfl) rfl (by kernel_rfl) (by kernel_rfl) ?_
      iterate 12 (refine walkJ_rd rfl (fun K hK => ?_); go_simp; refine hK _ ?_; clear hK K)
      clear z0 z1 z3 zc
      have hd := (Below.refl W.heap.size W).drew
      have KA3 := hid (KA2.out.below hd)
      have KZ3 := hid (KZ2.out.below hd)
      have KT3 := hid (KT2.out.below hd)
      have HB3 := hid HB2.out.drew
      clear hd KA2 KZ2 KT2 HB2
      generalize W.drew = W3 at KA3 KZ3 KT3 HB3 ⊢
      have x0 := KA3.out.look (sr * 16 + i) (CA_get C hs1)
      have f0 := KA3.out.frozen (sr * 16 + i)
      have l0 := KA3.out.lt
      (refine walkJ_bt rfl (fun K hK => ?_); go_simp; refine hK _ _ ?_; clear hK K)
      refine walkJ_nil ?_
      have KA4 := hid (KA3.out.set (sr * 16 + i) (.int .i64 (X1 - (N : Int))))
      rw [HCA1.out] at KA4
      have KZ4 := hid (KZ3.out.other (p := ⟨B, sr * 16 + i, none⟩) (show B + 1 ≠ B by omega) (.int .i64 (X1 - (N : Int))))
      have KT4 := hid (KT3.out.other (p := ⟨B, sr * 16 + i, none⟩) hgw (.int .i64 (X1 - (N : Int))))
      have HB4 := hid (HB3.out.setCell (p := ⟨B, sr * 16 + i, none⟩) (Nat.le_refl B) (.int .i64 (X1 - (N : Int))))
      clear x0 f0 l0 KA3 KZ3 KT3 HB3
      generalize W3.setCell ⟨B, sr * 16 + i, none⟩ (.int .i64 (X1 - (N : Int))) = W4 at KA4 KZ4 KT4 HB4 ⊢
      have z0 := fun y : SubT (Below W4.heap.size) W4.drew => (KT4.out.below ((Below.refl W4.heap.size W4).drew.trans y.b)).look 0 rfl
      have z2 := fun y : SubT (Below W4.heap.size) W4.drew => (KT4.out.below ((Below.refl W4.heap.size W4).drew.trans y.b)).look 2 rfl
      have z3 := fun y : SubT (Below W4.heap.size) W4.drew => (KT4.out.below ((Below.refl W4.heap.size W4).drew.trans y.b)).look 3 rfl
      have zc := fun y : SubT (Below W4.heap.size) W4.drew => (KA4.out.below ((Below.refl W4.heap.size W4).drew.trans y.b)).look (de * 16 + i) (CA_get C2 hs2)
      simp only [HGT.out] at zc
      go_wp2_with fail
      refine wp_walkJ (T := Below (W4.heap.size)) (belowV_pre _) (.rd 0 (.rd 1 (.rd 2 (.rd 3 (.rd 4 (.rd 5 (.rd 6 (.rd 7 (.rd 8 (.rd 9 (.rd 10 (.rd 11 (.bt 12 (.inv [])))))))))))))) (by kernel_rfl) rfl (by kernel_rfl) (by kernel_rfl) ?_
      iterate 12 (refine walkJ_rd rfl (fun K hK => ?_); go_simp; refine hK _ ?_; clear hK K)
      clear z0 z2 z3 zc
      have hd := (Below.refl W4.heap.size W4).drew
      have KA5 := hid (KA4.out.below hd)
      have KZ5 := hid (KZ4.out.below hd)
      have HB5 := hid HB4.out.drew
      clear hd KA4 KZ4 KT4 HB4
      generalize W4.drew = W5 at KA5 KZ5 HB5 ⊢
      have x0 := KA5.out.look (de * 16 + i) (CA_get C2 hs2)
      have f0 := KA5.out.frozen (de * 16 + i)
      have l0 := KA5.out.lt
      (refine walkJ_bt rfl (fun K hK => ?_); go_simp; refine hK _ _ ?_; clear hK K)
      refine walkJ_nil ?_
      have KA6 := hid (KA5.out.set (de * 16 + i) (.int .i64 (X2 + (N : Int))))
      rw [HCA2.out] at KA6
      have KZ6 := hid (KZ5.out.other (p := ⟨B, de * 16 + i, none⟩) (show B + 1 ≠ B by omega) (.int .i64 (X2 + (N : Int))))
      have HB6 := hid (HB5.out.setCell (p := ⟨B, de * 16 + i, none⟩) (Nat.le_refl B) (.int .i64 (X2 + (N : Int))))
      clear x0 f0 l0 KA5 KZ5 HB5
      generalize W5.setCell ⟨B, de * 16 + i, none⟩ (.int .i64 (X2 + (N : Int))) = W6 at KA6 KZ6 HB6 ⊢
      go_wp2_with fail
      go_roundw
      case rel => exact ⟨k + 1, by go_num, by omega, KA6, KZ6, HB6⟩
      case measure => simp [intOf]; omega

end Go.Proofs.Ytcpefolhohakmaa
