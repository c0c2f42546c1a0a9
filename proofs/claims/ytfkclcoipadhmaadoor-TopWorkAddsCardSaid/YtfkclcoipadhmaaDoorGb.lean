/- Walk of tranktop.curves. -/
import Derived.Test.YtfkclcoipadhmaaDoorDw
namespace Go.Proofs.YtfkclcoipadhmaaDoor
open Go.RowKit
attribute [local irreducible] seqS seqST walkV walkJ

set_option maxHeartbeats 1000000 in
theorem twhole_any (n : Int) (w : World) : Calls Tryd.prog 105 #[.int .i64 n] w fun r w' => r = .returned (.agg #[.int .i64 n, .int .i64 1]) ∧ Below w.heap.size w w' := by
  have b0 := alloc_below w (.cells #[.int .i64 n, .int .i64 1] 32)
  go_enter Tryd.func105, Tryd.ntmps105
  go_wp2
  refine bodyPost_ret (v := .agg #[.int .i64 n, .int .i64 1]) ?_ rfl ⟨rfl, b0⟩
  simp [results, Tryd.results105, go_sem]
theorem two_row (w : World) (a b c d e f g h : Int) : P4R 0 (w.alloc (.cells #[.int .i64 a, .int .i64 b, .int .i64 c, .int .i64 d, .int .i64 e, .int .i64 f, .int .i64 g, .int .i64 h] 52)) (.slice (some ⟨w.heap.size, 0, none⟩) 2 2) [((a, b), (c, d)), ((e, f), (g, h))] := by
  have kn := Blk.new w #[.int .i64 a, .int .i64 b, .int .i64 c, .int .i64 d, .int .i64 e, .int .i64 f, .int .i64 g, .int .i64 h] 52
  refine ⟨_, 2, rfl, Nat.le_refl _, by unfold maxLen; omega, fun _ => ⟨w.heap.size, 0, rfl, Nat.zero_le _, kn.lt, fun j hj => ?_⟩⟩
  have hj8 : j < 8 := hj
  rw [Nat.zero_add, kn.cell]
  match j, hj8 with
  | 0, _ => rfl
  | 1, _ => rfl
  | 2, _ => rfl
  | 3, _ => rfl
  | 4, _ => rfl
  | 5, _ => rfl
  | 6, _ => rfl
  | 7, _ => rfl

set_option maxHeartbeats 4000000 in
set_option maxRecDepth 100000 in
theorem curves_any (w : World) (hz : Z0 w) : Calls Tryd.prog 56 #[] w fun r w' => r = .returned (.bool true) ∧ Below w.heap.size w w' := by
  have WH := hid (fun n w => twhole_any n w)
  have SU := hid (fun va vb w h1 h2 hz => Sum_any awA awB va vb w h1 h2 hz)
  rw [aw_sum.1] at SU
  have HS := hid aw_sum.2
  generalize sumL awA awB = S at SU HS
  have HZ := hid hz
  clear hz
  go_enter Tryd.func56, Tryd.ntmps56
  go_wp2_with fail
  refine (WH.out 0 _).mono ?_
  rintro r w1 ⟨rfl, hb1⟩
  go_wp2_with fail
  refine (WH.out 0 _).mono ?_
  rintro r w2 ⟨rfl, hb2⟩
  replace hb1 := hb1.trans (hb2.mono hb1.size)
  clear hb2
  go_wp2_with fail
  refine (WH.out 4 _).mono ?_
  rintro r w3 ⟨rfl, hb2⟩
  replace hb1 := hb1.trans (hb2.mono hb1.size)
  clear hb2
  go_wp2_with fail
  refine (WH.out 2 _).mono ?_
  rintro r w4 ⟨rfl, hb2⟩
  replace hb1 := hb1.trans (hb2.mono hb1.size)
  clear hb2
  have ha := two_row w4 0 1 0 1 4 1 2 1
  have ba := alloc_below w4 (.cells #[.int .i64 0, .int .i64 1, .int .i64 0, .int .i64 1, .int .i64 4, .int .i64 1, .int .i64 2, .int .i64 1] 52)
  replace hb1 := hb1.trans (ba.mono hb1.size)
  clear ba
  go_wp2_with fail
  refine (WH.out 0 _).mono ?_
  rintro r w5 ⟨rfl, hb2⟩
  replace ha := SlR.below ha hb2
  replace hb1 := hb1.trans (hb2.mono hb1.size)
  clear hb2
  go_wp2_with fail
  refine (WH.out 0 _).mono ?_
  rintro r w6 ⟨rfl, hb2⟩
  replace ha := SlR.below ha hb2
  replace hb1 := hb1.trans (hb2.mono hb1.size)
  clear hb2
  go_wp2_with fail
  refine (WH.out 2 _).mono ?_
  rintro r w7 ⟨rfl, hb2⟩
  replace ha := SlR.below ha hb2
  replace hb1 := hb1.trans (hb2.mono hb1.size)
  clear hb2
  go_wp2_with fail
  refine (WH.out 2 _).mono ?_
  rintro r w8 ⟨rfl, hb2⟩
  replace ha := SlR.below ha hb2
  replace hb1 := hb1.trans (hb2.mono hb1.size)
  clear hb2
  have hb := two_row w8 0 1 0 1 2 1 2 1
  have ba := alloc_below w8 (.cells #[.int .i64 0, .int .i64 1, .int .i64 0, .int .i64 1, .int .i64 2, .int .i64 1, .int .i64 2, .int .i64 1] 52)
  replace ha := SlR.below ha ba
  replace hb1 := hb1.trans (ba.mono hb1.size)
  clear ba
  go_wp2_with fail
  refine (SU.out _ _ _ ha hb (HZ.out.below hb1)).mono ?_
  rintro r w9 ⟨⟨v, rfl, hv⟩, hb2⟩
  replace hb1 := hb1.trans (hb2.mono hb1.size)
  have hq := PsR.ofQ (PsR.mono hv (Nat.zero_le _))
  rw [HS.out] at hq
  obtain ⟨ao, cap, rfl, h1, h2, hc⟩ := hq
  obtain ⟨b, off, rfl, hbl, e0, e1, e2, e3⟩ := p4_cell hc (i := 1) (by decide)
  rw [show awC.length = 2 from rfl] at h1 ⊢
  have f2 : w9.cell? ⟨b, off + 4 + 2, none⟩ = some (.int .i64 3) := e2
  have f3 : w9.cell? ⟨b, off + 4 + 3, none⟩ = some (.int .i64 1) := e3
  clear hb2 hv ha hb hc e0 e1 e2 e3 WH SU HS
  go_wp2_with fail
  have hd0 := (Below.refl w9.heap.size w9).drew
  have z0 := fun x : SubT (Below w9.heap.size) w9.drew => ((hd0.trans x.b).cell (p := ⟨b, off + 4 + 2, none⟩) hbl).trans f2
  have z1 := fun x : SubT (Below w9.heap.size) w9.drew => ((hd0.trans x.b).cell (p := ⟨b, off + 4 + 3, none⟩) hbl).trans f3
  refine wp_walkJ (T := Below (w9.heap.size)) (belowV_pre _) (.rd 0 (.rd 1 (.rd 2 (.rd 3 (.rd 4 (.rd 5 (.rd 6 (.rd 7 (.rd 8 (.rd 9 (.rd 10 (.rd 11 (.mv 12 (.rd 13 (.rd 14 (.rd 15 (.inv []))))))))))))))))) (by kernel_rfl) rfl (by kernel_rfl) (by kernel_rfl) ?_
  iterate 12 (refine walkJ_rd rfl (fun K hK => ?_); go_simp; refine hK _ ?_; clear hK K)
  (refine walkJ_mv rfl (fun K hK => ?_); go_simp; refine (twhole_any 3 _).mono ?_; rintro r wx ⟨rfl, hb2⟩; refine ⟨_, rfl, hK _ _ (hb2.mono hd0.size) ?_⟩; clear hK K)
  replace hb1 := hb1.trans ((hd0.trans (hb2.mono hd0.size)).mono hb1.size)
  iterate 3 (refine walkJ_rd rfl (fun K hK => ?_); go_simp; refine hK _ ?_; clear hK K)
  refine walkJ_nil ?_
  go_wp2
  go_ret
  exact ⟨rfl, hb1⟩

end Go.Proofs.YtfkclcoipadhmaaDoor
