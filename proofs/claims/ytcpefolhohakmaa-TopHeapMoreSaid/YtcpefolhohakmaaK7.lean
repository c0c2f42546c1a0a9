/- The program's sides and rules from the reference's. -/
import Derived.Test.YtcpefolhohakmaaK6
import Derived.Test.YtcpefolhohakmaaRq
namespace Go.Proofs.Ytcpefolhohakmaa
open Go.RowKit
attribute [local irreducible] seqS seqST walkV walkJ

theorem infoGlove : (Try.prog.info? 33).map (fun i => (i.zero, i.size, i.bytes)) = some (some (.agg #[.int .i64 0, .int .i64 0, .int .i64 0, .int .i64 0]), 4, 32) := by kernel_rfl
def cut34 (l : List Gv) : List Gv := l.take 34

set_option maxHeartbeats 4000000 in
set_option maxRecDepth 100000 in
theorem side_top (l : List Gv) (v : Value) (w : World) (h : GsR 0 w v l) :
    Calls Try.prog 7 #[v] w fun r w' => (∃ z, r = .returned z ∧ GsR w.heap.size w' z (cut34 l)) ∧ Below w.heap.size w w' := by
  obtain ⟨ao, cap, rfl, hcap, hmax, hc⟩ := h
  unfold maxLen at hmax
  have HC := hid hc
  obtain ⟨n, hn⟩ : ∃ n, l.length = n := ⟨_, rfl⟩
  have HN := hid hn
  rw [hn] at hcap
  rw [hn]
  have HO0 : Hid (w.ownsRow w.heap.size 33 4 (.slice none 0 0) 0 (gsC [])) := hid (World.ownsRow_nil _ _ _ _)
  obtain ⟨BW, hBW⟩ : ∃ x, w.heap.size = x := ⟨_, rfl⟩
  rw [hBW] at HO0 ⊢
  have HBW := hid hBW
  clear hc hn hBW
  go_enter Try.func7, Try.ntmps7
  go_wp2_with fail
  go_loopw [3, 8] (fun ro z wr => ∃ k : Nat, z = .int .i64 (k : Int) ∧ k ≤ n ∧ k ≤ 34 ∧ Hid (wr.ownsRow BW 33 4 ro k (gsC (l.take k))) ∧ Below BW w wr) (fun _ z _ => n - (intOf z).toNat)
  case atStart => exact ⟨0, rfl, Nat.zero_le _, Nat.zero_le _, hid (by simpa using HO0.out), Below.refl _ _⟩
  case round =>
    obtain ⟨k, rfl, hk, hk34, HO, hbw⟩ := hrel
    by_cases hkn : k < n
    case neg =>
      obtain rfl : n = k := by omega
      have hk2 : ¬ (n : Int) < (n : Int) := by omega
      have HF : Hid (GsR BW wr u3 (cut34 l)) := hid (by
        have e : cut34 l = l.take n := by
          unfold cut34
          rw [List.take_of_length_le (by rw [HN.out]; exact hk34), List.take_of_length_le (by rw [HN.out]; exact Nat.le_refl _)]
        rw [e]
        have := SlR.of_owns HO.out
        have e2 : (l.take n).length = n := by rw [List.length_take, HN.out]; omega
        unfold GsR
        rw [e2]; exact this)
      go_wp2
      go_ret
      exact ⟨⟨_, rfl, HF.out⟩, hbw⟩
    case pos =>
      have hk2 : (k : Int) < (n : Int) := by omega
      obtain ⟨b, off, rfl, hb, x0, x1, x2, x3⟩ := g_cell HC.out (show k < l.length by rw [HN.out]; exact hkn)
      have hgk : l.getD k ⟨0, 0, 0, 0⟩ = l.getD k g0 := rfl
      rw [hgk] at x0 x1 x2 x3
      obtain ⟨ga, hga⟩ : ∃ g, l.getD k g0 = g := ⟨_, rfl⟩
      rw [hga] at x0 x1 x2 x3
      have HGA := hid hga
      rw [HBW.out] at hb
      replace x0 := (hbw.cell (p := ⟨b, off + k * 4, none⟩) hb).trans x0
      replace x1 := (hbw.cell (p := ⟨b, off + k * 4 + 1, none⟩) hb).trans x1
      replace x2 := (hbw.cell (p := ⟨b, off + k * 4 + 2, none⟩) hb).trans x2
      replace x3 := (hbw.cell (p := ⟨b, off + k * 4 + 3, none⟩) hb).trans x3
      have hsz := hbw.size
      rw [HBW.out] at hsz
      have bA := alloc_below wr (.cells #[.int .i64 ga.a, .int .i64 ga.b, .int .i64 ga.c, .int .i64 ga.d] 24)
      have hbw2 := hbw.trans (bA.mono hsz)
      have HO2 := hid (owns_below HO.out bA)
      clear hga hgk bA hbw HO
      by_cases h33 : 33 < k
      · have h332 : (33 : Int) < (k : Int) := by omega
        have hk4 : k = 34 := by omega
        have HF : Hid (GsR BW (wr.alloc (.cells #[.int .i64 ga.a, .int .i64 ga.b, .int .i64 ga.c, .int .i64 ga.d] 24)) u3 (cut34 l)) := hid (by
          unfold cut34 GsR
          have := SlR.of_owns HO2.out
          have e2 : (l.take 34).length = 34 := by rw [List.length_take, HN.out]; omega
          rw [e2, ← hk4]; exact this)
        clear hk4
        go_wp2
        go_ret
        exact ⟨⟨_, rfl, HF.out⟩, hbw2⟩
      · have h332 : ¬ (33 : Int) < (k : Int) := by omega
        have V1 := hid (fun w => glove_any ga w)
        go_wp2_with fail
        refine (V1.out _).mono ?_
        rintro r w2 ⟨rfl, hb2⟩
        have HO3 := hid (owns_below HO2.out hb2)
        have hs2 : BW ≤ w2.heap.size := by have := hb2.size; simp at this; omega
        have hbw3 := hid (hbw2.trans (hb2.mono (by simp; omega)))
        clear V1 x0 x1 x2 x3 hb2 hbw2 HO2
        go_wp2_with (at_builtin; refine wpList_appH rfl (.tmp 15) (.tmp 18) _ rfl BW 33 (.agg #[.int .i64 0, .int .i64 0, .int .i64 0, .int .i64 0]) 4 32 Try.underlying31 infoGlove rfl (by decide) 33 _ _ _ rfl HO3.out [.int .i64 ga.a, .int .i64 ga.b, .int .i64 ga.c, .int .i64 ga.d] _ rfl rfl rfl (by simp [Value.oneCell']) (by unfold maxLen; omega) (by omega) hs2 ?_; intro g5 gcap w5 ho5 hb5 _ _ _)
        have HT : Hid (gsC (l.take (k + 1)) = gsC (l.take k) ++ [.int .i64 ga.a, .int .i64 ga.b, .int .i64 ga.c, .int .i64 ga.d]) := hid (by
          have hkl : k < l.length := by rw [HN.out]; exact hkn
          have e : l.take (k + 1) = l.take k ++ [ga] := by
            rw [List.take_succ_eq_append_getElem hkl, ← HGA.out, List.getD_eq_getElem?_getD, List.getElem?_eq_getElem hkl]; rfl
          rw [e, gsC_append]
          simp [gsC, gC])
        clear HO3 hs2
        go_roundw
        case rel => exact ⟨k + 1, by go_num, by omega, by omega, hid (by rw [HT.out]; exact ho5), hbw3.out.trans hb5⟩
        case measure => simp [intOf]; omega

theorem pinfo8 : (Try.prog.info? 35).map (·.size) = some 8 := by kernel_rfl

set_option maxHeartbeats 4000000 in
set_option maxRecDepth 100000 in
theorem rule_top (u : Ru) (w : World) :
    Calls Try.prog 8 #[ruV u] w fun r w' => r = .returned (ruV u) ∧ Below w.heap.size w w' := by
  have G1 := hid (fun w => glove_any u.wt w)
  have G2 := hid (fun w => glove_any u.lim w)
  obtain ⟨⟨wa, wb, wc, wd⟩, ⟨la, lb, lc, ld⟩⟩ := u
  have kU := Blk.new w #[.int .i64 wa, .int .i64 wb, .int .i64 wc, .int .i64 wd, .int .i64 la, .int .i64 lb, .int .i64 lc, .int .i64 ld] 26
  have bU := alloc_below w (.cells #[.int .i64 wa, .int .i64 wb, .int .i64 wc, .int .i64 wd, .int .i64 la, .int .i64 lb, .int .i64 lc, .int .i64 ld] 26)
  have kZ := Blk.new (w.alloc (.cells #[.int .i64 wa, .int .i64 wb, .int .i64 wc, .int .i64 wd, .int .i64 la, .int .i64 lb, .int .i64 lc, .int .i64 ld] 26)) #[.int .i64 0, .int .i64 0, .int .i64 0, .int .i64 0, .int .i64 0, .int .i64 0, .int .i64 0, .int .i64 0] 35
  have bZ := alloc_below (w.alloc (.cells #[.int .i64 wa, .int .i64 wb, .int .i64 wc, .int .i64 wd, .int .i64 la, .int .i64 lb, .int .i64 lc, .int .i64 ld] 26)) (.cells #[.int .i64 0, .int .i64 0, .int .i64 0, .int .i64 0, .int .i64 0, .int .i64 0, .int .i64 0, .int .i64 0] 35)
  have hsz : (w.alloc (.cells #[.int .i64 wa, .int .i64 wb, .int .i64 wc, .int .i64 wd, .int .i64 la, .int .i64 lb, .int .i64 lc, .int .i64 ld] 26)).heap.size = w.heap.size + 1 := by simp
  rw [hsz] at kZ
  have kU1 := kU.below bZ
  have bb := bU.trans (bZ.mono bU.size)
  go_enter Try.func8, Try.ntmps8
  go_wp2_with fail
  clear kU bU bZ hsz
  generalize (w.alloc (.cells #[.int .i64 wa, .int .i64 wb, .int .i64 wc, .int .i64 wd, .int .i64 la, .int .i64 lb, .int .i64 lc, .int .i64 ld] 26)).alloc (.cells #[.int .i64 0, .int .i64 0, .int .i64 0, .int .i64 0, .int .i64 0, .int .i64 0, .int .i64 0, .int .i64 0] 35) = W at kZ kU1 bb ⊢
  have z0 := fun y : SubT (Below W.heap.size) W.drew => (kU1.drew.below' y.b kU1.lt).look 0 rfl
  have z1 := fun y : SubT (Below W.heap.size) W.drew => (kU1.drew.below' y.b kU1.lt).look 1 rfl
  have z2 := fun y : SubT (Below W.heap.size) W.drew => (kU1.drew.below' y.b kU1.lt).look 2 rfl
  have z3 := fun y : SubT (Below W.heap.size) W.drew => (kU1.drew.below' y.b kU1.lt).look 3 rfl
  have z4 := fun y : SubT (Below W.heap.size) W.drew => (kU1.drew.below' y.b kU1.lt).look 4 rfl
  have z5 := fun y : SubT (Below W.heap.size) W.drew => (kU1.drew.below' y.b kU1.lt).look 5 rfl
  have z6 := fun y : SubT (Below W.heap.size) W.drew => (kU1.drew.below' y.b kU1.lt).look 6 rfl
  have z7 := fun y : SubT (Below W.heap.size) W.drew => (kU1.drew.below' y.b kU1.lt).look 7 rfl
  refine wp_walkJ (T := Below (W.heap.size)) (belowV_pre _) (.rd 0 (.rd 1 (.rd 3 (.rd 4 (.mv 2 (.bt 5 (.rd 6 (.bt 7 (.inv []))))))))) (by kernel_rfl) rfl (by kernel_rfl) (by kernel_rfl) ?_
  iterate 4 (refine walkJ_rd rfl (fun K hK => ?_); go_simp; refine hK _ ?_; clear hK K)
  clear z0 z1 z2 z3 z4 z5 z6 z7 kU1
  have kZd := kZ.drew
  have bbd := bb.drew
  have hs : W.heap.size ≤ W.drew.heap.size := Nat.le_refl _
  have HS := hid hs
  clear kZ bb hs
  generalize W.drew = W1 at kZd bbd HS ⊢
  (refine walkJ_mv rfl (fun K hK => ?_); go_simp; refine (G1.out _).mono ?_; rintro r w2 ⟨rfl, hb2⟩; refine ⟨_, rfl, hK _ _ (hb2.mono HS.out) ?_⟩; clear hK K)
  have kZ2 := kZd.below hb2
  have bb2 := bbd.trans (hb2.mono bbd.size)
  clear kZd bbd hb2
  (refine walkJ_bt rfl (fun K hK => ?_); go_simp; refine (G2.out _).mono ?_; rintro r w3 ⟨rfl, hb3⟩; refine ⟨_, rfl, hK _ _ ?_⟩; clear hK K)
  have kZ3 := kZ2.below hb3
  have bb3 := bb2.trans (hb3.mono bb2.size)
  clear kZ2 bb2 hb3
  iterate 1 (refine walkJ_rd rfl (fun K hK => ?_); go_simp; refine hK _ ?_; clear hK K)
  refine walkJ_bt rfl (fun K hK => ⟨rfl, gives_store_row 35 (.tmp 2) (.tmp 9) rfl (w.heap.size + 1) #[.int .i64 wa, .int .i64 wb, .int .i64 wc, .int .i64 wd, .int .i64 la, .int .i64 lb, .int .i64 lc, .int .i64 ld] rfl rfl 35 #[.int .i64 0, .int .i64 0, .int .i64 0, .int .i64 0, .int .i64 0, .int .i64 0, .int .i64 0, .int .i64 0] kZ3 pinfo8 rfl (by simp [Value.oneCell']) (hK _ _ ?_)⟩)
  refine walkJ_nil ?_
  have kF := row_blk (cs' := #[.int .i64 wa, .int .i64 wb, .int .i64 wc, .int .i64 wd, .int .i64 la, .int .i64 lb, .int .i64 lc, .int .i64 ld]) kZ3
  have bF := row_below bb3 (show w.heap.size ≤ w.heap.size + 1 by omega) #[.int .i64 wa, .int .i64 wb, .int .i64 wc, .int .i64 wd, .int .i64 la, .int .i64 lb, .int .i64 lc, .int .i64 ld]
  generalize w3.setRow (w.heap.size + 1) #[.int .i64 wa, .int .i64 wb, .int .i64 wc, .int .i64 wd, .int .i64 la, .int .i64 lb, .int .i64 lc, .int .i64 ld] = w4 at kF bF ⊢
  clear kZ3 bb3 HS G1 G2
  have x0 := kF.look 0 rfl
  have x1 := kF.look 1 rfl
  have x2 := kF.look 2 rfl
  have x3 := kF.look 3 rfl
  have x4 := kF.look 4 rfl
  have x5 := kF.look 5 rfl
  have x6 := kF.look 6 rfl
  have x7 := kF.look 7 rfl
  go_wp2
  refine bodyPost_ret (v := ruV ⟨⟨wa, wb, wc, wd⟩, ⟨la, lb, lc, ld⟩⟩) (by simp [results, Try.results8, go_sem, x0, x1, x2, x3, x4, x5, x6, x7]) rfl ⟨rfl, bF⟩

end Go.Proofs.Ytcpefolhohakmaa
