/- TopHeapMore: the walk of the law. -/
import Derived.Test.YtcpefolhohakmaaK8
import Derived.Test.YtcpefolhohakmaaK9
namespace Go.Proofs.Ytcpefolhohakmaa
open Go.RowKit
attribute [local irreducible] seqS seqST walkV walkJ

def mN (l r : List Gv) (u : Ru) : Int := if goodB l r u = true then (mostN l r u : Int) else 0
def eN (b : Bool) : Int := if b = true then 0 else 2
theorem Most_both (l r : List Gv) (u : Ru) (v v2 : Value) (w : World) (h : GsR 0 w v l) (h2 : GsR 0 w v2 r) :
    Calls Try.prog 6 #[v, v2, ruV u] w fun e w' => e = .returned (.tuple #[.int .i64 (mN l r u), .int .i64 (eN (goodB l r u))]) ∧ Below w.heap.size w w' := by
  by_cases hg : SideOk l ∧ SideOk r ∧ RuOk u
  · have e : goodB l r u = true := by unfold goodB; rw [sideB_true hg.1, sideB_true hg.2.1, rokB_true hg.2.2]; rfl
    unfold mN eN
    rw [e, if_pos rfl, if_pos rfl]
    exact Most_yes l r u v v2 w h h2 hg.1 hg.2.1 hg.2.2
  · have e : goodB l r u = false := by
      cases e : goodB l r u with
      | false => rfl
      | true =>
        unfold goodB at e
        simp only [Bool.and_eq_true] at e
        exact absurd ⟨of_decide_eq_true e.1.1, of_decide_eq_true e.1.2, (rokB_iff u).1 e.2⟩ hg
    unfold mN eN
    rw [e, if_neg (by simp), if_neg (by simp)]
    exact Most_no l r u v v2 w h h2 hg
theorem Heap_both (l : List Gv) (u : Ru) (v : Value) (w : World) (h : GsR 0 w v l) :
    Calls Try.prog 9 #[v, ruV u] w fun e w' => (∃ z, e = .returned (.tuple #[z, .int .i64 (eN (sideB l && rokB u))]) ∧ (SideOk l → RuOk u → MtcR (adjB l u) l.length w.heap.size (.returned z) w')) ∧ Below w.heap.size w w' := by
  by_cases hg : SideOk l ∧ RuOk u
  · rw [sideB_true hg.1, rokB_true hg.2]
    exact (Heap_yes l u v w h hg.1 hg.2).mono fun _ _ ⟨⟨z, h1, h2⟩, h3⟩ => ⟨⟨z, h1, fun _ _ => h2⟩, h3⟩
  · have e : (sideB l && rokB u) = false := by
      cases e : (sideB l && rokB u) with
      | false => rfl
      | true =>
        simp only [Bool.and_eq_true] at e
        exact absurd ⟨of_decide_eq_true e.1, (rokB_iff u).1 e.2⟩ hg
    rw [e]
    exact (Heap_no l u v w h hg).mono fun _ _ ⟨h1, h3⟩ => ⟨⟨_, h1, fun h4 h5 => absurd ⟨h4, h5⟩ hg⟩, h3⟩
theorem goodB_cut (l r : List Gv) (u : Ru) : goodB (cut34 l) (cut34 r) u = goodB l r u := by
  unfold goodB cut34
  rw [cut_side, cut_side]
theorem gs_zero {lo : Nat} {w : World} {v : Value} {l : List Gv} (h : GsR lo w v l) : GsR 0 w v l := SlR.mono h (Nat.zero_le _)

theorem MtcR.below {ad : Nat → Nat → Bool} {n B : Nat} {r : Ending} {w w' : World} (h : MtcR ad n B r w) (k : Below w.heap.size w w') : MtcR ad n B r w' := by
  obtain ⟨gm, m, h1, h2, h3, h4⟩ := h.out
  exact ⟨⟨gm, m, h1, h2, h3.below k, h4⟩⟩
theorem gs_nil (w : World) : GsR 0 w (.slice none 0 0) [] := ⟨none, 0, rfl, Nat.le_refl _, Nat.zero_le _, fun h => absurd rfl h⟩
theorem eN_t : eN true = 0 := rfl
theorem eN_f : eN false = 2 := rfl

set_option linter.unusedSimpArgs false in
set_option maxHeartbeats 16000000 in
set_option maxRecDepth 100000 in
theorem TopHeapMore_any (l r : List Gv) (u : Ru) (v v2 : Value) (w : World) (h : GsR 0 w v l) (h2 : GsR 0 w v2 r) :
    Calls Try.prog 3 #[v, v2, ruV u] w fun e w' => e = .returned (.bool true) ∧ Below w.heap.size w w' := by
  have PA := hid pairs_any
  obtain ⟨ao, cap, rfl, hcap, hmax, -⟩ := id h
  obtain ⟨ao2, cap2, rfl, hcap2, hmax2, -⟩ := id h2
  unfold maxLen at hmax hmax2
  have RU := hid (fun w => rule_top u w)
  have GO := hid (fun w h h2 => rGood_any l r u (.slice ao l.length cap) (.slice ao2 r.length cap2) w h h2)
  have SA := hid (fun w h => side_top l (.slice ao l.length cap) w h)
  have SB := hid (fun w h => side_top r (.slice ao2 r.length cap2) w h)
  have MB := hid (fun z1 z2 w h h2 => Most_both (cut34 l) (cut34 r) u z1 z2 w h h2)
  have SC := hid (fun z w h => side_top (l ++ r) z w h)
  have SI := hid (fun z w h => rSide_any (l ++ r) z w h)
  have GN := hid (fun z z2 w h h2 => rGood_any (l ++ r) [] u z z2 w h h2)
  have HE := hid (fun z w h => Heap_both (cut34 (l ++ r)) u z w h)
  have PR := hid (fun z w h hS hR gm n m hn hm hM => Pairs_yes (cut34 (l ++ r)) u z w h hS hR (gm := gm) (n := n) (m := m) hn hm hM)
  have BR := hid (fun z w h hS hR => Barrier_yes (cut34 (l ++ r)) u z w h hS hR)
  have OD := hid (fun z vb b w h hS hR hb hbl hbs => Odd_yes (cut34 (l ++ r)) u z vb b w h hS hR hb hbl hbs)
  have hgn : goodB (l ++ r) [] u = (sideB (l ++ r) && rokB u) := by
    unfold goodB
    rw [show sideB [] = true by decide, Bool.and_true]
  have hcs : sideB (cut34 (l ++ r)) = sideB (l ++ r) := cut_side _
  rw [goodB_cut] at MB
  rw [hgn] at GN
  rw [hcs] at HE
  have HPL := hid (fun hl hr hu N hN m1 m2 b cs => heap_more (l := l) (r := r) (u := u) hl hr hu (N := N) hN (m1 := m1) (m2 := m2) (b := b) (cs := cs))
  obtain ⟨g, hg⟩ : ∃ z, goodB l r u = z := ⟨_, rfl⟩
  obtain ⟨s, hs⟩ : ∃ z, sideB (l ++ r) = z := ⟨_, rfl⟩
  obtain ⟨rk, hrk⟩ : ∃ z, rokB u = z := ⟨_, rfl⟩
  obtain ⟨n1, hn1⟩ : ∃ z, mN (cut34 l) (cut34 r) u = z := ⟨_, rfl⟩
  have HG := hid hg
  have HS := hid hs
  have HRK := hid hrk
  have HN1 := hid hn1
  rw [hg] at GO MB
  rw [hs] at SI GN HE
  rw [hrk] at GN HE
  rw [hn1] at MB
  clear hg hs hrk hn1 hgn hcs
  obtain ⟨nl, hnl⟩ : ∃ n, l.length = n := ⟨_, rfl⟩
  obtain ⟨nr, hnr⟩ : ∃ n, r.length = n := ⟨_, rfl⟩
  have HNL := hid hnl
  have HNR := hid hnr
  have HV1 := hid h
  have HV2 := hid h2
  rw [hnl] at hcap GO SA HV1
  rw [hnr] at hcap2 GO SB HV2
  rw [hnl, hnr]
  obtain ⟨⟨wa, wb, wc, wd⟩, ⟨la, lb, lc, ld⟩⟩ := u
  have HKU := hid (Blk.new w #[.int .i64 wa, .int .i64 wb, .int .i64 wc, .int .i64 wd, .int .i64 la, .int .i64 lb, .int .i64 lc, .int .i64 ld] 26)
  have hb := alloc_below w (.cells #[.int .i64 wa, .int .i64 wb, .int .i64 wc, .int .i64 wd, .int .i64 la, .int .i64 lb, .int .i64 lc, .int .i64 ld] 26)
  replace HV1 := hid (HV1.out.below hb)
  replace HV2 := hid (HV2.out.below hb)
  have HBW := hid hb
  clear h h2 hb hnl hnr
  go_enter Try.func3, Try.ntmps3
  by_cases h40 : nl ≤ 40 ∧ nr ≤ 40
  case neg =>
    by_cases ha : 40 < nl
    · have ha2 : (40 : Int) < (nl : Int) := by omega
      go_wp2_with fail
      refine (PA.out _).mono ?_
      rintro e9 w9 ⟨rfl, hb⟩
      have HBf := hid (HBW.out.trans (hb.mono HBW.out.size))
      clear hb
      go_wp2
      go_ret
      exact ⟨rfl, HBf.out⟩
    · have ha2 : ¬ (40 : Int) < (nl : Int) := by omega
      have ha3 : (40 : Int) < (nr : Int) := by omega
      go_wp2_with fail
      refine (PA.out _).mono ?_
      rintro e9 w9 ⟨rfl, hb⟩
      have HBf := hid (HBW.out.trans (hb.mono HBW.out.size))
      clear hb
      go_wp2
      go_ret
      exact ⟨rfl, HBf.out⟩
  case pos =>
  obtain ⟨h41, h42⟩ := h40
  have ha2 : ¬ (40 : Int) < (nl : Int) := by omega
  have ha3 : ¬ (40 : Int) < (nr : Int) := by omega
  have hsz : (w.alloc (.cells #[.int .i64 wa, .int .i64 wb, .int .i64 wc, .int .i64 wd, .int .i64 la, .int .i64 lb, .int .i64 lc, .int .i64 ld] 26)).heap.size = w.heap.size + 1 := by simp
  have kE := Blk.new (w.alloc (.cells #[.int .i64 wa, .int .i64 wb, .int .i64 wc, .int .i64 wd, .int .i64 la, .int .i64 lb, .int .i64 lc, .int .i64 ld] 26)) #[] 24
  have bE := alloc_below (w.alloc (.cells #[.int .i64 wa, .int .i64 wb, .int .i64 wc, .int .i64 wd, .int .i64 la, .int .i64 lb, .int .i64 lc, .int .i64 ld] 26)) (.cells #[] 24)
  rw [hsz] at kE
  have hsE : w.heap.size + 1 ≤ ((w.alloc (.cells #[.int .i64 wa, .int .i64 wb, .int .i64 wc, .int .i64 wd, .int .i64 la, .int .i64 lb, .int .i64 lc, .int .i64 ld] 26)).alloc (.cells #[] 24)).heap.size := by simp
  have HO0 := hid (owns_empty (base := w.heap.size + 1) 4 kE (Nat.le_refl _))
  have HVE := hid (HV1.out.below bE)
  go_wp2_with (first
    | (at_builtin; refine wpList_appG rfl (.tmp 27) (.tmp 28) rfl (w.heap.size + 1) rfl HO0.out rfl HVE.out (by rw [HNL.out]; omega) hsE ?_; intro g5 c5 w5 ho5 hb5; have HV2b := hid (HV2.out.below (by rw [hsz]; exact (by rw [hsz] at bE; exact bE.trans hb5))); have hs5 := Nat.le_trans hsE hb5.size; rw [Nat.zero_add] at ho5)
    | (at_builtin; refine wpList_appG rfl (.tmp 29) (.tmp 30) rfl (w.heap.size + 1) rfl ho5 rfl HV2b.out (by rw [HNL.out, HNR.out]; omega) hs5 ?_; intro g6 c6 w6 ho6 hb6))
  obtain ⟨N, hN⟩ : ∃ N, l.length + r.length = N := ⟨_, rfl⟩
  rw [hN] at ho6 ⊢
  have HNN : Hid ((l ++ r).length = N) := hid (by rw [List.length_append]; exact hN)
  have hN80 : N ≤ 80 := by rw [← hN, HNL.out, HNR.out]; omega
  have HVA : Hid (GsR 0 w6 (.slice (some ⟨g6, 0, none⟩) N c6) (l ++ r)) := hid (by
    have := SlR.of_owns ho6
    unfold GsR
    rw [HNN.out, gsC_append]
    exact SlR.mono this (Nat.zero_le _))
  rw [hsz] at bE
  have hb : Below (w.heap.size + 1) (w.alloc (.cells #[.int .i64 wa, .int .i64 wb, .int .i64 wc, .int .i64 wd, .int .i64 la, .int .i64 lb, .int .i64 lc, .int .i64 ld] 26)) w6 := (bE.trans hb5).trans hb6
  rw [← hsz] at hb
  replace HV1 := hid (HV1.out.below hb)
  replace HV2 := hid (HV2.out.below hb)
  replace HKU := hid (HKU.out.below hb)
  replace HBW := hid (HBW.out.trans (hb.mono HBW.out.size))
  clear hb ho5 ho6 hb5 hb6 hs5 hsE HVE HO0 kE bE HV2b hsz hN
  have z0 := fun y : SubT (Below w6.heap.size) w6.drew => (HKU.out.drew.below' y.b HKU.out.lt).look 0 rfl
  have z1 := fun y : SubT (Below w6.heap.size) w6.drew => (HKU.out.drew.below' y.b HKU.out.lt).look 1 rfl
  have z2 := fun y : SubT (Below w6.heap.size) w6.drew => (HKU.out.drew.below' y.b HKU.out.lt).look 2 rfl
  have z3 := fun y : SubT (Below w6.heap.size) w6.drew => (HKU.out.drew.below' y.b HKU.out.lt).look 3 rfl
  have z4 := fun y : SubT (Below w6.heap.size) w6.drew => (HKU.out.drew.below' y.b HKU.out.lt).look 4 rfl
  have z5 := fun y : SubT (Below w6.heap.size) w6.drew => (HKU.out.drew.below' y.b HKU.out.lt).look 5 rfl
  have z6 := fun y : SubT (Below w6.heap.size) w6.drew => (HKU.out.drew.below' y.b HKU.out.lt).look 6 rfl
  have z7 := fun y : SubT (Below w6.heap.size) w6.drew => (HKU.out.drew.below' y.b HKU.out.lt).look 7 rfl
  refine wp_walkJ (T := Below (w6.heap.size)) (belowV_pre _) (.rd 0 (.rd 2 (.rd 4 (.mv 1 (.mv 3 (.bt 5 (.bt 6 (.rd 7 (.rd 8 (.rd 9 (.rd 10 (.rd 11 (.inv []))))))))))))) (by kernel_rfl) rfl (by kernel_rfl) (by kernel_rfl) ?_
  iterate 3 (refine walkJ_rd rfl (fun K hK => ?_); go_simp; refine hK _ ?_; clear hK K)
  clear z0 z1 z2 z3 z4 z5 z6 z7
  have hb := (Below.refl w6.heap.size w6).drew
  replace HV1 := hid (HV1.out.below hb)
  replace HV2 := hid (HV2.out.below hb)
  replace HVA := hid (HVA.out.below hb)
  replace HKU := hid (HKU.out.below hb)
  replace HBW := hid (HBW.out.trans (hb.mono HBW.out.size))
  have HSZ : Hid (w6.heap.size ≤ w6.drew.heap.size) := hid (Nat.le_refl _)
  clear hb
  generalize w6.drew = w7 at HSZ HKU HBW HV1 HV2 HVA ⊢
  (refine walkJ_mv rfl (fun K hK => ?_); go_simp; refine (SA.out _ HV1.out).mono ?_; rintro e9 w8 ⟨⟨z1, rfl, hz1⟩, hb⟩; refine ⟨_, rfl, hK _ _ (hb.mono HSZ.out) ?_⟩; clear hK K)
  replace HV1 := hid (HV1.out.below hb)
  replace HV2 := hid (HV2.out.below hb)
  replace HVA := hid (HVA.out.below hb)
  replace HKU := hid (HKU.out.below hb)
  replace HBW := hid (HBW.out.trans (hb.mono HBW.out.size))
  replace HSZ : Hid (_ ≤ w8.heap.size) := hid (Nat.le_trans HSZ.out hb.size)
  have HZ1 := hid (gs_zero hz1)
  clear hz1
  clear hb
  (refine walkJ_mv rfl (fun K hK => ?_); go_simp; refine (SB.out _ HV2.out).mono ?_; rintro e9 w9 ⟨⟨z2, rfl, hz2⟩, hb⟩; refine ⟨_, rfl, hK _ _ (hb.mono HSZ.out) ?_⟩; clear hK K)
  replace HV1 := hid (HV1.out.below hb)
  replace HV2 := hid (HV2.out.below hb)
  replace HVA := hid (HVA.out.below hb)
  replace HZ1 := hid (HZ1.out.below hb)
  replace HKU := hid (HKU.out.below hb)
  replace HBW := hid (HBW.out.trans (hb.mono HBW.out.size))
  replace HSZ : Hid (_ ≤ w9.heap.size) := hid (Nat.le_trans HSZ.out hb.size)
  have HZ2 := hid (gs_zero hz2)
  clear hz2
  clear hb
  (refine walkJ_bt rfl (fun K hK => ?_); go_simp; refine (RU.out _).mono ?_; rintro e9 w10 ⟨rfl, hb⟩; refine ⟨_, rfl, hK _ _ ?_⟩; clear hK K)
  replace HV1 := hid (HV1.out.below hb)
  replace HV2 := hid (HV2.out.below hb)
  replace HVA := hid (HVA.out.below hb)
  replace HZ1 := hid (HZ1.out.below hb)
  replace HZ2 := hid (HZ2.out.below hb)
  replace HKU := hid (HKU.out.below hb)
  replace HBW := hid (HBW.out.trans (hb.mono HBW.out.size))
  replace HSZ : Hid (_ ≤ w10.heap.size) := hid (Nat.le_trans HSZ.out hb.size)
  clear hb
  (refine walkJ_bt rfl (fun K hK => ?_); go_simp; refine (MB.out z1 z2 _ HZ1.out HZ2.out).mono ?_; rintro e9 w11 ⟨rfl, hb⟩; refine ⟨_, rfl, hK _ _ ?_⟩; clear hK K)
  replace HV1 := hid (HV1.out.below hb)
  replace HV2 := hid (HV2.out.below hb)
  replace HVA := hid (HVA.out.below hb)
  replace HKU := hid (HKU.out.below hb)
  replace HBW := hid (HBW.out.trans (hb.mono HBW.out.size))
  replace HSZ : Hid (_ ≤ w11.heap.size) := hid (Nat.le_trans HSZ.out hb.size)
  clear hb
  clear HZ1 HZ2 HSZ
  iterate 5 (refine walkJ_rd rfl (fun K hK => ?_); go_simp; refine hK _ ?_; clear hK K)
  refine walkJ_nil ?_
  go_wp2_with fail
  have z0 := fun y : SubT (Below w11.heap.size) w11.drew => (HKU.out.drew.below' y.b HKU.out.lt).look 0 rfl
  have z1 := fun y : SubT (Below w11.heap.size) w11.drew => (HKU.out.drew.below' y.b HKU.out.lt).look 1 rfl
  have z2 := fun y : SubT (Below w11.heap.size) w11.drew => (HKU.out.drew.below' y.b HKU.out.lt).look 2 rfl
  have z3 := fun y : SubT (Below w11.heap.size) w11.drew => (HKU.out.drew.below' y.b HKU.out.lt).look 3 rfl
  have z4 := fun y : SubT (Below w11.heap.size) w11.drew => (HKU.out.drew.below' y.b HKU.out.lt).look 4 rfl
  have z5 := fun y : SubT (Below w11.heap.size) w11.drew => (HKU.out.drew.below' y.b HKU.out.lt).look 5 rfl
  have z6 := fun y : SubT (Below w11.heap.size) w11.drew => (HKU.out.drew.below' y.b HKU.out.lt).look 6 rfl
  have z7 := fun y : SubT (Below w11.heap.size) w11.drew => (HKU.out.drew.below' y.b HKU.out.lt).look 7 rfl
  refine wp_walkJ (T := Below (w11.heap.size)) (belowV_pre _) (.rd 0 (.rd 2 (.mv 1 (.bt 3 (.bt 4 (.rd 5 (.rd 6 (.rd 7 (.rd 8 (.rd 9 (.inv []))))))))))) (by kernel_rfl) rfl (by kernel_rfl) (by kernel_rfl) ?_
  iterate 2 (refine walkJ_rd rfl (fun K hK => ?_); go_simp; refine hK _ ?_; clear hK K)
  clear z0 z1 z2 z3 z4 z5 z6 z7
  have hb := (Below.refl w11.heap.size w11).drew
  replace HV1 := hid (HV1.out.below hb)
  replace HV2 := hid (HV2.out.below hb)
  replace HVA := hid (HVA.out.below hb)
  replace HKU := hid (HKU.out.below hb)
  replace HBW := hid (HBW.out.trans (hb.mono HBW.out.size))
  have HSZ : Hid (w11.heap.size ≤ w11.drew.heap.size) := hid (Nat.le_refl _)
  clear hb
  generalize w11.drew = w12 at HSZ HKU HBW HV1 HV2 HVA ⊢
  (refine walkJ_mv rfl (fun K hK => ?_); go_simp; refine (SC.out _ _ HVA.out).mono ?_; rintro e9 w13 ⟨⟨z3, rfl, hz3⟩, hb⟩; refine ⟨_, rfl, hK _ _ (hb.mono HSZ.out) ?_⟩; clear hK K)
  replace HV1 := hid (HV1.out.below hb)
  replace HV2 := hid (HV2.out.below hb)
  replace HVA := hid (HVA.out.below hb)
  replace HKU := hid (HKU.out.below hb)
  replace HBW := hid (HBW.out.trans (hb.mono HBW.out.size))
  replace HSZ : Hid (_ ≤ w13.heap.size) := hid (Nat.le_trans HSZ.out hb.size)
  have HZ3 := hid (gs_zero hz3)
  clear hz3
  clear hb
  (refine walkJ_bt rfl (fun K hK => ?_); go_simp; refine (RU.out _).mono ?_; rintro e9 w14 ⟨rfl, hb⟩; refine ⟨_, rfl, hK _ _ ?_⟩; clear hK K)
  replace HV1 := hid (HV1.out.below hb)
  replace HV2 := hid (HV2.out.below hb)
  replace HVA := hid (HVA.out.below hb)
  replace HZ3 := hid (HZ3.out.below hb)
  replace HKU := hid (HKU.out.below hb)
  replace HBW := hid (HBW.out.trans (hb.mono HBW.out.size))
  replace HSZ : Hid (_ ≤ w14.heap.size) := hid (Nat.le_trans HSZ.out hb.size)
  clear hb
  (refine walkJ_bt rfl (fun K hK => ?_); go_simp; refine (HE.out z3 _ HZ3.out).mono ?_; rintro e9 w15 ⟨⟨z4, rfl, hz4⟩, hb⟩; refine ⟨_, rfl, hK _ _ ?_⟩; clear hK K)
  replace HV1 := hid (HV1.out.below hb)
  replace HV2 := hid (HV2.out.below hb)
  replace HVA := hid (HVA.out.below hb)
  replace HKU := hid (HKU.out.below hb)
  replace HBW := hid (HBW.out.trans (hb.mono HBW.out.size))
  replace HSZ : Hid (_ ≤ w15.heap.size) := hid (Nat.le_trans HSZ.out hb.size)
  have HM := hid hz4
  clear hz4
  clear hb
  clear HZ3 HSZ
  iterate 5 (refine walkJ_rd rfl (fun K hK => ?_); go_simp; refine hK _ ?_; clear hK K)
  refine walkJ_nil ?_
  have r0 := HKU.out.look 0 rfl
  have r1 := HKU.out.look 1 rfl
  have r2 := HKU.out.look 2 rfl
  have r3 := HKU.out.look 3 rfl
  have r4 := HKU.out.look 4 rfl
  have r5 := HKU.out.look 5 rfl
  have r6 := HKU.out.look 6 rfl
  have r7 := HKU.out.look 7 rfl
  go_wp2_with fail
  clear r0 r1 r2 r3 r4 r5 r6 r7
  refine (GO.out _ HV1.out HV2.out).mono ?_
  rintro e9 w16 ⟨rfl, hb⟩
  replace HV1 := hid (HV1.out.below hb)
  replace HV2 := hid (HV2.out.below hb)
  replace HVA := hid (HVA.out.below hb)
  replace HKU := hid (HKU.out.below hb)
  replace HBW := hid (HBW.out.trans (hb.mono HBW.out.size))
  replace HM := hid (fun a b => (HM.out a b).below hb)
  clear hb
  cases g with
  | false =>
    clear HG HS HRK HN1 PR BR OD HPL
    cases s <;> cases rk
    · simp only [eN_t, eN_f, Bool.and_true, Bool.and_false, Bool.false_and, Bool.true_and] at GN ⊢
      have r0 := HKU.out.look 0 rfl
      have r1 := HKU.out.look 1 rfl
      have r2 := HKU.out.look 2 rfl
      have r3 := HKU.out.look 3 rfl
      have r4 := HKU.out.look 4 rfl
      have r5 := HKU.out.look 5 rfl
      have r6 := HKU.out.look 6 rfl
      have r7 := HKU.out.look 7 rfl
      go_wp2_with fail
      clear r0 r1 r2 r3 r4 r5 r6 r7
      refine (GO.out _ HV1.out HV2.out).mono ?_
      rintro e9 w20 ⟨rfl, hb⟩
      replace HV1 := hid (HV1.out.below hb)
      replace HV2 := hid (HV2.out.below hb)
      replace HVA := hid (HVA.out.below hb)
      replace HKU := hid (HKU.out.below hb)
      replace HBW := hid (HBW.out.trans (hb.mono HBW.out.size))
      replace HM := hid (fun a b => (HM.out a b).below hb)
      clear hb
      have r0 := HKU.out.look 0 rfl
      have r1 := HKU.out.look 1 rfl
      have r2 := HKU.out.look 2 rfl
      have r3 := HKU.out.look 3 rfl
      have r4 := HKU.out.look 4 rfl
      have r5 := HKU.out.look 5 rfl
      have r6 := HKU.out.look 6 rfl
      have r7 := HKU.out.look 7 rfl
      go_wp2_with fail
      clear r0 r1 r2 r3 r4 r5 r6 r7
      refine (GN.out _ _ _ HVA.out (gs_nil _)).mono ?_
      rintro e9 w21 ⟨rfl, hb⟩
      replace HV1 := hid (HV1.out.below hb)
      replace HV2 := hid (HV2.out.below hb)
      replace HVA := hid (HVA.out.below hb)
      replace HKU := hid (HKU.out.below hb)
      replace HBW := hid (HBW.out.trans (hb.mono HBW.out.size))
      replace HM := hid (fun a b => (HM.out a b).below hb)
      clear hb
      go_wp2_with fail
      refine (PA.out _).mono ?_
      rintro e9 w22 ⟨rfl, hb⟩
      replace HV1 := hid (HV1.out.below hb)
      replace HV2 := hid (HV2.out.below hb)
      replace HVA := hid (HVA.out.below hb)
      replace HKU := hid (HKU.out.below hb)
      replace HBW := hid (HBW.out.trans (hb.mono HBW.out.size))
      replace HM := hid (fun a b => (HM.out a b).below hb)
      clear hb
      go_wp2
      go_ret
      exact ⟨rfl, HBW.out⟩
    · simp only [eN_t, eN_f, Bool.and_true, Bool.and_false, Bool.false_and, Bool.true_and] at GN ⊢
      have r0 := HKU.out.look 0 rfl
      have r1 := HKU.out.look 1 rfl
      have r2 := HKU.out.look 2 rfl
      have r3 := HKU.out.look 3 rfl
      have r4 := HKU.out.look 4 rfl
      have r5 := HKU.out.look 5 rfl
      have r6 := HKU.out.look 6 rfl
      have r7 := HKU.out.look 7 rfl
      go_wp2_with fail
      clear r0 r1 r2 r3 r4 r5 r6 r7
      refine (GO.out _ HV1.out HV2.out).mono ?_
      rintro e9 w20 ⟨rfl, hb⟩
      replace HV1 := hid (HV1.out.below hb)
      replace HV2 := hid (HV2.out.below hb)
      replace HVA := hid (HVA.out.below hb)
      replace HKU := hid (HKU.out.below hb)
      replace HBW := hid (HBW.out.trans (hb.mono HBW.out.size))
      replace HM := hid (fun a b => (HM.out a b).below hb)
      clear hb
      have r0 := HKU.out.look 0 rfl
      have r1 := HKU.out.look 1 rfl
      have r2 := HKU.out.look 2 rfl
      have r3 := HKU.out.look 3 rfl
      have r4 := HKU.out.look 4 rfl
      have r5 := HKU.out.look 5 rfl
      have r6 := HKU.out.look 6 rfl
      have r7 := HKU.out.look 7 rfl
      go_wp2_with fail
      clear r0 r1 r2 r3 r4 r5 r6 r7
      refine (GN.out _ _ _ HVA.out (gs_nil _)).mono ?_
      rintro e9 w21 ⟨rfl, hb⟩
      replace HV1 := hid (HV1.out.below hb)
      replace HV2 := hid (HV2.out.below hb)
      replace HVA := hid (HVA.out.below hb)
      replace HKU := hid (HKU.out.below hb)
      replace HBW := hid (HBW.out.trans (hb.mono HBW.out.size))
      replace HM := hid (fun a b => (HM.out a b).below hb)
      clear hb
      go_wp2_with fail
      refine (PA.out _).mono ?_
      rintro e9 w22 ⟨rfl, hb⟩
      replace HV1 := hid (HV1.out.below hb)
      replace HV2 := hid (HV2.out.below hb)
      replace HVA := hid (HVA.out.below hb)
      replace HKU := hid (HKU.out.below hb)
      replace HBW := hid (HBW.out.trans (hb.mono HBW.out.size))
      replace HM := hid (fun a b => (HM.out a b).below hb)
      clear hb
      go_wp2
      go_ret
      exact ⟨rfl, HBW.out⟩
    · simp only [eN_t, eN_f, Bool.and_true, Bool.and_false, Bool.false_and, Bool.true_and] at GN ⊢
      have r0 := HKU.out.look 0 rfl
      have r1 := HKU.out.look 1 rfl
      have r2 := HKU.out.look 2 rfl
      have r3 := HKU.out.look 3 rfl
      have r4 := HKU.out.look 4 rfl
      have r5 := HKU.out.look 5 rfl
      have r6 := HKU.out.look 6 rfl
      have r7 := HKU.out.look 7 rfl
      go_wp2_with fail
      clear r0 r1 r2 r3 r4 r5 r6 r7
      refine (GO.out _ HV1.out HV2.out).mono ?_
      rintro e9 w20 ⟨rfl, hb⟩
      replace HV1 := hid (HV1.out.below hb)
      replace HV2 := hid (HV2.out.below hb)
      replace HVA := hid (HVA.out.below hb)
      replace HKU := hid (HKU.out.below hb)
      replace HBW := hid (HBW.out.trans (hb.mono HBW.out.size))
      replace HM := hid (fun a b => (HM.out a b).below hb)
      clear hb
      have r0 := HKU.out.look 0 rfl
      have r1 := HKU.out.look 1 rfl
      have r2 := HKU.out.look 2 rfl
      have r3 := HKU.out.look 3 rfl
      have r4 := HKU.out.look 4 rfl
      have r5 := HKU.out.look 5 rfl
      have r6 := HKU.out.look 6 rfl
      have r7 := HKU.out.look 7 rfl
      go_wp2_with fail
      clear r0 r1 r2 r3 r4 r5 r6 r7
      refine (GN.out _ _ _ HVA.out (gs_nil _)).mono ?_
      rintro e9 w21 ⟨rfl, hb⟩
      replace HV1 := hid (HV1.out.below hb)
      replace HV2 := hid (HV2.out.below hb)
      replace HVA := hid (HVA.out.below hb)
      replace HKU := hid (HKU.out.below hb)
      replace HBW := hid (HBW.out.trans (hb.mono HBW.out.size))
      replace HM := hid (fun a b => (HM.out a b).below hb)
      clear hb
      go_wp2_with fail
      refine (PA.out _).mono ?_
      rintro e9 w22 ⟨rfl, hb⟩
      replace HV1 := hid (HV1.out.below hb)
      replace HV2 := hid (HV2.out.below hb)
      replace HVA := hid (HVA.out.below hb)
      replace HKU := hid (HKU.out.below hb)
      replace HBW := hid (HBW.out.trans (hb.mono HBW.out.size))
      replace HM := hid (fun a b => (HM.out a b).below hb)
      clear hb
      go_wp2
      go_ret
      exact ⟨rfl, HBW.out⟩
    · simp only [eN_t, eN_f, Bool.and_true, Bool.and_false, Bool.false_and, Bool.true_and] at GN ⊢
      have r0 := HKU.out.look 0 rfl
      have r1 := HKU.out.look 1 rfl
      have r2 := HKU.out.look 2 rfl
      have r3 := HKU.out.look 3 rfl
      have r4 := HKU.out.look 4 rfl
      have r5 := HKU.out.look 5 rfl
      have r6 := HKU.out.look 6 rfl
      have r7 := HKU.out.look 7 rfl
      go_wp2_with fail
      clear r0 r1 r2 r3 r4 r5 r6 r7
      refine (GO.out _ HV1.out HV2.out).mono ?_
      rintro e9 w20 ⟨rfl, hb⟩
      replace HV1 := hid (HV1.out.below hb)
      replace HV2 := hid (HV2.out.below hb)
      replace HVA := hid (HVA.out.below hb)
      replace HKU := hid (HKU.out.below hb)
      replace HBW := hid (HBW.out.trans (hb.mono HBW.out.size))
      replace HM := hid (fun a b => (HM.out a b).below hb)
      clear hb
      have r0 := HKU.out.look 0 rfl
      have r1 := HKU.out.look 1 rfl
      have r2 := HKU.out.look 2 rfl
      have r3 := HKU.out.look 3 rfl
      have r4 := HKU.out.look 4 rfl
      have r5 := HKU.out.look 5 rfl
      have r6 := HKU.out.look 6 rfl
      have r7 := HKU.out.look 7 rfl
      go_wp2_with fail
      clear r0 r1 r2 r3 r4 r5 r6 r7
      refine (GN.out _ _ _ HVA.out (gs_nil _)).mono ?_
      rintro e9 w21 ⟨rfl, hb⟩
      replace HV1 := hid (HV1.out.below hb)
      replace HV2 := hid (HV2.out.below hb)
      replace HVA := hid (HVA.out.below hb)
      replace HKU := hid (HKU.out.below hb)
      replace HBW := hid (HBW.out.trans (hb.mono HBW.out.size))
      replace HM := hid (fun a b => (HM.out a b).below hb)
      clear hb
      go_wp2_with fail
      refine (PA.out _).mono ?_
      rintro e9 w22 ⟨rfl, hb⟩
      replace HV1 := hid (HV1.out.below hb)
      replace HV2 := hid (HV2.out.below hb)
      replace HVA := hid (HVA.out.below hb)
      replace HKU := hid (HKU.out.below hb)
      replace HBW := hid (HBW.out.trans (hb.mono HBW.out.size))
      replace HM := hid (fun a b => (HM.out a b).below hb)
      clear hb
      go_wp2
      go_ret
      exact ⟨rfl, HBW.out⟩
  | true =>
    go_wp2_with fail
    refine (SI.out _ _ HVA.out).mono ?_
    rintro e9 w17 ⟨rfl, hb⟩
    replace HV1 := hid (HV1.out.below hb)
    replace HV2 := hid (HV2.out.below hb)
    replace HVA := hid (HVA.out.below hb)
    replace HKU := hid (HKU.out.below hb)
    replace HBW := hid (HBW.out.trans (hb.mono HBW.out.size))
    replace HM := hid (fun a b => (HM.out a b).below hb)
    clear hb
    cases s with
    | false =>
      cases rk
      · simp only [eN_t, eN_f, Bool.and_true, Bool.and_false, Bool.false_and, Bool.true_and] at GN ⊢
        have r0 := HKU.out.look 0 rfl
        have r1 := HKU.out.look 1 rfl
        have r2 := HKU.out.look 2 rfl
        have r3 := HKU.out.look 3 rfl
        have r4 := HKU.out.look 4 rfl
        have r5 := HKU.out.look 5 rfl
        have r6 := HKU.out.look 6 rfl
        have r7 := HKU.out.look 7 rfl
        go_wp2_with fail
        clear r0 r1 r2 r3 r4 r5 r6 r7
        refine (GO.out _ HV1.out HV2.out).mono ?_
        rintro e9 w20 ⟨rfl, hb⟩
        replace HV1 := hid (HV1.out.below hb)
        replace HV2 := hid (HV2.out.below hb)
        replace HVA := hid (HVA.out.below hb)
        replace HKU := hid (HKU.out.below hb)
        replace HBW := hid (HBW.out.trans (hb.mono HBW.out.size))
        replace HM := hid (fun a b => (HM.out a b).below hb)
        clear hb
        have r0 := HKU.out.look 0 rfl
        have r1 := HKU.out.look 1 rfl
        have r2 := HKU.out.look 2 rfl
        have r3 := HKU.out.look 3 rfl
        have r4 := HKU.out.look 4 rfl
        have r5 := HKU.out.look 5 rfl
        have r6 := HKU.out.look 6 rfl
        have r7 := HKU.out.look 7 rfl
        go_wp2_with fail
        clear r0 r1 r2 r3 r4 r5 r6 r7
        refine (GN.out _ _ _ HVA.out (gs_nil _)).mono ?_
        rintro e9 w21 ⟨rfl, hb⟩
        replace HV1 := hid (HV1.out.below hb)
        replace HV2 := hid (HV2.out.below hb)
        replace HVA := hid (HVA.out.below hb)
        replace HKU := hid (HKU.out.below hb)
        replace HBW := hid (HBW.out.trans (hb.mono HBW.out.size))
        replace HM := hid (fun a b => (HM.out a b).below hb)
        clear hb
        go_wp2_with fail
        refine (PA.out _).mono ?_
        rintro e9 w22 ⟨rfl, hb⟩
        replace HV1 := hid (HV1.out.below hb)
        replace HV2 := hid (HV2.out.below hb)
        replace HVA := hid (HVA.out.below hb)
        replace HKU := hid (HKU.out.below hb)
        replace HBW := hid (HBW.out.trans (hb.mono HBW.out.size))
        replace HM := hid (fun a b => (HM.out a b).below hb)
        clear hb
        go_wp2
        go_ret
        exact ⟨rfl, HBW.out⟩
      · simp only [eN_t, eN_f, Bool.and_true, Bool.and_false, Bool.false_and, Bool.true_and] at GN ⊢
        have r0 := HKU.out.look 0 rfl
        have r1 := HKU.out.look 1 rfl
        have r2 := HKU.out.look 2 rfl
        have r3 := HKU.out.look 3 rfl
        have r4 := HKU.out.look 4 rfl
        have r5 := HKU.out.look 5 rfl
        have r6 := HKU.out.look 6 rfl
        have r7 := HKU.out.look 7 rfl
        go_wp2_with fail
        clear r0 r1 r2 r3 r4 r5 r6 r7
        refine (GO.out _ HV1.out HV2.out).mono ?_
        rintro e9 w20 ⟨rfl, hb⟩
        replace HV1 := hid (HV1.out.below hb)
        replace HV2 := hid (HV2.out.below hb)
        replace HVA := hid (HVA.out.below hb)
        replace HKU := hid (HKU.out.below hb)
        replace HBW := hid (HBW.out.trans (hb.mono HBW.out.size))
        replace HM := hid (fun a b => (HM.out a b).below hb)
        clear hb
        have r0 := HKU.out.look 0 rfl
        have r1 := HKU.out.look 1 rfl
        have r2 := HKU.out.look 2 rfl
        have r3 := HKU.out.look 3 rfl
        have r4 := HKU.out.look 4 rfl
        have r5 := HKU.out.look 5 rfl
        have r6 := HKU.out.look 6 rfl
        have r7 := HKU.out.look 7 rfl
        go_wp2_with fail
        clear r0 r1 r2 r3 r4 r5 r6 r7
        refine (GN.out _ _ _ HVA.out (gs_nil _)).mono ?_
        rintro e9 w21 ⟨rfl, hb⟩
        replace HV1 := hid (HV1.out.below hb)
        replace HV2 := hid (HV2.out.below hb)
        replace HVA := hid (HVA.out.below hb)
        replace HKU := hid (HKU.out.below hb)
        replace HBW := hid (HBW.out.trans (hb.mono HBW.out.size))
        replace HM := hid (fun a b => (HM.out a b).below hb)
        clear hb
        go_wp2_with fail
        refine (PA.out _).mono ?_
        rintro e9 w22 ⟨rfl, hb⟩
        replace HV1 := hid (HV1.out.below hb)
        replace HV2 := hid (HV2.out.below hb)
        replace HVA := hid (HVA.out.below hb)
        replace HKU := hid (HKU.out.below hb)
        replace HBW := hid (HBW.out.trans (hb.mono HBW.out.size))
        replace HM := hid (fun a b => (HM.out a b).below hb)
        clear hb
        go_wp2
        go_ret
        exact ⟨rfl, HBW.out⟩
    | true =>
      have hOK : SideOk l ∧ SideOk r ∧ RuOk ⟨⟨wa, wb, wc, wd⟩, ⟨la, lb, lc, ld⟩⟩ := by
        have := HG.out
        unfold goodB at this
        simp only [Bool.and_eq_true] at this
        exact ⟨of_decide_eq_true this.1.1, of_decide_eq_true this.1.2, (rokB_iff _).1 this.2⟩
      obtain ⟨hsl, hsr, hru⟩ := hOK
      have hsa : SideOk (l ++ r) := of_decide_eq_true HS.out
      have hcut : cut34 (l ++ r) = l ++ r := cut_same hsa
      have hrk : rk = true := by rw [← HRK.out]; exact rokB_true hru
      have hn1 : n1 = (mostN l r ⟨⟨wa, wb, wc, wd⟩, ⟨la, lb, lc, ld⟩⟩ : Int) := by
        rw [← HN1.out]
        unfold mN
        rw [goodB_cut, HG.out, if_pos rfl]
        unfold cut34
        rw [cut_same hsl, cut_same hsr]
      subst hrk
      rw [hcut] at SC PR BR OD HM
      obtain ⟨gm, m, e, hge, hm, hM, hE⟩ := (HM.out hsa hru).out
      cases e
      have hmN := hm
      rw [HNN.out] at hmN ⊢
      have HMB := hid hmN
      have HMM := hid hM
      have HME := hid hE
      have HN9 := hid hn1
      have HSA := hid hsa
      have HRU := hid hru
      have HSL := hid hsl
      have HSR := hid hsr
      have hN32 : N ≤ 32 := by have := hsa.1; rw [HNN.out] at this; exact this
      clear hm hmN hM hE hge HM hn1 hcut hsa hru hsl hsr HG HS HRK HN1 GO GN SA SB MB HE SI
      simp only [eN_t, Bool.and_true]
      go_wp2_with fail
      have z0 := fun y : SubT (Below w17.heap.size) w17.drew => (HKU.out.drew.below' y.b HKU.out.lt).look 0 rfl
      have z1 := fun y : SubT (Below w17.heap.size) w17.drew => (HKU.out.drew.below' y.b HKU.out.lt).look 1 rfl
      have z2 := fun y : SubT (Below w17.heap.size) w17.drew => (HKU.out.drew.below' y.b HKU.out.lt).look 2 rfl
      have z3 := fun y : SubT (Below w17.heap.size) w17.drew => (HKU.out.drew.below' y.b HKU.out.lt).look 3 rfl
      have z4 := fun y : SubT (Below w17.heap.size) w17.drew => (HKU.out.drew.below' y.b HKU.out.lt).look 4 rfl
      have z5 := fun y : SubT (Below w17.heap.size) w17.drew => (HKU.out.drew.below' y.b HKU.out.lt).look 5 rfl
      have z6 := fun y : SubT (Below w17.heap.size) w17.drew => (HKU.out.drew.below' y.b HKU.out.lt).look 6 rfl
      have z7 := fun y : SubT (Below w17.heap.size) w17.drew => (HKU.out.drew.below' y.b HKU.out.lt).look 7 rfl
      refine wp_walkJ (T := Below (w17.heap.size)) (belowV_pre _) (.rd 0 (.rd 2 (.rd 4 (.mv 1 (.mv 3 (.bt 5 (.rd 6 (.rd 7 (.rd 8 (.rd 9 (.rd 10 (.inv [])))))))))))) (by kernel_rfl) rfl (by kernel_rfl) (by kernel_rfl) ?_
      iterate 3 (refine walkJ_rd rfl (fun K hK => ?_); go_simp; refine hK _ ?_; clear hK K)
      clear z0 z1 z2 z3 z4 z5 z6 z7
      have hb := (Below.refl w17.heap.size w17).drew
      replace HV1 := hid (HV1.out.below hb)
      replace HV2 := hid (HV2.out.below hb)
      replace HVA := hid (HVA.out.below hb)
      replace HMB := hid (HMB.out.below hb)
      replace HKU := hid (HKU.out.below hb)
      replace HBW := hid (HBW.out.trans (hb.mono HBW.out.size))
      have HSZ : Hid (w17.heap.size ≤ w17.drew.heap.size) := hid (Nat.le_refl _)
      clear hb
      generalize w17.drew = w18 at HSZ HKU HBW HV1 HV2 HVA HMB ⊢
      (refine walkJ_mv rfl (fun K hK => ?_); go_simp; refine (SC.out _ _ HVA.out).mono ?_; rintro e9 w19 ⟨⟨z5, rfl, hz5⟩, hb⟩; refine ⟨_, rfl, hK _ _ (hb.mono HSZ.out) ?_⟩; clear hK K)
      replace HV1 := hid (HV1.out.below hb)
      replace HV2 := hid (HV2.out.below hb)
      replace HVA := hid (HVA.out.below hb)
      replace HMB := hid (HMB.out.below hb)
      replace HKU := hid (HKU.out.below hb)
      replace HBW := hid (HBW.out.trans (hb.mono HBW.out.size))
      replace HSZ : Hid (_ ≤ w19.heap.size) := hid (Nat.le_trans HSZ.out hb.size)
      have HZ5 := hid (gs_zero hz5)
      clear hz5
      clear hb
      (refine walkJ_mv rfl (fun K hK => ?_); go_simp; refine (RU.out _).mono ?_; rintro e9 w20 ⟨rfl, hb⟩; refine ⟨_, rfl, hK _ _ (hb.mono HSZ.out) ?_⟩; clear hK K)
      replace HV1 := hid (HV1.out.below hb)
      replace HV2 := hid (HV2.out.below hb)
      replace HVA := hid (HVA.out.below hb)
      replace HMB := hid (HMB.out.below hb)
      replace HZ5 := hid (HZ5.out.below hb)
      replace HKU := hid (HKU.out.below hb)
      replace HBW := hid (HBW.out.trans (hb.mono HBW.out.size))
      replace HSZ : Hid (_ ≤ w20.heap.size) := hid (Nat.le_trans HSZ.out hb.size)
      clear hb
      (refine walkJ_bt rfl (fun K hK => ?_); go_simp; refine (PR.out z5 _ HZ5.out HSA.out HRU.out gm N m HNN.out HMB.out HMM.out).mono ?_; rintro e9 w21 ⟨rfl, hb⟩; refine ⟨_, rfl, hK _ _ ?_⟩; clear hK K)
      replace HV1 := hid (HV1.out.below hb)
      replace HV2 := hid (HV2.out.below hb)
      replace HVA := hid (HVA.out.below hb)
      replace HKU := hid (HKU.out.below hb)
      replace HBW := hid (HBW.out.trans (hb.mono HBW.out.size))
      replace HSZ : Hid (_ ≤ w21.heap.size) := hid (Nat.le_trans HSZ.out hb.size)
      clear hb
      clear HZ5 HSZ HMB PR
      iterate 5 (refine walkJ_rd rfl (fun K hK => ?_); go_simp; refine hK _ ?_; clear hK K)
      refine walkJ_nil ?_
      go_wp2_with fail
      have z0 := fun y : SubT (Below w21.heap.size) w21.drew => (HKU.out.drew.below' y.b HKU.out.lt).look 0 rfl
      have z1 := fun y : SubT (Below w21.heap.size) w21.drew => (HKU.out.drew.below' y.b HKU.out.lt).look 1 rfl
      have z2 := fun y : SubT (Below w21.heap.size) w21.drew => (HKU.out.drew.below' y.b HKU.out.lt).look 2 rfl
      have z3 := fun y : SubT (Below w21.heap.size) w21.drew => (HKU.out.drew.below' y.b HKU.out.lt).look 3 rfl
      have z4 := fun y : SubT (Below w21.heap.size) w21.drew => (HKU.out.drew.below' y.b HKU.out.lt).look 4 rfl
      have z5 := fun y : SubT (Below w21.heap.size) w21.drew => (HKU.out.drew.below' y.b HKU.out.lt).look 5 rfl
      have z6 := fun y : SubT (Below w21.heap.size) w21.drew => (HKU.out.drew.below' y.b HKU.out.lt).look 6 rfl
      have z7 := fun y : SubT (Below w21.heap.size) w21.drew => (HKU.out.drew.below' y.b HKU.out.lt).look 7 rfl
      refine wp_walkJ (T := Below (w21.heap.size)) (belowV_pre _) (.rd 0 (.rd 2 (.mv 1 (.bt 3 (.bt 4 (.rd 5 (.rd 6 (.rd 7 (.rd 8 (.rd 9 (.inv []))))))))))) (by kernel_rfl) rfl (by kernel_rfl) (by kernel_rfl) ?_
      iterate 2 (refine walkJ_rd rfl (fun K hK => ?_); go_simp; refine hK _ ?_; clear hK K)
      clear z0 z1 z2 z3 z4 z5 z6 z7
      have hb := (Below.refl w21.heap.size w21).drew
      replace HV1 := hid (HV1.out.below hb)
      replace HV2 := hid (HV2.out.below hb)
      replace HVA := hid (HVA.out.below hb)
      replace HKU := hid (HKU.out.below hb)
      replace HBW := hid (HBW.out.trans (hb.mono HBW.out.size))
      have HSZ : Hid (w21.heap.size ≤ w21.drew.heap.size) := hid (Nat.le_refl _)
      clear hb
      generalize w21.drew = w22 at HSZ HKU HBW HV1 HV2 HVA ⊢
      (refine walkJ_mv rfl (fun K hK => ?_); go_simp; refine (SC.out _ _ HVA.out).mono ?_; rintro e9 w23 ⟨⟨z6, rfl, hz6⟩, hb⟩; refine ⟨_, rfl, hK _ _ (hb.mono HSZ.out) ?_⟩; clear hK K)
      replace HV1 := hid (HV1.out.below hb)
      replace HV2 := hid (HV2.out.below hb)
      replace HVA := hid (HVA.out.below hb)
      replace HKU := hid (HKU.out.below hb)
      replace HBW := hid (HBW.out.trans (hb.mono HBW.out.size))
      replace HSZ : Hid (_ ≤ w23.heap.size) := hid (Nat.le_trans HSZ.out hb.size)
      have HZ6 := hid (gs_zero hz6)
      clear hz6
      clear hb
      (refine walkJ_bt rfl (fun K hK => ?_); go_simp; refine (RU.out _).mono ?_; rintro e9 w24 ⟨rfl, hb⟩; refine ⟨_, rfl, hK _ _ ?_⟩; clear hK K)
      replace HV1 := hid (HV1.out.below hb)
      replace HV2 := hid (HV2.out.below hb)
      replace HVA := hid (HVA.out.below hb)
      replace HZ6 := hid (HZ6.out.below hb)
      replace HKU := hid (HKU.out.below hb)
      replace HBW := hid (HBW.out.trans (hb.mono HBW.out.size))
      replace HSZ : Hid (_ ≤ w24.heap.size) := hid (Nat.le_trans HSZ.out hb.size)
      clear hb
      (refine walkJ_bt rfl (fun K hK => ?_); go_simp; refine (BR.out z6 _ HZ6.out HSA.out HRU.out).mono ?_; rintro e9 w25 ⟨hP, hb⟩; obtain ⟨m2, b, vb, rfl, q1, q2, q3, q4, q5⟩ := hP.out; refine ⟨_, rfl, hK _ _ ?_⟩; clear hK K)
      replace HV1 := hid (HV1.out.below hb)
      replace HV2 := hid (HV2.out.below hb)
      replace HVA := hid (HVA.out.below hb)
      replace HKU := hid (HKU.out.below hb)
      replace HBW := hid (HBW.out.trans (hb.mono HBW.out.size))
      obtain ⟨bo, bc, rfl, -, -, -⟩ := id q1
      have HVB := hid q1
      have HQ2 := hid q2
      have HQ3 := hid q3
      have HQ4 := hid q4
      have HQ5 := hid q5
      clear hb hP q1 q2 q3 q4 q5 HZ6 HSZ BR
      iterate 5 (refine walkJ_rd rfl (fun K hK => ?_); go_simp; refine hK _ ?_; clear hK K)
      refine walkJ_nil ?_
      obtain ⟨bl, hbl⟩ : ∃ z, b.length = z := ⟨_, rfl⟩
      have HBL := hid hbl
      have HOB := hid (fun z w h hv hx hs => OD.out z (.slice bo b.length bc) b w h HSA.out HRU.out hv hx hs)
      rw [hbl] at HOB HVB ⊢
      clear hbl OD
      go_wp2_with fail
      have z0 := fun y : SubT (Below w25.heap.size) w25.drew => (HKU.out.drew.below' y.b HKU.out.lt).look 0 rfl
      have z1 := fun y : SubT (Below w25.heap.size) w25.drew => (HKU.out.drew.below' y.b HKU.out.lt).look 1 rfl
      have z2 := fun y : SubT (Below w25.heap.size) w25.drew => (HKU.out.drew.below' y.b HKU.out.lt).look 2 rfl
      have z3 := fun y : SubT (Below w25.heap.size) w25.drew => (HKU.out.drew.below' y.b HKU.out.lt).look 3 rfl
      have z4 := fun y : SubT (Below w25.heap.size) w25.drew => (HKU.out.drew.below' y.b HKU.out.lt).look 4 rfl
      have z5 := fun y : SubT (Below w25.heap.size) w25.drew => (HKU.out.drew.below' y.b HKU.out.lt).look 5 rfl
      have z6 := fun y : SubT (Below w25.heap.size) w25.drew => (HKU.out.drew.below' y.b HKU.out.lt).look 6 rfl
      have z7 := fun y : SubT (Below w25.heap.size) w25.drew => (HKU.out.drew.below' y.b HKU.out.lt).look 7 rfl
      refine wp_walkJ (T := Below (w25.heap.size)) (belowV_pre _) (.rd 0 (.rd 2 (.rd 4 (.mv 1 (.mv 3 (.bt 5 (.rd 6 (.rd 7 (.rd 8 (.rd 9 (.rd 10 (.inv [])))))))))))) (by kernel_rfl) rfl (by kernel_rfl) (by kernel_rfl) ?_
      iterate 3 (refine walkJ_rd rfl (fun K hK => ?_); go_simp; refine hK _ ?_; clear hK K)
      clear z0 z1 z2 z3 z4 z5 z6 z7
      have hb := (Below.refl w25.heap.size w25).drew
      replace HV1 := hid (HV1.out.below hb)
      replace HV2 := hid (HV2.out.below hb)
      replace HVA := hid (HVA.out.below hb)
      replace HVB := hid (HVB.out.below hb)
      replace HKU := hid (HKU.out.below hb)
      replace HBW := hid (HBW.out.trans (hb.mono HBW.out.size))
      have HSZ : Hid (w25.heap.size ≤ w25.drew.heap.size) := hid (Nat.le_refl _)
      clear hb
      generalize w25.drew = w26 at HSZ HKU HBW HV1 HV2 HVA HVB ⊢
      (refine walkJ_mv rfl (fun K hK => ?_); go_simp; refine (SC.out _ _ HVA.out).mono ?_; rintro e9 w27 ⟨⟨z7, rfl, hz7⟩, hb⟩; refine ⟨_, rfl, hK _ _ (hb.mono HSZ.out) ?_⟩; clear hK K)
      replace HV1 := hid (HV1.out.below hb)
      replace HV2 := hid (HV2.out.below hb)
      replace HVA := hid (HVA.out.below hb)
      replace HVB := hid (HVB.out.below hb)
      replace HKU := hid (HKU.out.below hb)
      replace HBW := hid (HBW.out.trans (hb.mono HBW.out.size))
      replace HSZ : Hid (_ ≤ w27.heap.size) := hid (Nat.le_trans HSZ.out hb.size)
      have HZ7 := hid (gs_zero hz7)
      clear hz7
      clear hb
      (refine walkJ_mv rfl (fun K hK => ?_); go_simp; refine (RU.out _).mono ?_; rintro e9 w28 ⟨rfl, hb⟩; refine ⟨_, rfl, hK _ _ (hb.mono HSZ.out) ?_⟩; clear hK K)
      replace HV1 := hid (HV1.out.below hb)
      replace HV2 := hid (HV2.out.below hb)
      replace HVA := hid (HVA.out.below hb)
      replace HVB := hid (HVB.out.below hb)
      replace HZ7 := hid (HZ7.out.below hb)
      replace HKU := hid (HKU.out.below hb)
      replace HBW := hid (HBW.out.trans (hb.mono HBW.out.size))
      replace HSZ : Hid (_ ≤ w28.heap.size) := hid (Nat.le_trans HSZ.out hb.size)
      clear hb
      have hox : ∀ x ∈ b, x < (l ++ r).length := fun x hx => by
        obtain ⟨_, E, O, _, _, h4, h5⟩ := (HQ4.out x).1 hx
        exact h4 x (.inr h5)
      (refine walkJ_bt rfl (fun K hK => ?_); go_simp; refine (HOB.out z7 _ HZ7.out HVB.out hox HQ5.out).mono ?_; rintro e9 w29 ⟨⟨cs, rfl, hcs⟩, hb⟩; refine ⟨_, rfl, hK _ _ ?_⟩; clear hK K)
      replace HV1 := hid (HV1.out.below hb)
      replace HV2 := hid (HV2.out.below hb)
      replace HVA := hid (HVA.out.below hb)
      replace HKU := hid (HKU.out.below hb)
      replace HBW := hid (HBW.out.trans (hb.mono HBW.out.size))
      replace HSZ : Hid (_ ≤ w29.heap.size) := hid (Nat.le_trans HSZ.out hb.size)
      have HCS := hid hcs
      clear hcs
      clear hb
      clear HZ7 HSZ HVB HOB SC RU
      iterate 5 (refine walkJ_rd rfl (fun K hK => ?_); go_simp; refine hK _ ?_; clear hK K)
      refine walkJ_nil ?_
      have hfin := HPL.out HSL.out HSR.out HRU.out _ rfl m m2 b cs HMM.out HME.out HQ2.out HQ3.out HQ4.out HQ5.out HCS.out
      rw [HNN.out, HBL.out] at hfin
      have hkb := cnt_le m N
      have hbb : bl ≤ N := by
        have := nodup_len b (List.range N) (HQ5.out.imp (fun h => Nat.ne_of_lt h)) (fun x hx => List.mem_range.2 (by have := hox x hx; rw [HNN.out] at this; exact this))
        rw [List.length_range, HBL.out] at this
        exact this
      obtain ⟨kz, hkz⟩ : ∃ z, cnt m N / 2 = z := ⟨_, rfl⟩
      obtain ⟨od, hod⟩ : ∃ z, odds cs = z := ⟨_, rfl⟩
      have hk40 : kz ≤ 40 := by omega
      rw [hkz, hod] at hfin
      have hkz2 : (cnt m N : Int) / 2 = (kz : Int) := by omega
      rw [hkz2, hod]
      have hle : n1 ≤ (kz : Int) := by rw [HN9.out]; exact_mod_cast hfin.1
      have heq := hfin.2
      have hbe : ((2 * (kz : Int)) == ((N : Int) + (bl : Int) - (od : Int))) = true := by rw [beq_iff_eq]; exact heq
      have hod2 : od ≤ 100 := by omega
      clear hfin hkb hkz hkz2 hod hox HPL HMM HME HQ2 HQ3 HQ4 HQ5 HCS HVA HKU heq
      go_wp2_with fail
      refine (PA.out _).mono ?_
      rintro e9 w30 ⟨rfl, hb⟩
      replace HBW := hid (HBW.out.trans (hb.mono HBW.out.size))
      clear hb
      go_wp2
      go_ret
      exact ⟨rfl, HBW.out⟩

end Go.Proofs.Ytcpefolhohakmaa
