/- Walk of the law CurveWork. -/
import Derived.Test.YtfkclcoipadhmaaGreatDoorDw
import Derived.Test.YtfkclcoipadhmaaGreatDoorFn
import Derived.Test.YtfkclcoipadhmaaGreatDoorVx
namespace Go.Proofs.YtfkclcoipadhmaaGreatDoor
open Go.RowKit
attribute [local irreducible] seqS seqST walkV walkJ

theorem toQ_ofQ2 (C : List Pt) : toQ (ofQ C) = C := by
  unfold toQ ofQ
  rw [List.map_map]
  refine (List.map_congr_left (fun p _ => ?_)).trans (List.map_id C)
  show (vq (p.1.num, (p.1.den : Int)), vq (p.2.num, (p.2.den : Int))) = p
  rw [vq_self, vq_self]
/-- The area of the cut curve. -/
theorem cut_work {c : List P4} {n d : Int} (h : cutE c n d = 0) : wrkV (ofQ (cutR c n d)) n d = wrkV c n d ∧ wrkE (ofQ (cutR c n d)) n d = wrkE c n d := by
  unfold cutE at h
  by_cases hok : cutOK c n d
  case neg => rw [if_neg hok] at h; cases h
  rw [if_pos hok] at h
  have hr : cutR c n d = (match atV c n d with | some y => cutL (toQ c) (vq (n, d)) y | none => []) := if_pos hok
  obtain ⟨hrv, hfv, hn⟩ := hok
  cases ha : atV c n d with
  | none => rw [ha] at h; cases h
  | some y =>
    rw [ha] at hr
    have hd : InDom (toQ c) (vq (n, d)) ∧ atO (toQ c) (vq (n, d)) = some y := by
      unfold atV at ha
      by_cases hd : RV c ∧ FV n d ∧ InDom (toQ c) (vq (n, d))
      · rw [if_pos hd] at ha; exact ⟨hd.2.2, ha⟩
      · rw [if_neg hd] at ha; cases ha
    have hcv := rv_cv hrv
    have hx : 0 < vq (n, d) := by
      have h1 := (frQ_eq (frQ_vq hfv)).1
      have hne : vq (n, d) ≠ 0 := fun e => by
        rw [e] at h1
        have h3 : (0 : Rat).num = 0 := rfl
        omega
      have := hd.1.1
      grind
    obtain ⟨g1, g2, g3⟩ := cut_good hcv hd.1 hx (vq_fits hfv) (at_fits3 hcv hd.1 hd.2) hd.2
    have hr2 : cutR c n d = cutL (toQ c) (vq (n, d)) y := hr
    rw [hr2]
    have hrv2 := rv_ofQ.2 g1
    have e1 : wrkV (ofQ (cutL (toQ c) (vq (n, d)) y)) n d = wrkV c n d := by
      unfold wrkV
      rw [toQ_ofQ2, if_pos ⟨hrv2, hfv, g2⟩, if_pos ⟨hrv, hfv, hd.1⟩]
      exact g3
    refine ⟨e1, ?_⟩
    unfold wrkE
    rw [e1, if_pos ⟨hrv2, hfv⟩, if_pos ⟨hrv, hfv⟩]

set_option maxHeartbeats 4000000 in
set_option maxRecDepth 100000 in
theorem CurveWork_any (c : List P4) (n d : Int) (v : Value) (w : World) (h : P4R 0 w v c) (hz : Z0 w) :
    Calls Tryz.prog 8 #[v, .agg #[.int .i64 n, .int .i64 d]] w fun r w' => r = .returned (.bool true) ∧ Below w.heap.size w w' := by
  have S1 := hid (fun w h hz => Work_any c n d v w h hz)
  have S2 := hid (fun w h => rWork_any c n d v w h)
  have T1 := hid (fun w h hz => Cut_any c n d v w h hz)
  have T2 := hid (fun v w h hz => Work_any (ofQ (cutR c n d)) n d v w h hz)
  have hcw := cut_work (c := c) (n := n) (d := d)
  generalize cutR c n d = RR at T1 T2 hcw
  generalize cutE c n d = CE at T1 hcw
  have HCW : Hid (CE = 0 → oN (wrkV (ofQ RR) n d) = oN (wrkV c n d) ∧ oD (wrkV (ofQ RR) n d) = oD (wrkV c n d) ∧ wrkE (ofQ RR) n d = wrkE c n d) := hid (fun hh => by
    obtain ⟨g1, g2⟩ := hcw hh
    rw [g1, g2]
    exact ⟨rfl, rfl, rfl⟩)
  clear hcw
  generalize wrkE c n d = E at S1 S2 HCW
  generalize oN (wrkV c n d) = N at S1 S2 HCW
  generalize oD (wrkV c n d) = D at S1 S2 HCW
  generalize wrkE (ofQ RR) n d = F at T2 HCW
  generalize oN (wrkV (ofQ RR) n d) = M at T2 HCW
  generalize oD (wrkV (ofQ RR) n d) = G at T2 HCW
  obtain ⟨ao, cap, rfl, -⟩ := id h
  have k0 := Blk.new w #[.int .i64 n, .int .i64 d] 31
  have hB := (Below.refl w.heap.size w).alloc (Nat.le_refl _) (.cells #[.int .i64 n, .int .i64 d] 31)
  have x0 := k0.look 0 rfl
  have x1 := k0.look 1 rfl
  go_enter Tryz.func8, Tryz.ntmps8
  go_wp2_with fail
  obtain ⟨w0, hw0⟩ : ∃ w0, w.alloc (.cells #[.int .i64 n, .int .i64 d] 31) = w0 := ⟨_, rfl⟩
  rw [hw0] at k0 hB ⊢
  clear hw0 x0 x1
  have h0 := h.below hB
  have hz0 := hz.below hB
  clear h hz
  refine (S1.out _ h0 hz0).mono ?_
  rintro r w1 ⟨rfl, hb1⟩
  have kA := Blk.new w1 #[.int .i64 N, .int .i64 D] 31
  have ba := alloc_below w1 (.cells #[.int .i64 N, .int .i64 D] 31)
  replace hb1 := hb1.trans (ba.mono hb1.size)
  replace k0 := k0.below hb1
  have h1 := h0.below hb1
  have hz1 := hz0.below hb1
  replace hB := hB.trans (hb1.mono hB.size)
  have x0 := k0.look 0 rfl
  have x1 := k0.look 1 rfl
  clear h0 hz0 S1 hb1 ba
  go_wp2_with fail
  obtain ⟨g1, hg1⟩ : ∃ g, w1.heap.size = g := ⟨_, rfl⟩
  obtain ⟨w1a, hw1⟩ : ∃ W, w1.alloc (.cells #[.int .i64 N, .int .i64 D] 31) = W := ⟨_, rfl⟩
  rw [hw1] at kA k0 h1 hz1 hB ⊢
  rw [hg1] at kA ⊢
  clear hw1 hg1 x0 x1 w1
  refine (S2.out _ h1).mono ?_
  rintro r w1 ⟨rfl, hb1⟩
  have kC := Blk.new w1 #[.int .i64 N, .int .i64 D] 31
  have ba := alloc_below w1 (.cells #[.int .i64 N, .int .i64 D] 31)
  replace hb1 := hb1.trans (ba.mono hb1.size)
  replace k0 := k0.below hb1
  replace kA := kA.below hb1
  have h0 := h1.below hb1
  have hz0 := hz1.below hb1
  replace hB := hB.trans (hb1.mono hB.size)
  have x0 := kA.look 0 rfl
  have x1 := kA.look 1 rfl
  have x2 := kC.look 0 rfl
  have x3 := kC.look 1 rfl
  clear h1 hz1 S2 hb1 ba
  go_wp2_with fail
  obtain ⟨g2, hg1⟩ : ∃ g, w1.heap.size = g := ⟨_, rfl⟩
  obtain ⟨w1a, hw1⟩ : ∃ W, w1.alloc (.cells #[.int .i64 N, .int .i64 D] 31) = W := ⟨_, rfl⟩
  rw [hw1] at kC k0 h0 hz0 hB ⊢
  rw [hg1] at kC ⊢
  clear hw1 hg1 x0 x1 x2 x3 w1 kA
  refine (awake_any _ hz0).mono ?_
  rintro r w5 ⟨rfl, hb5⟩
  replace hB := hB.trans (hb5.mono hB.size)
  replace kC := kC.below hb5
  replace k0 := k0.below hb5
  have h1 := h0.below hb5
  have hz1 := hz0.below hb5
  have x0 := k0.look 0 rfl
  have x1 := k0.look 1 rfl
  clear h0 hz0 hb5
  go_wp2_with fail
  refine (T1.out _ h1 hz1).mono ?_
  rintro r w6 ⟨⟨u, rfl, hu⟩, hb6⟩
  replace hB := hB.trans (hb6.mono hB.size)
  replace kC := kC.below hb6
  replace k0 := k0.below hb6
  have hz6 := hz1.below hb6
  have q6 := (PsR.mono hu (Nat.zero_le _)).ofQ
  clear h1 hz1 hb6 hu T1 x0 x1
  have x0 := k0.look 0 rfl
  have x1 := k0.look 1 rfl
  by_cases hce : CE = 0
  case neg =>
    clear HCW T2 q6
    go_wp2
    go_ret
    exact ⟨rfl, hB⟩
  subst hce
  obtain ⟨e1, e2, e3⟩ := HCW.out rfl
  rw [e1, e2, e3] at T2
  clear HCW e1 e2 e3
  go_wp2_with fail
  refine (T2.out _ _ q6 hz6).mono ?_
  rintro r w7 ⟨rfl, hb7⟩
  have kE := Blk.new w7 #[.int .i64 N, .int .i64 D] 31
  have ba := alloc_below w7 (.cells #[.int .i64 N, .int .i64 D] 31)
  replace hb7 := hb7.trans (ba.mono hb7.size)
  replace kC := kC.below hb7
  replace hB := hB.trans (hb7.mono hB.size)
  clear x0 x1
  have x0 := kC.look 0 rfl
  have x1 := kC.look 1 rfl
  have x2 := kE.look 0 rfl
  have x3 := kE.look 1 rfl
  clear T2 q6 hz6 hb7 ba
  go_wp2
  go_ret
  exact ⟨rfl, hB⟩

end Go.Proofs.YtfkclcoipadhmaaGreatDoor
