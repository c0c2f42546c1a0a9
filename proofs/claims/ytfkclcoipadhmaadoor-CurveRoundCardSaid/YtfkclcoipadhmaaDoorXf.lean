/- Walk of the law CurveRound. -/
import Derived.Test.YtfkclcoipadhmaaDoorDw
import Derived.Test.YtfkclcoipadhmaaDoorEp
import Derived.Test.YtfkclcoipadhmaaDoorEe
namespace Go.Proofs.YtfkclcoipadhmaaDoor
open Go.RowKit
attribute [local irreducible] seqS seqST walkV walkJ

set_option maxHeartbeats 8000000 in
set_option maxRecDepth 100000 in
theorem CurveRound_any (c : List P4) (v : Value) (w : World) (h : P4R 0 w v c) (hz : Z0 w) :
    Calls Tryd.prog 9 #[v] w fun r w' => r = .returned (.bool true) ∧ Below w.heap.size w w' := by
  have I1 := hid (Inverse_any c v w h hz)
  obtain ⟨ao, cap, rfl, hcap, hmax, -⟩ := id h
  unfold maxLen at hmax
  by_cases hr : RV c
  case neg =>
    have e1 : invE c = 2 := if_neg hr
    rw [e1] at I1
    generalize invL c = L1 at I1
    generalize c.length = L at *
    clear e1 hr
    go_enter Tryd.func9, Tryd.ntmps9
    go_wp2_with fail
    refine I1.out.mono ?_
    rintro r w1 ⟨⟨u1, rfl, q1⟩, hB⟩
    have hz1 := hz.below hB
    clear h hz I1 q1
    go_wp2_with fail
    refine (awake_any _ hz1).mono ?_
    rintro r w2 ⟨rfl, hb2⟩
    replace hB := hB.trans (hb2.mono hB.size)
    clear hz1 hb2
    go_wp2
    go_ret
    exact ⟨rfl, hB⟩
  have e1 : invE c = 0 := if_pos hr
  have e2 : invL c = c.map invP := if_pos hr
  rw [e1, e2] at I1
  have C1 := hid (fun a b w h k hz => Compose_any c (c.map invP) a b w h k hz)
  have hq := P4R.toQ h hr
  have hcv := rv_cv hr
  have hlen := toQ_len c
  obtain ⟨ao2, cap2, he2, -, -, hcc⟩ := id hq
  obtain ⟨rfl, -⟩ : ao2 = ao ∧ True := by
    injection he2 with g1 g2 g3
    exact ⟨g1.symm, trivial⟩
  obtain ⟨b, off, rfl, hb, x0, x1, x2, x3⟩ := p_cell hcc (show (toQ c).length - 1 < (toQ c).length by have := hcv.two; omega)
  have R1 := round_one hr
  have R2 := fun n d => round_two hr (n := n) (d := d)
  have heq : endQ (toQ c) = (toQ c).getD ((toQ c).length - 1) (0, 0) := rfl
  rw [heq] at R1 R2
  obtain ⟨P, hP⟩ : ∃ P, (toQ c).getD ((toQ c).length - 1) (0, 0) = P := ⟨_, rfl⟩
  rw [hP] at x0 x1 x2 x3 R1 R2
  have hR2 := R2 P.1.num (P.1.den : Int) ⟨rfl, rfl⟩
  obtain ⟨p1, hp1⟩ : ∃ z, P.1.num = z := ⟨_, rfl⟩
  obtain ⟨p2, hp2⟩ : ∃ z, (P.1.den : Int) = z := ⟨_, rfl⟩
  obtain ⟨p3, hp3⟩ : ∃ z, P.2.num = z := ⟨_, rfl⟩
  obtain ⟨p4, hp4⟩ : ∃ z, (P.2.den : Int) = z := ⟨_, rfl⟩
  rw [hp1, hp2] at hR2
  rw [hp1] at x0
  rw [hp2] at x1
  rw [hp3] at x2
  rw [hp4] at x3
  have hof : ofQ [(0, 0), (P.2, P.2)] = [((0, 1), (0, 1)), ((p3, p4), (p3, p4))] := by rw [← hp3, ← hp4]; rfl
  have C2 := hid (fun a b w h k hz => Compose_any c [((0, 1), (0, 1)), ((p1, p2), (p1, p2))] a b w h k hz)
  rw [hR2.1, hR2.2] at C2
  have NO := hid (fun w h hz => Norm_any c (.slice (some ⟨b, off, none⟩) c.length cap) w h hz)
  have EP := hid (fun u v w h1 h2 => eqP_self (nrmL c) u v w h1 h2)
  have LA := hid (fun w => line_any p3 p4 p3 p4 w)
  have LB := hid (fun w => line_any p1 p2 p1 p2 w)
  have EQ := hid (fun u v w h1 h2 => Equal_any (ofQ (cpsL c (c.map invP))) [((0, 1), (0, 1)), ((p3, p4), (p3, p4))] u v w h1 h2)
  have R1' : cpsE c (c.map invP) = 5 ∨ (cpsE c (c.map invP) = 0 ∧ ofQ (cpsL c (c.map invP)) = [((0, 1), (0, 1)), ((p3, p4), (p3, p4))]) := by
    rcases R1 with h5 | ⟨h5, h6⟩
    · exact .inl h5
    · exact .inr ⟨h5, by rw [h6]; exact hof⟩
  have HR1 := hid R1'
  generalize cpsE c (c.map invP) = E1 at C1 HR1
  generalize cpsL c (c.map invP) = T1 at C1 HR1 EQ
  generalize slpE c = E2 at C2 NO
  generalize nrmL c = T2 at C2 NO EP
  rw [hlen] at x0 x1 x2 x3
  have hl2 : 2 ≤ c.length := hr.1
  have hl48 : c.length ≤ 48 := hr.2.1
  have HC := hid h
  have X0 := hid x0
  have X1 := hid x1
  have X2 := hid x2
  have X3 := hid x3
  obtain ⟨L, hL⟩ : ∃ L, c.length = L := ⟨_, rfl⟩
  rw [hL] at I1 NO HC X0 X1 X2 X3 hl2 hl48 hcap ⊢
  have wL : IntKind.i64.wrap ((L : Int) - 1) = ((L - 1 : Nat) : Int) := by rw [IntWalk.i64_left]; unfold wrap64; omega
  have hL1 : L - 1 < L := by omega
  clear h R1 R1' R2 hR2 hp1 hp2 hp3 hp4 hP heq hlen hcv hcc he2 hq x0 x1 x2 x3 e1 e2 hof hr hL
  go_enter Tryd.func9, Tryd.ntmps9
  go_wp2_with fail
  refine I1.out.mono ?_
  rintro r w1 ⟨⟨u1, rfl, q1⟩, hB⟩
  have hc1 : P4R 0 w1 (.slice (some ⟨b, off, none⟩) L cap) c := P4R.below HC.out hB
  have hz1 := hz.below hB
  replace q1 := SlR.mono q1 (Nat.zero_le _)
  have x0 := (hB.cell (p := ⟨b, off + (L - 1) * 4, none⟩) hb).trans X0.out
  have x1 := (hB.cell (p := ⟨b, off + (L - 1) * 4 + 1, none⟩) hb).trans X1.out
  have x2 := (hB.cell (p := ⟨b, off + (L - 1) * 4 + 2, none⟩) hb).trans X2.out
  have x3 := (hB.cell (p := ⟨b, off + (L - 1) * 4 + 3, none⟩) hb).trans X3.out
  clear hz I1 HC X0 X1 X2 X3
  go_wp2_with fail
  have kp := Blk.new w1 #[.int .i64 p1, .int .i64 p2, .int .i64 p3, .int .i64 p4] 52
  have ba := alloc_below w1 (.cells #[.int .i64 p1, .int .i64 p2, .int .i64 p3, .int .i64 p4] 52)
  have hc2 := P4R.below hc1 ba
  have q2 := P4R.below q1 ba
  have hz2 := hz1.below ba
  have hB2 := hB.trans (ba.mono hB.size)
  obtain ⟨w2, hw2⟩ : ∃ w2, w1.alloc (.cells #[.int .i64 p1, .int .i64 p2, .int .i64 p3, .int .i64 p4] 52) = w2 := ⟨_, rfl⟩
  obtain ⟨G, hG⟩ : ∃ G, w1.heap.size = G := ⟨_, rfl⟩
  rw [hw2] at kp hc2 q2 hz2 hB2 ⊢
  rw [hG] at kp ⊢
  clear hw2 hG x0 x1 x2 x3 ba hc1 q1 hz1 hB
  refine (C1.out _ _ _ hc2 q2 hz2).mono ?_
  rintro r w3 ⟨⟨u3, rfl, q3⟩, hb3⟩
  replace q3 := PsR.mono q3 (Nat.zero_le _)
  have hc3 := P4R.below hc2 hb3
  have hz3 := hz2.below hb3
  have kp3 := kp.below hb3
  have hB3 := hB2.trans (hb3.mono hB2.size)
  clear C1 hc2 q2 hz2 kp hb3 hB2
  have d0 := kp3.look 0 rfl
  have d1 := kp3.look 1 rfl
  have d2 := kp3.look 2 rfl
  have d3 := kp3.look 3 rfl
  rcases HR1.out with rfl | ⟨rfl, hE⟩
  · clear EQ LA HR1 q3
    go_wp2_with fail
    refine (LB.out _).mono ?_
    rintro r w4 ⟨⟨u4, rfl, q4⟩, hb4⟩
    replace q4 := SlR.mono q4 (Nat.zero_le _)
    have hc4 := P4R.below hc3 hb4
    have hz4 := hz3.below hb4
    have hB4 := hB3.trans (hb4.mono hB3.size)
    clear LB hc3 hz3 hb4 hB3 d0 d1 d2 d3 kp3
    go_wp2_with fail
    refine (C2.out _ _ _ hc4 q4 hz4).mono ?_
    rintro r wa ⟨⟨ua, rfl, qa⟩, hba⟩
    replace qa := PsR.mono qa (Nat.zero_le _)
    have hca := P4R.below hc4 hba
    have hza := hz4.below hba
    have hBa := hB4.trans (hba.mono hB4.size)
    clear C2 hc4 hz4 hba hB4 q4
    go_wp2_with fail
    refine (NO.out _ hca hza).mono ?_
    rintro r wb ⟨⟨ub, rfl, qb⟩, hbb⟩
    replace qb := PsR.mono qb (Nat.zero_le _)
    replace qa := PsR.below qa hbb
    have hzb := hza.below hbb
    have hBb := hBa.trans (hbb.mono hBa.size)
    clear NO hca hza hbb hBa
    go_wp2_with fail
    refine (EP.out _ _ _ qa qb).mono ?_
    rintro r wc ⟨rfl, hbc⟩
    have hzc := hzb.below hbc
    have hBc := hBb.trans (hbc.mono hBb.size)
    clear EP hzb hbc hBb qa qb
    go_wp2_with fail
    refine (awake_any _ hzc).mono ?_
    rintro r wd ⟨rfl, hbd⟩
    have hBd := hBc.trans (hbd.mono hBc.size)
    clear hzc hbd hBc
    go_wp2
    go_ret
    exact ⟨rfl, hBd⟩
  · rw [decide_eq_true hE] at EQ
    clear HR1 hE
    go_wp2_with fail
    refine (LA.out _).mono ?_
    rintro r w4 ⟨⟨u4, rfl, q4⟩, hb4⟩
    replace q4 := SlR.mono q4 (Nat.zero_le _)
    have q3' := PsR.below q3 hb4
    have hc4 := P4R.below hc3 hb4
    have hz4 := hz3.below hb4
    have kp4 := kp3.below hb4
    have hB4 := hB3.trans (hb4.mono hB3.size)
    clear LA hc3 hz3 hb4 hB3 d0 d1 d2 d3 kp3 q3
    go_wp2_with fail
    refine (EQ.out _ _ _ (PsR.ofQ q3') q4).mono ?_
    rintro r w5 ⟨rfl, hb5⟩
    have hc5 := P4R.below hc4 hb5
    have hz5 := hz4.below hb5
    have kp5 := kp4.below hb5
    have hB5 := hB4.trans (hb5.mono hB4.size)
    have d0 := kp5.look 0 rfl
    have d1 := kp5.look 1 rfl
    clear EQ hc4 hz4 hb5 hB4 kp4 q3' q4
    go_wp2_with fail
    refine (LB.out _).mono ?_
    rintro r w6 ⟨⟨u6, rfl, q4⟩, hb6⟩
    replace q4 := SlR.mono q4 (Nat.zero_le _)
    have hc4 := P4R.below hc5 hb6
    have hz4 := hz5.below hb6
    have hB4 := hB5.trans (hb6.mono hB5.size)
    clear LB hc5 hz5 hb6 hB5 d0 d1 kp5
    go_wp2_with fail
    refine (C2.out _ _ _ hc4 q4 hz4).mono ?_
    rintro r wa ⟨⟨ua, rfl, qa⟩, hba⟩
    replace qa := PsR.mono qa (Nat.zero_le _)
    have hca := P4R.below hc4 hba
    have hza := hz4.below hba
    have hBa := hB4.trans (hba.mono hB4.size)
    clear C2 hc4 hz4 hba hB4 q4
    go_wp2_with fail
    refine (NO.out _ hca hza).mono ?_
    rintro r wb ⟨⟨ub, rfl, qb⟩, hbb⟩
    replace qb := PsR.mono qb (Nat.zero_le _)
    replace qa := PsR.below qa hbb
    have hzb := hza.below hbb
    have hBb := hBa.trans (hbb.mono hBa.size)
    clear NO hca hza hbb hBa
    go_wp2_with fail
    refine (EP.out _ _ _ qa qb).mono ?_
    rintro r wc ⟨rfl, hbc⟩
    have hzc := hzb.below hbc
    have hBc := hBb.trans (hbc.mono hBb.size)
    clear EP hzb hbc hBb qa qb
    go_wp2_with fail
    refine (awake_any _ hzc).mono ?_
    rintro r wd ⟨rfl, hbd⟩
    have hBd := hBc.trans (hbd.mono hBc.size)
    clear hzc hbd hBc
    go_wp2
    go_ret
    exact ⟨rfl, hBd⟩

end Go.Proofs.YtfkclcoipadhmaaDoor
