/- Walk of the law CurveInverse. -/
import Derived.Test.YtfkclcoipadhmaaDoorDw
import Derived.Test.YtfkclcoipadhmaaDoorEf
namespace Go.Proofs.YtfkclcoipadhmaaDoor
open Go.RowKit
attribute [local irreducible] seqS seqST walkV walkJ

theorem map_inv_get {c : List P4} {i : Nat} (hi : i < c.length) : (c.map invP).getD i z4 = invP (c.getD i z4) := by
  rw [List.getD_eq_getElem?_getD, List.getElem?_map, List.getD_eq_getElem?_getD, List.getElem?_eq_getElem hi]
  rfl
theorem rv_inv {c : List P4} (h : RV c) : RV (c.map invP) := by
  obtain ⟨h1, h2, h3, h4⟩ := h
  refine ⟨by rwa [List.length_map], by rwa [List.length_map], by rw [map_inv_get (by omega), h3]; rfl, fun i hi => ?_⟩
  rw [List.length_map] at hi
  obtain ⟨a1, a2, a3⟩ := h4 i hi
  unfold OKp
  rw [map_inv_get hi]
  refine ⟨a2, a1, fun h0 => ?_⟩
  rw [map_inv_get (show i - 1 < c.length by omega)]
  exact ⟨(a3 h0).2, (a3 h0).1⟩
theorem inv_inv (c : List P4) : (c.map invP).map invP = c := by
  rw [List.map_map]
  exact (List.map_congr_left (fun p _ => rfl)).trans (List.map_id c)

set_option maxHeartbeats 4000000 in
set_option maxRecDepth 100000 in
theorem CurveInverse_any (c : List P4) (v : Value) (w : World) (h : P4R 0 w v c) (hz : Z0 w) :
    Calls Tryd.prog 4 #[v] w fun r w' => r = .returned (.bool true) ∧ Below w.heap.size w w' := by
  have I1 := hid (Inverse_any c v w h hz)
  have I2 := hid (fun w h => rInverse_any c v w h)
  have EQ := hid (fun u v w h1 h2 => Equal_any (invL c) (invL c) u v w h1 h2)
  rw [decide_eq_true rfl] at EQ
  have I3 := hid (fun v w h hz => Inverse_any (invL c) v w h hz)
  have EQ2 := hid (fun u v w h1 h2 => Equal_any (invL (invL c)) c u v w h1 h2)
  have hcase : (invE c = 2) ∨ (invE c = 0 ∧ invE (invL c) = 0 ∧ invL (invL c) = c) := by
    by_cases hr : RV c
    · right
      have e1 : invL c = c.map invP := if_pos hr
      rw [e1]
      exact ⟨if_pos hr, if_pos (rv_inv hr), by unfold invL; rw [if_pos (rv_inv hr), inv_inv]⟩
    · exact .inl (if_neg hr)
  generalize invE (invL c) = E2 at I3 hcase
  generalize invL (invL c) = T2 at I3 EQ2 hcase
  generalize invE c = E at I1 I2 hcase
  generalize invL c = T at I1 I2 EQ I3
  go_enter Tryd.func4, Tryd.ntmps4
  go_wp2_with fail
  refine I1.out.mono ?_
  rintro r w1 ⟨⟨u1, rfl, q1⟩, hb1⟩
  replace q1 := SlR.mono q1 (Nat.zero_le _)
  have h1 := h.below hb1
  have hz1 := hz.below hb1
  clear h hz I1
  go_wp2_with fail
  refine (I2.out _ h1).mono ?_
  rintro r w2 ⟨⟨u2, rfl, q2⟩, hb2⟩
  replace q2 := SlR.mono q2 (Nat.zero_le _)
  replace q1 := SlR.below q1 hb2
  have h2 := h1.below hb2
  have hz2 := hz1.below hb2
  replace hb2 := hb1.trans (hb2.mono hb1.size)
  clear h1 hz1 I2 hb1
  go_wp2_with fail
  refine (EQ.out _ _ _ q1 q2).mono ?_
  rintro r w3 ⟨rfl, hb3⟩
  replace q1 := SlR.below q1 hb3
  have h3 := h2.below hb3
  have hz3 := hz2.below hb3
  replace hb3 := hb2.trans (hb3.mono hb2.size)
  clear h2 hz2 EQ hb2 q2
  go_wp2_with fail
  refine (awake_any _ hz3).mono ?_
  rintro r w4 ⟨rfl, hb4⟩
  replace q1 := SlR.below q1 hb4
  have h4 := h3.below hb4
  have hz4 := hz3.below hb4
  replace hb4 := hb3.trans (hb4.mono hb3.size)
  clear h3 hz3 hb3
  go_wp2_with fail
  refine (I3.out _ _ q1 hz4).mono ?_
  rintro r w5 ⟨⟨u5, rfl, q5⟩, hb5⟩
  replace q5 := SlR.mono q5 (Nat.zero_le _)
  have h5 := h4.below hb5
  replace hb5 := hb4.trans (hb5.mono hb4.size)
  clear h4 hz4 hb4 I3 q1
  rcases hcase with rfl | ⟨rfl, rfl, rfl⟩
  · go_wp2
    go_ret
    exact ⟨rfl, hb5⟩
  · rw [decide_eq_true rfl] at EQ2
    go_wp2_with fail
    refine (EQ2.out _ _ _ q5 h5).mono ?_
    rintro r w6 ⟨rfl, hb6⟩
    replace hb6 := hb5.trans (hb6.mono hb5.size)
    clear q5 h5 hb5
    go_wp2
    go_ret
    exact ⟨rfl, hb6⟩

end Go.Proofs.YtfkclcoipadhmaaDoor
