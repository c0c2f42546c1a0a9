/- Walk of the law CurveSolves. -/
import Derived.Test.YtfkclcoipadhmaaDoorDw
import Derived.Test.YtfkclcoipadhmaaDoorFm
import Derived.Test.YtfkclcoipadhmaaDoorFo
namespace Go.Proofs.YtfkclcoipadhmaaDoor
open Go.RowKit
attribute [local irreducible] seqS seqST walkV walkJ

theorem frQ_eq2 {x : Rat} {n d : Int} (h : frQ x = .agg #[.int .i64 n, .int .i64 d]) : x.num = n ∧ (x.den : Int) = d := by
  unfold frQ at h
  injection h with h2
  have h3 := congrArg Array.toList h2
  simp at h3
  exact h3
theorem at_fits2 {C : List Pt} (hc : CV C) {x y : Rat} (hd : InDom C x) (h : atO C x = some y) : fits y := by
  rcases place hc hd with ⟨i, hi, he⟩ | ⟨i, hi, hl, hr⟩
  · rw [at_same hc hi he] at h
    rw [← Option.some.inj h]
    exact (hc.fit i hi).2
  · rw [at_between hc hi hl hr] at h
    exact segO_fits h
/-- Solving for the value that At hands back. -/
theorem solve_back {c : List P4} {n d : Int} (h : atE c n d = 0) :
    atE (c.map invP) (oN (atV c n d)) (oD (atV c n d)) = 5 ∨ (atE (c.map invP) (oN (atV c n d)) (oD (atV c n d)) = 0 ∧ oN (atV (c.map invP) (oN (atV c n d)) (oD (atV c n d))) = n ∧ oD (atV (c.map invP) (oN (atV c n d)) (oD (atV c n d))) = d) := by
  unfold atE at h
  by_cases hok : RV c ∧ FV n d
  case neg => rw [if_neg hok] at h; cases h
  rw [if_pos hok] at h
  obtain ⟨hrv, hfv⟩ := hok
  cases ha : atV c n d with
  | none => rw [ha] at h; cases h
  | some y =>
    have hd : InDom (toQ c) (vq (n, d)) ∧ atO (toQ c) (vq (n, d)) = some y := by
      unfold atV at ha
      by_cases hd : RV c ∧ FV n d ∧ InDom (toQ c) (vq (n, d))
      · rw [if_pos hd] at ha; exact ⟨hd.2.2, ha⟩
      · rw [if_neg hd] at ha; cases ha
    have hcv := rv_cv hrv
    have hyf := at_fits2 hcv hd.1 hd.2
    have hvy : vq (y.num, (y.den : Int)) = y := vq_self y
    show atE (c.map invP) y.num (y.den : Int) = 5 ∨ _
    have hE : atE (c.map invP) y.num (y.den : Int) = oE (atV (c.map invP) y.num (y.den : Int)) := if_pos ⟨rv_inv hrv, fits_FV hyf⟩
    cases hb : atV (c.map invP) y.num (y.den : Int) with
    | none => left; rw [hE, hb]; rfl
    | some z =>
      right
      have hz : atO ((toQ c).map swP) y = some z := by
        unfold atV at hb
        by_cases hd2 : RV (c.map invP) ∧ FV y.num (y.den : Int) ∧ InDom (toQ (c.map invP)) (vq (y.num, (y.den : Int)))
        · rw [if_pos hd2, hvy, toQ_inv] at hb; exact hb
        · rw [if_neg hd2] at hb; cases hb
      have hx := at_back hcv hd.1 hd.2 hz
      have hn := frQ_eq2 (frQ_vq hfv)
      refine ⟨by rw [show oN (some y) = y.num from rfl, show oD (some y) = (y.den : Int) from rfl, hE, hb]; rfl, ?_, ?_⟩
      · show oN (atV (c.map invP) y.num (y.den : Int)) = n
        rw [hb, hx]; exact hn.1
      · show oD (atV (c.map invP) y.num (y.den : Int)) = d
        rw [hb, hx]; exact hn.2

set_option maxHeartbeats 4000000 in
set_option maxRecDepth 100000 in
theorem CurveSolves_any (c : List P4) (n d : Int) (v : Value) (w : World) (h : P4R 0 w v c) (hb : c.length ≤ 8796093022208) (hz : Z0 w) :
    Calls Tryd.prog 13 #[v, .agg #[.int .i64 n, .int .i64 d]] w fun r w' => r = .returned (.bool true) ∧ Below w.heap.size w w' := by
  have S1 := hid (fun w h hz => At_any c n d v w h hz)
  have T1 := hid (fun n d w h hz => Solve_any c n d v w h hz hb)
  have hsb := solve_back (c := c) (n := n) (d := d)
  generalize atE c n d = E at S1 hsb
  generalize oN (atV c n d) = N at S1 hsb
  generalize oD (atV c n d) = D at S1 hsb
  have T2 := hid (T1.out N D)
  generalize atE (c.map invP) N D = F at T2 hsb
  generalize oN (atV (c.map invP) N D) = M at T2 hsb
  generalize oD (atV (c.map invP) N D) = G at T2 hsb
  have HSB := hid hsb
  obtain ⟨ao, cap, rfl, -⟩ := id h
  have k0 := Blk.new w #[.int .i64 n, .int .i64 d] 32
  have hB := (Below.refl w.heap.size w).alloc (Nat.le_refl _) (.cells #[.int .i64 n, .int .i64 d] 32)
  have x0 := k0.look 0 rfl
  have x1 := k0.look 1 rfl
  clear hb hsb T1
  go_enter Tryd.func13, Tryd.ntmps13
  go_wp2_with fail
  obtain ⟨w0, hw0⟩ : ∃ w0, w.alloc (.cells #[.int .i64 n, .int .i64 d] 32) = w0 := ⟨_, rfl⟩
  rw [hw0] at k0 hB ⊢
  clear hw0 x0 x1
  have h0 := h.below hB
  have hz0 := hz.below hB
  clear h hz
  refine (S1.out _ h0 hz0).mono ?_
  rintro r w1 ⟨rfl, hb1⟩
  replace k0 := k0.below hb1
  have h1 := h0.below hb1
  have hz1 := hz0.below hb1
  replace hB := hB.trans (hb1.mono hB.size)
  clear h0 hz0 S1 hb1
  have k0a := k0.alloc (.cells #[.int .i64 N, .int .i64 D] 32)
  have k1 := Blk.new w1 #[.int .i64 N, .int .i64 D] 32
  have ba := alloc_below w1 (.cells #[.int .i64 N, .int .i64 D] 32)
  have hBa := hB.trans (ba.mono hB.size)
  have h1a := h1.below ba
  have hz1a := hz1.below ba
  by_cases hE : E = 0
  case neg =>
    clear HSB T2
    go_wp2_with fail
    refine (awake_any _ hz1a).mono ?_
    rintro r w2 ⟨rfl, hb2⟩
    replace hB := hBa.trans (hb2.mono hBa.size)
    go_wp2
    go_ret
    exact ⟨rfl, hB⟩
  subst hE
  have HS2 := hid (HSB.out rfl)
  clear HSB
  have x2 := k1.look 0 rfl
  have x3 := k1.look 1 rfl
  go_wp2_with fail
  obtain ⟨w1a, hw1⟩ : ∃ W, w1.alloc (.cells #[.int .i64 N, .int .i64 D] 32) = W := ⟨_, rfl⟩
  rw [hw1] at k0a h1a hz1a hBa ⊢
  clear hw1 x2 x3 k1 ba h1 hz1 hB k0
  refine (T2.out _ h1a hz1a).mono ?_
  rintro r w2 ⟨rfl, hb2⟩
  have kE := Blk.new w2 #[.int .i64 M, .int .i64 G] 32
  have ba := alloc_below w2 (.cells #[.int .i64 M, .int .i64 G] 32)
  replace hb2 := hb2.trans (ba.mono hb2.size)
  have kA := k0a.below hb2
  have hz2 := hz1a.below hb2
  have hB2 := hBa.trans (hb2.mono hBa.size)
  have x0 := kA.look 0 rfl
  have x1 := kA.look 1 rfl
  have x2 := kE.look 0 rfl
  have x3 := kE.look 1 rfl
  clear T2 h1a hz1a hBa hb2 ba k0a
  rcases HS2.out with rfl | ⟨rfl, rfl, rfl⟩
  · go_wp2_with fail
    refine (awake_any _ hz2).mono ?_
    rintro r w5 ⟨rfl, hb5⟩
    replace hB2 := hB2.trans (hb5.mono hB2.size)
    clear hz2 hb5 x0 x1 x2 x3
    go_wp2
    go_ret
    exact ⟨rfl, hB2⟩
  · go_wp2_with fail
    refine (awake_any _ hz2).mono ?_
    rintro r w5 ⟨rfl, hb5⟩
    replace hB2 := hB2.trans (hb5.mono hB2.size)
    clear hz2 hb5 x0 x1 x2 x3
    go_wp2
    go_ret
    exact ⟨rfl, hB2⟩

end Go.Proofs.YtfkclcoipadhmaaDoor
