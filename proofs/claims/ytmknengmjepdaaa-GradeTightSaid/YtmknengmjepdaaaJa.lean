/- Walk of grade.Pattern.checked. -/
import Derived.Test.YtmknengmjepdaaaIc
import Derived.Test.YtmknengmjepdaaaTc
import Derived.Test.YtmknengmjepdaaaMc
namespace Go.Proofs.Ytmknengmjepdaaa
open Go.RowKit

/-- The least measures, times the size's denominator. -/
def leastX (p : Pat) (n d : Int) : List Int := (List.range p.n.toNat).map fun i => chainM p n d i 0
theorem solve_good {p : Pat} {n d : Int} (hp : PValid p) (hs : FSize n d) {k : Nat} (hk : k ≤ p.n.toNat) (hl : (bf p n d (k + 1)).last < 0) :
    chBad p n d = false ∧ (List.range p.n.toNat).map (bf p n d (k + 1)).x = leastX p n d := by
  have hN := hp.2.1
  have hN1 := hp.1
  obtain ⟨T, c, t, hb⟩ := binv_bf hp hs (k + 1) (by omega)
  have hf := fixed_of_last hb hl
  have hbad := (chBad_iff hp hs).2 (fixed_nopos hf)
  refine ⟨hbad, List.map_congr_left fun v hv => ?_⟩
  exact greatest_unique (fixed_greatest hp.1 hb hf) (chain_greatest hp hs hbad) v (List.mem_range.1 hv)
theorem solve_bad {p : Pat} {n d : Int} (hp : PValid p) (hs : FSize n d) {st : BSt} {v q : Nat} (h : Cycle p n d st v q) : chBad p n d = true := by
  cases hb : chBad p n d with
  | true => rfl
  | false => exact absurd ((chBad_iff hp hs).1 hb) (cycle_pos h)

/-- What checked hands back. -/
def ChkR (p : Pat) (n d : Int) (lo : Nat) (e : Ending) (W : World) : Prop :=
  ∃ vx, e = .returned (.tuple #[vx, .int .i64 (rLeastE p n d)]) ∧ (rLeastE p n d ≠ 0 → vx = .slice none 0 0) ∧ (rLeastE p n d = 0 → IntsR lo W vx (leastX p n d))

set_option maxHeartbeats 2000000 in
theorem checked_any (p : Pat) (n d : Int) (v : Value) (w : World) (h : PatF 0 w v p) :
    Calls Try.prog 70 #[v, .agg #[.int .i64 n, .int .i64 d]] w fun e w' => ChkR p n d w.heap.size e w' ∧ Below w.heap.size w w' := by
  have h00 := h
  obtain ⟨s, rfl, _⟩ := h
  go_enter Try.func70, Try.ntmps70
  go_wp2_with fail
  obtain ⟨w0, hw0, k0, k1, hB, hsz⟩ := one_new w #[.int .i64 p.n, s] #[.int .i64 n, .int .i64 d] 33 26
  rw [hw0]
  clear hw0
  have c0 := k0.look 0 rfl
  have c1 := k0.look 1 rfl
  go_wp2_with fail
  refine (gValid_any p _ _ (h00.below hB)).mono ?_
  rintro e w1 ⟨rfl, hb1⟩
  clear c0 c1
  have hB1 := hB.trans (hb1.mono hB.size)
  have c0 := (k0.below hb1).look 0 rfl
  have c1 := (k0.below hb1).look 1 rfl
  have c2 := (k1.below hb1).look 0 rfl
  have c3 := (k1.below hb1).look 1 rfl
  by_cases hp : PValid p
  · rw [decide_eq_true hp]
    have HP := hid hp
    clear hp
    go_wp2_with fail
    refine (sized_any n d _).mono ?_
    rintro e w2 ⟨rfl, hb2⟩
    clear c0 c1 c2 c3
    have hB2 := hB1.trans (hb2.mono hB1.size)
    have k02 := (k0.below hb1).below hb2
    have k12 := (k1.below hb1).below hb2
    clear k0 k1 hb1 hb2 hB
    by_cases hs : FSize n d
    · rw [decide_eq_true hs]
      have HS := hid hs
      clear hs
      have c0 := k02.look 0 rfl
      have c1 := k02.look 1 rfl
      have c2 := k12.look 0 rfl
      have c3 := k12.look 1 rfl
      go_wp2_with fail
      refine (solve_any p n d _ _ (h00.below hB2) HP.out HS.out).mono ?_
      rintro e w3 ⟨⟨vx, vl, rfl, hr⟩, hb3⟩
      have hB3 := hB2.trans (hb3.mono hB2.size)
      have hlo := hB2.size
      rcases hr with ⟨k, hk, hl, rfl, hx⟩ | ⟨h0, rfl, v, q, hcy, hx⟩
      · obtain ⟨g1, g2⟩ := solve_good HP.out HS.out hk hl
        have hE : rLeastE p n d = 0 := by unfold rLeastE; rw [decide_eq_true HP.out, decide_eq_true HS.out, g1]; rfl
        rw [g2] at hx
        have HE := hid hE
        clear hk hl g1 g2 hE c0 c1 c2 c3
        go_wp2
        go_ret2
        exact ⟨⟨_, by rw [HE.out]; rfl, fun hne => absurd HE.out hne, fun _ => SlR.mono hx hlo⟩, hB3⟩
      · have hE : rLeastE p n d = 10 := by unfold rLeastE; rw [decide_eq_true HP.out, decide_eq_true HS.out, solve_bad HP.out HS.out hcy]; rfl
        obtain ⟨ao, cap, rfl, hcap, hmax, hc⟩ := hx
        have hq := hcy.pos
        obtain ⟨b, off, rfl, -⟩ := hc (by
          intro h9
          have := congrArg List.length h9
          rw [intCells_len, List.length_map, List.length_range] at this
          simp at this
          omega)
        rw [List.length_map, List.length_range]
        have HE := hid hE
        clear hE c0 c1 c2 c3 hc h0 hcy
        go_wp2
        go_ret2
        exact ⟨⟨_, by rw [HE.out]; rfl, fun _ => rfl, fun h9 => by rw [HE.out] at h9; cases h9⟩, hB3⟩
    · rw [decide_eq_false hs]
      have hE : rLeastE p n d = 2 := by unfold rLeastE; rw [decide_eq_false hs]; simp
      have HE := hid hE
      clear hs hE
      go_wp2
      go_ret2
      exact ⟨⟨_, by rw [HE.out]; rfl, fun _ => rfl, fun h9 => by rw [HE.out] at h9; cases h9⟩, hB2⟩
  · rw [decide_eq_false hp]
    have hE : rLeastE p n d = 2 := by unfold rLeastE; rw [decide_eq_false hp]; simp
    have HE := hid hE
    clear hp hE
    go_wp2
    go_ret2
    exact ⟨⟨_, by rw [HE.out]; rfl, fun _ => rfl, fun h9 => by rw [HE.out] at h9; cases h9⟩, hB1⟩

end Go.Proofs.Ytmknengmjepdaaa
