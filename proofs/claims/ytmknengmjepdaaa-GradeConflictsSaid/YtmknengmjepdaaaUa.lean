/- Walk of grade.Loop. -/
import Derived.Test.YtmknengmjepdaaaJx
namespace Go.Proofs.Ytmknengmjepdaaa
open Go.RowKit

@[local go_sem] theorem eql_nil (a : Option Addr) (n c : Nat) (w : World) : (binOp .eql 49 (.slice a n c) (.slice none 0 0)).run Try.prog w = .ok (.bool a.isNone) w := Lib.run_eql_slice_nil w 49 3 a n c 0 0 Try.underlying49
/-- What Loop hands back. -/
def LoopR (p : Pat) (n d : Int) (lo : Nat) (e : Ending) (W : World) : Prop :=
  ∃ vl, ((¬ (PValid p ∧ FSize n d)) ∧ e = .returned (.tuple #[vl, .int .i64 2]) ∧ vl = .slice none 0 0) ∨
    (PValid p ∧ FSize n d ∧ chBad p n d = false ∧ e = .returned (.tuple #[vl, .int .i64 7]) ∧ vl = .slice none 0 0) ∨
    (PValid p ∧ FSize n d ∧ chBad p n d = true ∧ e = .returned (.tuple #[vl, .int .i64 0]) ∧ ∃ st v q, Cycle p n d st v q ∧ IntsR lo W vl ((List.range q).map fun i => st.by_ (parN p st v i)))

set_option maxHeartbeats 2000000 in
set_option maxRecDepth 100000 in
theorem Loop_any (p : Pat) (n d : Int) (v : Value) (w : World) (h : PatF 0 w v p) :
    Calls Try.prog 31 #[v, .agg #[.int .i64 n, .int .i64 d]] w fun e w' => LoopR p n d w.heap.size e w' ∧ Below w.heap.size w w' := by
  have h00 := h
  obtain ⟨s, rfl, _⟩ := h
  go_enter Try.func31, Try.ntmps31
  go_wp2_with fail
  obtain ⟨w0, hw0, k0, k1, hB, hsz⟩ := one_new w #[.int .i64 p.n, s] #[.int .i64 n, .int .i64 d] 33 26
  rw [hw0]
  clear hw0
  have c0 := k0.look 0 rfl
  have c1 := k0.look 1 rfl
  go_wp2_with fail
  refine (gValid_any p _ _ (h00.below hB)).mono ?_
  rintro e w1 ⟨rfl, hb1⟩
  clear c0 c1
  have hB1 := hB.trans (hb1.mono hB.size)
  have c0 := (k0.below hb1).look 0 rfl
  have c1 := (k0.below hb1).look 1 rfl
  have c2 := (k1.below hb1).look 0 rfl
  have c3 := (k1.below hb1).look 1 rfl
  by_cases hp : PValid p
  · rw [decide_eq_true hp]
    have HP := hid hp
    clear hp
    go_wp2_with fail
    refine (sized_any n d _).mono ?_
    rintro e w2 ⟨rfl, hb2⟩
    clear c0 c1 c2 c3
    have hB2 := hB1.trans (hb2.mono hB1.size)
    have k02 := (k0.below hb1).below hb2
    have k12 := (k1.below hb1).below hb2
    clear k0 k1 hb1 hb2 hB
    by_cases hs : FSize n d
    · rw [decide_eq_true hs]
      have HS := hid hs
      clear hs
      have c0 := k02.look 0 rfl
      have c1 := k02.look 1 rfl
      have c2 := k12.look 0 rfl
      have c3 := k12.look 1 rfl
      go_wp2_with fail
      refine (solve_any p n d _ _ (h00.below hB2) HP.out HS.out).mono ?_
      rintro e w3 ⟨⟨vx, vl, rfl, hr⟩, hb3⟩
      have hB3 := hB2.trans (hb3.mono hB2.size)
      have hlo := hB2.size
      rcases hr with ⟨k, hk, hl, rfl, hx⟩ | ⟨h0, rfl, v, q, hcy, hx⟩
      · obtain ⟨g1, g2⟩ := solve_good HP.out HS.out hk hl
        have G1 := hid g1
        clear hk hl g1 g2 c0 c1 c2 c3 hx
        go_wp2
        go_ret2
        exact ⟨⟨_, .inr (.inl ⟨HP.out, HS.out, G1.out, rfl, rfl⟩)⟩, hB3⟩
      · have hx0 := hx
        obtain ⟨ao, cap, rfl, hcap, hmax, hc⟩ := hx
        have hq := hcy.pos
        obtain ⟨b, off, rfl, -⟩ := hc (by
          intro h9
          have := congrArg List.length h9
          rw [intCells_len, List.length_map, List.length_range] at this
          simp at this
          omega)
        rw [List.length_map, List.length_range] at hx0 ⊢
        have HX := hid hx0
        have HC := hid hcy
        clear c0 c1 c2 c3 hc h0 hcy hx0
        go_wp2
        go_ret2
        exact ⟨⟨_, .inr (.inr ⟨HP.out, HS.out, solve_bad HP.out HS.out HC.out, rfl, _, _, _, HC.out, SlR.mono HX.out hlo⟩)⟩, hB3⟩
    · rw [decide_eq_false hs]
      have HS := hid hs
      clear hs
      go_wp2
      go_ret2
      exact ⟨⟨_, .inl ⟨fun hh => HS.out hh.2, rfl, rfl⟩⟩, hB2⟩
  · rw [decide_eq_false hp]
    have HP := hid hp
    clear hp
    go_wp2
    go_ret2
    exact ⟨⟨_, .inl ⟨fun hh => HP.out hh.1, rfl, rfl⟩⟩, hB1⟩

end Go.Proofs.Ytmknengmjepdaaa
