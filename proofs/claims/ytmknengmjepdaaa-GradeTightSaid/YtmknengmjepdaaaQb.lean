/- Walks of trankref01's rational numbers: made, Int, Minus. -/
import Derived.Test.YtmknengmjepdaaaNh
import Derived.Test.YtmknengmjepdaaaQa
import Derived.Deep.RegionHeld3
namespace Go.Proofs.Ytmknengmjepdaaa
open Go.RowKit

/-- A rational number, its digits in blocks from lo on. -/
def QF (lo : Nat) (w : World) (v : Value) (q : Rat) : Prop :=
  ∃ n d, v = .agg #[.bool (decide (q.num < 0)), n, d] ∧ NatF lo w n q.num.natAbs ∧ NatF lo w d q.den
/-- A rational number. -/
abbrev QR (w : World) (v : Value) (q : Rat) : Prop := QF 0 w v q
/-- Its numerator and denominator have at most k digits. -/
def QS (k : Nat) (q : Rat) : Prop := (digs q.num.natAbs).length ≤ k ∧ (digs q.den).length ≤ k
theorem QF.below {lo : Nat} {w w' : World} {v : Value} {q : Rat} (h : QF lo w v q) (hb : Below w.heap.size w w') : QF lo w' v q := by
  obtain ⟨n, d, h1, h2, h3⟩ := h
  exact ⟨n, d, h1, h2.below hb, h3.below hb⟩
theorem QF.mono {lo lo' : Nat} {w : World} {v : Value} {q : Rat} (h : QF lo w v q) (hl : lo' ≤ lo) : QF lo' w v q := by
  obtain ⟨n, d, h1, h2, h3⟩ := h
  exact ⟨n, d, h1, h2.mono hl, h3.mono hl⟩
theorem QF.rat {lo : Nat} {w : World} {v : Value} {q : Rat} (h : QF lo w v q) : QR w v q := h.mono (Nat.zero_le _)
theorem QF.setCell {lo : Nat} {w : World} {v : Value} {q : Rat} (h : QF lo w v q) {p : Addr} (hp : p.block < lo) (u : Value) : QF lo (w.setCell p u) v q := by
  obtain ⟨n, d, h1, h2, h3⟩ := h
  exact ⟨n, d, h1, h2.setCell hp u, h3.setCell hp u⟩
theorem QF.drew {lo : Nat} {w : World} {v : Value} {q : Rat} (h : QF lo w v q) : QF lo w.drew v q := h.below (Below.refl _ _).drew
theorem QF.shape {lo : Nat} {w : World} {v : Value} {q : Rat} (h : QF lo w v q) : ∃ nb no nn nc do_ dn dc, v = .agg #[.bool nb, .slice no nn nc, .slice do_ dn dc] := by
  obtain ⟨n, d, rfl, ⟨_, _, rfl, _⟩, ⟨_, _, rfl, _⟩⟩ := h
  exact ⟨_, _, _, _, _, _, _, rfl⟩
theorem QS.mono {k k' : Nat} {q : Rat} (h : QS k q) (hk : k ≤ k') : QS k' q := ⟨Nat.le_trans h.1 hk, Nat.le_trans h.2 hk⟩

theorem made_rep {lo : Nat} {w : World} {neg : Bool} {n d : Nat} {v1 v2 : Value} (hn : n ≠ 0) (hd : d ≠ 0) (h1 : NatF lo w v1 (n / Nat.gcd n d)) (h2 : NatF lo w v2 (d / Nat.gcd n d)) :
    QF lo w (.agg #[.bool neg, v1, v2]) (qmk neg n d) :=
  ⟨v1, v2, by rw [qmk_neg neg hn hd], by rw [qmk_abs neg hd]; exact h1, by rw [qmk_den neg hd]; exact h2⟩
theorem made_rep0 {lo : Nat} {w : World} {neg : Bool} {d : Nat} {v1 v2 : Value} (h1 : NatF lo w v1 0) (h2 : NatF lo w v2 1) : QF lo w (.agg #[.bool false, v1, v2]) (qmk neg 0 d) := by
  rw [qmk_zero]
  exact ⟨v1, v2, rfl, h1, h2⟩
theorem DsR.setCell {lo : Nat} {w : World} {v : Value} {ds : List Nat} (h : DsR lo w v ds) {p : Addr} (hp : p.block < lo) (u : Value) : DsR lo (w.setCell p u) v ds := SlR.setCell h hp u

set_option maxHeartbeats 1000000 in
theorem made_any (neg : Bool) (n d : Nat) (u v : Value) (w : World) (hu : NatR w u n) (hv : NatR w v d) (hd : d ≠ 0) (ln : (digs n).length ≤ 1073741824) (ld : (digs d).length ≤ 1073741824) :
    Calls Try.prog 84 #[.bool neg, u, v] w fun e w' => ∃ v', e = .returned v' ∧ QF w.heap.size w' v' (qmk neg n d) ∧ Below w.heap.size w w' := by
  have hu0 := hu
  obtain ⟨ao, cap, rfl, hcap, hmax, hc⟩ := hu
  by_cases hn : n = 0
  · subst hn
    rw [digs_zero] at *
    go_enter Try.func84, Try.ntmps84
    go_wp2
    refine bodyPost_ret (v := .agg #[.bool false, .slice none 0 0, .slice (some ⟨w.heap.size + 1, 0, none⟩) 1 1]) (by simp [results, Try.results84, go_sem]) rfl ⟨_, rfl, made_rep0 ?_ ?_, ?_⟩
    · unfold NatF DsR; rw [digs_zero]; exact SlR.nil _ _
    · have := (natR_one (w.alloc (.cells #[.bool false, .slice none 0 0, .slice (some ⟨w.heap.size + 1, 0, none⟩) 1 1] 43)) 116).mono (lo' := w.heap.size) (by simp)
      simpa using this
    · exact ((Below.refl _ _).alloc (Nat.le_refl _) _).alloc (by simp) _
  · have hpos : 0 < (digs n).length := by have := @digs_len_zero n; omega
    have hg : 0 < Nat.gcd n d := Nat.gcd_pos_of_pos_left _ (by omega)
    have lg : (digs (Nat.gcd n d)).length ≤ 1073741824 := len_le_of_le (Nat.le_of_dvd (by omega) (Nat.gcd_dvd_left n d)) ln
    go_enter Try.func84, Try.ntmps84
    go_wp2_with fail
    have hb0 : Below w.heap.size w (w.alloc (.cells #[.bool false, .slice none 0 0, .slice none 0 0] 43)) := (Below.refl _ _).alloc (Nat.le_refl _) _
    have hk0 := Blk.new w #[.bool false, .slice none 0 0, .slice none 0 0] 43
    obtain ⟨w0, hw0⟩ : ∃ w0, w.alloc (.cells #[.bool false, .slice none 0 0, .slice none 0 0] 43) = w0 := ⟨_, rfl⟩
    rw [hw0] at hb0 hk0 ⊢
    clear hw0
    refine (divisor_any n d _ _ _ (hu0.below hb0) (hv.below hb0) ln ld).mono ?_
    rintro e w1 ⟨v1, rfl, hv1, hb1⟩
    have hb01 : Below w.heap.size w w1 := hb0.trans (hb1.mono hb0.size)
    go_wp2_with fail
    refine (divided_any n (Nat.gcd n d) _ _ _ (hu0.below hb01) hv1 hg ln lg).mono ?_
    rintro e w2 ⟨v2, v3, rfl, hv2, _, hb2⟩
    have hb02 : Below w.heap.size w w2 := hb01.trans (hb2.mono hb01.size)
    go_wp2_with fail
    refine (divided_any d (Nat.gcd n d) _ _ _ (hv.below hb02) (hv1.below hb2) hg ld lg).mono ?_
    rintro e w3 ⟨v4, v5, rfl, hv4, _, hb3⟩
    have hb03 : Below w.heap.size w w3 := hb02.trans (hb3.mono hb02.size)
    have hk3 := ((hk0.below hb1).below hb2).below hb3
    have f0 := hk3.frozen
    have c0 := hk3.cell 0
    have c1 := hk3.cell 1
    have c2 := hk3.cell 2
    have hv2' := (hv2.mono (lo' := w.heap.size + 1) (Nat.le_trans hk0.lt hb1.size)).below hb3
    have hv4' := hv4.mono (lo' := w.heap.size + 1) (Nat.le_trans hk0.lt (Nat.le_trans hb1.size hb2.size))
    obtain ⟨o2, cp2, rfl, _⟩ := hv2
    obtain ⟨o4, cp4, rfl, _⟩ := hv4
    go_wp2
    refine bodyPost_ret (v := .agg #[.bool neg, .slice o2 (digs (n / n.gcd d)).length cp2, .slice o4 (digs (d / n.gcd d)).length cp4]) ?_ rfl ⟨_, rfl, made_rep hn hd ((((hv2'.setCell (Nat.lt_succ_self _) _).setCell (Nat.lt_succ_self _) _).setCell (Nat.lt_succ_self _) _).mono (Nat.le_succ _)) ((((hv4'.setCell (Nat.lt_succ_self _) _).setCell (Nat.lt_succ_self _) _).setCell (Nat.lt_succ_self _) _).mono (Nat.le_succ _)), ((hb03.setCell (Nat.le_refl _) _).setCell (Nat.le_refl _) _).setCell (Nat.le_refl _) _⟩
    simp [results, Try.results84, go_sem, c0, c1, c2]

end Go.Proofs.Ytmknengmjepdaaa
