/- Rationals in boxes; sizes of sums. -/
import Derived.Test.YtfkclcoipadhmaaDoorQj
import Derived.Test.YtfkclcoipadhmaaDoorRy
import Derived.Test.YtfkclcoipadhmaaDoorEa
namespace Go.Proofs.YtfkclcoipadhmaaDoor
open Go.RowKit

theorem nat_row {lo : Nat} {W : World} {v : Value} {n bA : Nat} {b0 : Bool} {a1 a2 : Option Addr} {n1 c1 n2 c2 : Nat} {t : TypeId} (h : NatF lo W v n) (k : Blk W bA #[.bool b0, .slice a1 n1 c1, .slice a2 n2 c2] t) (cs : Array Value) : NatF lo (W.setRow bA cs) v n := by
  obtain ⟨ao, cap, rfl, h1, h2, hc⟩ := h
  refine ⟨ao, cap, rfl, h1, h2, fun hx => ?_⟩
  obtain ⟨b, off, rfl, hlo, hlt, hcell⟩ := hc hx
  have hne : b ≠ bA := by
    rintro rfl
    have hpos : 0 < (u32s (digs n)).length := List.length_pos_iff.2 hx
    have h3 := hcell 0 hpos
    rw [k.cell] at h3
    have h4 : (u32s (digs n)).getD 0 undef = .int .u32 (((digs n).getD 0 0 : Nat) : Int) := by
      have := u32s_getD (o := digs n) (j := 0) (by rwa [u32s_length] at hpos)
      rw [List.getD_eq_getElem?_getD, this]
      rfl
    rw [h4] at h3
    have h5 : off + 0 < 3 := by
      have := (Array.getElem?_eq_some_iff.1 h3).1
      simpa using this
    match off, h5 with
    | 0, _ => simp at h3
    | 1, _ => simp at h3
    | 2, _ => simp at h3
  refine ⟨b, off, rfl, hlo, by rw [row_size]; exact hlt, fun i hi => ?_⟩
  rw [World.cell?_of_block (row_other W bA cs hne)]
  exact hcell i hi
theorem q_row {lo : Nat} {W : World} {v : Value} {q : Rat} {bA : Nat} {b0 : Bool} {a1 a2 : Option Addr} {n1 c1 n2 c2 : Nat} {t : TypeId} (h : QF lo W v q) (k : Blk W bA #[.bool b0, .slice a1 n1 c1, .slice a2 n2 c2] t) (cs : Array Value) : QF lo (W.setRow bA cs) v q := by
  obtain ⟨n, d, rfl, h1, h2⟩ := h
  exact ⟨n, d, rfl, nat_row h1 k cs, nat_row h2 k cs⟩
/-- A rational in a box. -/
structure RBox (W : World) (B : Nat) (q : Rat) (b : Bool) (x1 : Option Addr) (m1 d1 : Nat) (x2 : Option Addr) (m2 d2 : Nat) : Prop where
  k : Blk W B #[.bool b, .slice x1 m1 d1, .slice x2 m2 d2] 43
  qf : QF 0 W (.agg #[.bool b, .slice x1 m1 d1, .slice x2 m2 d2]) q
section
variable {W W' : World} {B C : Nat} {q r : Rat} {b b' : Bool} {x1 x2 y1 y2 : Option Addr} {m1 d1 m2 d2 n1 e1 n2 e2 : Nat}
theorem RBox.below (h : RBox W B q b x1 m1 d1 x2 m2 d2) (hb : Below W.heap.size W W') : RBox W' B q b x1 m1 d1 x2 m2 d2 := ⟨h.k.below hb, h.qf.below hb⟩
theorem RBox.put (h : RBox W B q b x1 m1 d1 x2 m2 d2) (hq : QF 0 W (.agg #[.bool b', .slice y1 n1 e1, .slice y2 n2 e2]) r) :
    RBox (((W.setCell ⟨B, 0, none⟩ (.bool b')).setCell ⟨B, 1, none⟩ (.slice y1 n1 e1)).setCell ⟨B, 2, none⟩ (.slice y2 n2 e2)) B r b' y1 n1 e1 y2 n2 e2 :=
  ⟨(q_box hq h.k).2, (q_box hq h.k).1⟩
theorem RBox.keep (h : RBox W B q b x1 m1 d1 x2 m2 d2) {t : TypeId} {b0 : Bool} {a1 a2 : Option Addr} {f1 g1 f2 g2 : Nat} (k : Blk W C #[.bool b0, .slice a1 f1 g1, .slice a2 f2 g2] t) (hne : B ≠ C) :
    RBox (((W.setCell ⟨C, 0, none⟩ (.bool b')).setCell ⟨C, 1, none⟩ (.slice y1 n1 e1)).setCell ⟨C, 2, none⟩ (.slice y2 n2 e2)) B q b x1 m1 d1 x2 m2 d2 := by
  obtain ⟨hk, ⟨n, d, hv, h1, h2⟩⟩ := h
  have k1 := k.set 0 (.bool b')
  have k2 := k1.set 1 (.slice y1 n1 e1)
  exact ⟨((hk.other (p := ⟨C, 0, none⟩) hne _).other (p := ⟨C, 1, none⟩) hne _).other (p := ⟨C, 2, none⟩) hne _, ⟨n, d, hv, nat_box (nat_box (nat_box h1 k 0 _) k1 1 _) k2 2 _, nat_box (nat_box (nat_box h2 k 0 _) k1 1 _) k2 2 _⟩⟩
/-- A rational stored into a fresh box. -/
theorem RBox.fresh {w W : World} (hq : QF 0 w (.agg #[.bool b, .slice x1 m1 d1, .slice x2 m2 d2]) q) (hB : w.heap.size = B) (hW : w.alloc (.cells #[.bool b, .slice x1 m1 d1, .slice x2 m2 d2] 43) = W) : RBox W B q b x1 m1 d1 x2 m2 d2 := by
  subst hB
  subst hW
  exact ⟨Blk.new w _ _, hq.below (alloc_below w _)⟩
end
theorem pinfoQ : (Tryd.prog.info? 43).map (·.size) = some 3 := by kernel_rfl

/-- A rational in a box, whatever its parts. -/
def QBox (W : World) (B : Nat) (q : Rat) : Prop := ∃ b x1 m1 d1 x2 m2 d2, RBox W B q b x1 m1 d1 x2 m2 d2
theorem QBox.below {W W' : World} {B : Nat} {q : Rat} (h : QBox W B q) (hb : Below W.heap.size W W') : QBox W' B q := by
  obtain ⟨b, x1, m1, d1, x2, m2, d2, h⟩ := h
  exact ⟨_, _, _, _, _, _, _, h.below hb⟩
theorem QBox.lt {W : World} {B : Nat} {q : Rat} (h : QBox W B q) : B < W.heap.size := by
  obtain ⟨b, x1, m1, d1, x2, m2, d2, h⟩ := h
  exact h.k.lt
theorem RBox.q {W : World} {B : Nat} {q : Rat} {b : Bool} {x1 x2 : Option Addr} {m1 d1 m2 d2 : Nat} (h : RBox W B q b x1 m1 d1 x2 m2 d2) : QBox W B q := ⟨_, _, _, _, _, _, _, h⟩
theorem QBox.keep {W : World} {B C : Nat} {q : Rat} {b' : Bool} {y1 y2 : Option Addr} {n1 e1 n2 e2 : Nat} (h : QBox W B q) {t : TypeId} {b0 : Bool} {a1 a2 : Option Addr} {f1 g1 f2 g2 : Nat} (k : Blk W C #[.bool b0, .slice a1 f1 g1, .slice a2 f2 g2] t) (hne : B ≠ C) :
    QBox (((W.setCell ⟨C, 0, none⟩ (.bool b')).setCell ⟨C, 1, none⟩ (.slice y1 n1 e1)).setCell ⟨C, 2, none⟩ (.slice y2 n2 e2)) B q := by
  obtain ⟨b, x1, m1, d1, x2, m2, d2, h⟩ := h
  exact ⟨_, _, _, _, _, _, _, h.keep k hne⟩
theorem q_keep3 {lo : Nat} {W : World} {C : Nat} {q : Rat} {v : Value} {b' : Bool} {y1 y2 : Option Addr} {n1 e1 n2 e2 : Nat} (h : QF lo W v q) {t : TypeId} {b0 : Bool} {a1 a2 : Option Addr} {f1 g1 f2 g2 : Nat} (k : Blk W C #[.bool b0, .slice a1 f1 g1, .slice a2 f2 g2] t) :
    QF lo (((W.setCell ⟨C, 0, none⟩ (.bool b')).setCell ⟨C, 1, none⟩ (.slice y1 n1 e1)).setCell ⟨C, 2, none⟩ (.slice y2 n2 e2)) v q := by
  obtain ⟨n, d, hv, h1, h2⟩ := h
  have k1 := k.set 0 (.bool b')
  have k2 := k1.set 1 (.slice y1 n1 e1)
  exact ⟨n, d, hv, nat_box (nat_box (nat_box h1 k 0 _) k1 1 _) k2 2 _, nat_box (nat_box (nat_box h2 k 0 _) k1 1 _) k2 2 _⟩
theorem Below.set3 {S : Nat} {W W' : World} (h : Go.RowKit.Below S W W') {C : Nat} (hC : S ≤ C) (u0 u1 u2 : Value) : Go.RowKit.Below S W (((W'.setCell ⟨C, 0, none⟩ u0).setCell ⟨C, 1, none⟩ u1).setCell ⟨C, 2, none⟩ u2) :=
  Go.RowKit.Below.setCell (Go.RowKit.Below.setCell (Go.RowKit.Below.setCell h (p := ⟨C, 0, none⟩) hC u0) (p := ⟨C, 1, none⟩) hC u1) (p := ⟨C, 2, none⟩) hC u2
theorem digs_mul2 (a b : Nat) : (digs (a * b)).length ≤ (digs a).length + (digs b).length := digs_len_mul a b
theorem QS_add2 {k j : Nat} {a b : Rat} (ha : QS k a) (hb : QS j b) : QS (k + j + 1) (a + b) := by
  obtain ⟨a1, a2⟩ := ha
  obtain ⟨b1, b2⟩ := hb
  have m1 := digs_mul2 a.num.natAbs b.den
  have m2 := digs_mul2 b.num.natAbs a.den
  have m3 := digs_mul2 a.den b.den
  have hps := digs_len_add (a.num.natAbs * b.den) (b.num.natAbs * a.den)
  have hd := Nat.mul_ne_zero a.den_nz b.den_nz
  by_cases h : decide (a.num < 0) = decide (b.num < 0)
  · rw [← add_same h]
    exact QS_qmk hd (by omega) (by omega)
  · rcases Nat.le_total (b.num.natAbs * a.den) (a.num.natAbs * b.den) with hle | hle
    · rw [← add_diff h hle]
      exact QS_qmk hd (len_le_of_le (Nat.sub_le _ _) (by omega)) (by omega)
    · rw [← add_diff' h hle]
      exact QS_qmk hd (len_le_of_le (Nat.sub_le _ _) (by omega)) (by omega)

end Go.Proofs.YtfkclcoipadhmaaDoor
