/- A rational number stored into a box of its own. -/
import Derived.Test.YtfkclcoipadhmaaGreatDoorQx
namespace Go.Proofs.YtfkclcoipadhmaaGreatDoor
open Go.RowKit

theorem nat_box {lo : Nat} {W : World} {v : Value} {n bA : Nat} {b0 : Bool} {a1 a2 : Option Addr} {n1 c1 n2 c2 : Nat} {t : TypeId} (h : NatF lo W v n) (k : Blk W bA #[.bool b0, .slice a1 n1 c1, .slice a2 n2 c2] t) (j : Nat) (u : Value) : NatF lo (W.setCell ⟨bA, j, none⟩ u) v n := by
  obtain ⟨ao, cap, rfl, h1, h2, hc⟩ := h
  refine ⟨ao, cap, rfl, h1, h2, fun hx => ?_⟩
  obtain ⟨b, off, rfl, hlo, hlt, hcell⟩ := hc hx
  have hne : b ≠ bA := by
    rintro rfl
    have hpos : 0 < (u32s (digs n)).length := List.length_pos_iff.2 hx
    have h3 := hcell 0 hpos
    rw [k.cell] at h3
    have h4 : (u32s (digs n)).getD 0 undef = .int .u32 (((digs n).getD 0 0 : Nat) : Int) := by
      have := u32s_getD (o := digs n) (j := 0) (by rwa [u32s_length] at hpos)
      rw [List.getD_eq_getElem?_getD, this]
      rfl
    rw [h4] at h3
    have h5 : off + 0 < 3 := by
      have := (Array.getElem?_eq_some_iff.1 h3).1
      simpa using this
    match off, h5 with
    | 0, _ => simp at h3
    | 1, _ => simp at h3
    | 2, _ => simp at h3
  refine ⟨b, off, rfl, hlo, by simpa [World.setCell] using hlt, fun i hi => ?_⟩
  rw [World.cell?_of_block (Below.heap_setCell W ⟨bA, j, none⟩ u b hne)]
  exact hcell i hi
theorem q_box {lo : Nat} {W : World} {q : Rat} {bA : Nat} {b0 b1 : Bool} {a1 a2 a3 a4 : Option Addr} {n1 c1 n2 c2 n3 c3 n4 c4 : Nat} {t : TypeId} (h : QF lo W (.agg #[.bool b1, .slice a3 n3 c3, .slice a4 n4 c4]) q) (k : Blk W bA #[.bool b0, .slice a1 n1 c1, .slice a2 n2 c2] t) :
    QF lo (((W.setCell ⟨bA, 0, none⟩ (.bool b1)).setCell ⟨bA, 1, none⟩ (.slice a3 n3 c3)).setCell ⟨bA, 2, none⟩ (.slice a4 n4 c4)) (.agg #[.bool b1, .slice a3 n3 c3, .slice a4 n4 c4]) q ∧
    Blk (((W.setCell ⟨bA, 0, none⟩ (.bool b1)).setCell ⟨bA, 1, none⟩ (.slice a3 n3 c3)).setCell ⟨bA, 2, none⟩ (.slice a4 n4 c4)) bA #[.bool b1, .slice a3 n3 c3, .slice a4 n4 c4] t := by
  obtain ⟨n, d, hv, h1, h2⟩ := h
  have k1 := k.set 0 (.bool b1)
  have k2 := k1.set 1 (.slice a3 n3 c3)
  have k3 := k2.set 2 (.slice a4 n4 c4)
  refine ⟨⟨n, d, hv, nat_box (nat_box (nat_box h1 k 0 _) k1 1 _) k2 2 _, nat_box (nat_box (nat_box h2 k 0 _) k1 1 _) k2 2 _⟩, k3⟩
theorem q_shape {lo : Nat} {W : World} {v : Value} {q : Rat} (h : QF lo W v q) : ∃ a3 n3 c3 a4 n4 c4, v = .agg #[.bool (decide (q.num < 0)), .slice a3 n3 c3, .slice a4 n4 c4] := by
  obtain ⟨n, d, rfl, ⟨a, c, rfl, -⟩, ⟨a', c', rfl, -⟩⟩ := h
  exact ⟨_, _, _, _, _, _, rfl⟩

end Go.Proofs.YtfkclcoipadhmaaGreatDoor
