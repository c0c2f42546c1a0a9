/- Bounds for the greatest solution. -/
import Derived.Test.YtmknengmjepdaaaYl
namespace Go.Proofs.Ytmknengmjepdaaa
open Go.RowKit

/-- The weight of the best chain, where there is one. -/
theorem chain_small {p : Pat} {n d : Int} (hp : PValid p) (hs : FSize n d) (hb : chBad p n d = false) {i j : Nat} (hj : j < p.n.toNat) (hi : i < p.n.toNat) (h : chainM p n d j i ≠ NONE) : -4000000000000 ≤ chainM p n d j i ∧ chainM p n d j i ≤ 4000000000000 := by
  have hk := ((finv_good hp hs hb).small j i hj hi).resolve_left h
  have hN : p.n.toNat ≤ 16 := by have := hp.2.1; omega
  have h2 : (2 : Nat) ^ p.n.toNat ≤ 2 ^ 16 := Nat.pow_le_pow_right (by decide) hN
  have h3 : ((2 : Int) ^ p.n.toNat) ≤ 65536 := by
    have : ((2 ^ p.n.toNat : Nat) : Int) ≤ ((2 ^ 16 : Nat) : Int) := Int.ofNat_le.2 h2
    rw [Int.natCast_pow] at this
    exact this
  omega
theorem most_bd {n d mn md : Int} (hs : FSize n d) (hm : FMost mn md) : 0 ≤ mn * d ∧ mn * d ≤ 1000000000000 ∧ 1 ≤ d * md ∧ d * md ≤ 1000000 := by
  have h1 := hs.1.1
  have h2 := hs.2.2.1
  have h3 := hm.1.1
  have h4 := hm.2.2.1
  have h5 := hm.2.1
  have h6 : mn ≤ 100000000 := by have := hm.2.2.2; omega
  have a := prod_bd (x := mn) (y := d) (X := 100000000) (Y := 10000) (by omega) h6 (by omega) h2
  have b := prod_bd (x := d) (y := md) (X := 10000) (Y := 100) (by omega) h2 (by omega) h4
  have c : 0 ≤ mn * d := Int.mul_nonneg h5 (by omega)
  have e : 0 < d * md := Int.mul_pos (by omega) (by omega)
  omega
theorem grC_bd {p : Pat} {n d mn md : Int} (hp : PValid p) (hs : FSize n d) (hm : FMost mn md) (hb : chBad p n d = false) {i j : Nat} (hj : j < p.n.toNat) (hi : i < p.n.toNat) (h : chainM p n d j i ≠ NONE) : -401000000000000 ≤ grC p n d mn md i j ∧ grC p n d mn md i j ≤ 401000000000000 := by
  have k := chain_small hp hs hb hj hi h
  have m := most_bd hs hm
  have h3 := hm.1.1
  have h4 := hm.2.2.1
  have a := prod_bd (x := chainM p n d j i) (y := md) (X := 4000000000000) (Y := 100) (by omega) (by omega) (by omega) h4
  unfold grC
  split <;> omega

end Go.Proofs.Ytmknengmjepdaaa
