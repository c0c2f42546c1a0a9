/- The greatest measures obey every rule, and the first is 0, plainly. -/
import Derived.Test.YtmknengmjepdaaaYn
namespace Go.Proofs.Ytmknengmjepdaaa
open Go.RowKit

theorem gr_rule {p : Pat} {n d mn md : Int} (hp : PValid p) (hs : FSize n d) (hm : FMost mn md) (hb : chBad p n d = false) {r : Rul} (hr : r ∈ ext p) :
    wt r n d * md ≤ grZ p n d mn md r.a.toNat p.n.toNat - grZ p n d mn md r.b.toNat p.n.toNat := by
  have hrv := ext_rv hp.1 hp.2.2.2 r hr
  have ha : r.a.toNat < p.n.toNat := by have := hrv.1; have := hrv.2.1; omega
  have hbb : r.b.toNat < p.n.toNat := by have := hrv.2.2.1; have := hrv.2.2.2.1; omega
  have hmd := hm.1.1
  have hi := finv_good hp hs hb
  obtain ⟨g1, g2⟩ := hi.edge r hr
  have m0 := (most_bd hs hm).1
  have key : ∀ x y : Int, x + wt r n d ≤ y → (x + wt r n d) * md ≤ y * md := fun x y h => Int.mul_le_mul_of_nonneg_right h (by omega)
  rcases grZ_is p n d mn md r.a.toNat p.n.toNat with e | ⟨j, hj, hne, e⟩
  · have k := grZ_at (mn := mn) (md := md) g1 p.n.toNat ha
    have k2 := key 0 _ (by omega : 0 + wt r n d ≤ chainM p n d r.a.toNat r.b.toNat)
    rw [Int.zero_add] at k2
    unfold grC at k
    rw [e]
    split at k <;> omega
  · obtain ⟨t1, t2⟩ := hi.tri r.a.toNat j r.b.toNat ha ha hj hbb hne g1
    have k := grZ_at (mn := mn) (md := md) t1 p.n.toNat hj
    have k2 := key (chainM p n d j r.a.toNat) (chainM p n d j r.b.toNat) (by omega)
    rw [Int.add_mul] at k2
    unfold grC at k e
    rw [e]
    omega
theorem gr_zero {p : Pat} {n d mn md : Int} (hp : PValid p) (hs : FSize n d) (hm : FMost mn md) (hb : chBad p n d = false) (hsh : grShort p n d mn md = false) : grZ p n d mn md 0 p.n.toNat = 0 := by
  have h0 : 0 < p.n.toNat := by have := hp.1; omega
  have k1 := (chain_bd hp hs hb h0).1
  have k2 := chBad_false.1 hb 0 h0
  have k3 : chainM p n d 0 0 = 0 := by omega
  have hne : chainM p n d 0 0 ≠ NONE := by rw [k3]; decide
  have m0 := (most_bd hs hm).1
  have k := grZ_at (mn := mn) (md := md) hne p.n.toNat h0
  unfold grC at k
  rw [if_pos rfl, k3, Int.zero_mul] at k
  have hge : 0 ≤ grZ p n d mn md 0 p.n.toNat := by
    rcases grZ_is p n d mn md 0 p.n.toNat with e | ⟨j, hj, hn, e⟩
    · omega
    · rw [e]
      unfold grC
      by_cases hj0 : j = 0
      · rw [if_pos hj0, hj0, k3, Int.zero_mul]; omega
      · rw [if_neg hj0]
        unfold grShort at hsh
        rw [List.any_eq_false] at hsh
        have := hsh j (List.mem_range.2 hj)
        rw [decide_eq_true_eq] at this
        omega
  omega

end Go.Proofs.Ytmknengmjepdaaa
