/- TopHeapMore, plainly: a heap allows as many pairs as its sides, and the barrier certifies the maximum. -/
import Derived.Test.YtcpefolhohakmaaJ6
import Derived.Test.YtcpefolhohakmaaK5
namespace Go.Proofs.Ytcpefolhohakmaa
open Go.RowKit

theorem cut_same {l : List Gv} (h : SideOk l) : l.take 34 = l := List.take_of_length_le (by have := h.1; omega)
theorem cut_side (l : List Gv) : sideB (l.take 34) = sideB l := by
  by_cases h : l.length ≤ 34
  · rw [List.take_of_length_le h]
  · have h1 : ¬ SideOk l := fun k => h (by have := k.1; omega)
    have h2 : ¬ SideOk (l.take 34) := fun k => by
      have := k.1
      rw [List.length_take] at this
      omega
    rw [sideB_false h1, sideB_false h2]
theorem getD_right (l r : List Gv) (j : Nat) : (l ++ r).getD (l.length + j) g0 = r.getD j g0 := by
  rw [List.getD_eq_getElem?_getD, List.getD_eq_getElem?_getD, List.getElem?_append_right (by omega), Nat.add_sub_cancel_left]
theorem getD_leftG (l r : List Gv) {i : Nat} (h : i < l.length) : (l ++ r).getD i g0 = l.getD i g0 := by
  rw [List.getD_eq_getElem?_getD, List.getD_eq_getElem?_getD, List.getElem?_append_left h]
/-- The law's own sum. -/
theorem heap_more {l r : List Gv} {u : Ru} (hl : SideOk l) (hr : SideOk r) (hu : RuOk u) {N : Nat} (hN : (l ++ r).length = N) {m1 m2 : Mt} {b : List Nat} {cs : List (List Nat)}
    (h1 : Mat (fun i j => adjB (l ++ r) u i j = true) m1) (e1 : ∀ x, x < N → m1 x = none → EvM N (fun i j => adjB (l ++ r) u i j = true) m1 x)
    (h2 : Mat (fun i j => adjB (l ++ r) u i j = true) m2) (e2 : ∀ x, x < N → m2 x = none → EvM N (fun i j => adjB (l ++ r) u i j = true) m2 x)
    (hb : ∀ x, x ∈ b ↔ OdM N (fun i j => adjB (l ++ r) u i j = true) m2 x) (hs : b.Pairwise (· < ·)) (hc : Cls N (fun i j => adjB (l ++ r) u i j = true) (fun x => x ∈ b) cs) :
    mostN l r u ≤ cnt m1 N / 2 ∧ 2 * ((cnt m1 N / 2 : Nat) : Int) = (N : Int) + (b.length : Int) - (odds cs : Int) := by
  have G := adjB_gr (l ++ r) u
  rw [hN] at G
  have D1 := done_of G h1 e1
  have D2 := done_of G h2 e2
  have hle := (D1.greatest h2).1
  have hge := (D2.greatest h1).1
  have hbg := berge D2 hb (hs.imp (fun h => Nat.ne_of_lt h)) (hc.congr hb)
  have hev := cnt_even G h1
  constructor
  · have hk := kuhn_ok (kE (costC l r u)) r.length l.length
    have hM := heapM_mat hk G.sym (fun i j hi hj he => by
      have h3 : 0 ≤ costC l r u i j := of_decide_eq_true he
      have h4 := (costV_nonneg (hl.get hi) (hr.get hj) hu).1 h3
      unfold adjB
      rw [decide_eq_true_eq, getD_right, getD_leftG l r hi, List.length_append]
      exact ⟨by omega, by omega, by omega, h4⟩)
    have h5 := heapM_cnt hk
    have h6 := (D1.greatest hM).1
    rw [List.length_append] at hN
    rw [hN] at h5
    unfold mostN
    omega
  · omega

end Go.Proofs.Ytcpefolhohakmaa
