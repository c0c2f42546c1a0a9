/- Walk of tranklaw04.awake. -/
import Derived.Test.YtmknengmjepdaaaJb
import Derived.Test.YtmknengmjepdaaaMd
namespace Go.Proofs.Ytmknengmjepdaaa
open Go.RowKit

/-- awake's pattern. -/
def pAwake : Pat := ⟨2, [⟨1, 0, 3, 1⟩]⟩
theorem awakeE : rLeastE pAwake 13 2 = 0 := by decide +kernel
theorem awakeL : rLeastL pAwake 13 2 = [(0, 1), (19, 2)] := by decide +kernel

theorem slR_blk {lo b n : Nat} {W : World} {cs : Array Value} {t : TypeId} (h : Blk W b cs t) (hlo : lo ≤ b) (hn : n ≤ 1000) {xs : List Value} (hx : cs.toList = xs) : SlR lo W (.slice (some ⟨b, 0, none⟩) n n) n xs := by
  subst hx
  refine ⟨some ⟨b, 0, none⟩, n, rfl, Nat.le_refl _, by unfold maxLen; omega, fun _ => ⟨b, 0, rfl, hlo, h.lt, fun j hj => ?_⟩⟩
  rw [Nat.zero_add, h.cell j]
  have hj' : j < cs.size := by simpa using hj
  simp [List.getD_eq_getElem?_getD, hj']

set_option maxHeartbeats 1000000 in
theorem awake_any (w : World) : Calls Try.prog 26 #[] w fun e w' => e = .returned (.bool true) ∧ Below w.heap.size w w' := by
  go_enter Try.func26, Try.ntmps26
  go_wp2_with fail
  have k0 := Blk.new w #[.int .i64 1, .int .i64 0, .int .i64 3, .int .i64 1] 92
  have hb0 := (Below.refl w.heap.size w).alloc (Nat.le_refl _) (.cells #[.int .i64 1, .int .i64 0, .int .i64 3, .int .i64 1] 92)
  obtain ⟨w0, hw0⟩ : ∃ w0, w.alloc (.cells #[.int .i64 1, .int .i64 0, .int .i64 3, .int .i64 1] 92) = w0 := ⟨_, rfl⟩
  rw [hw0] at k0 hb0 ⊢
  clear hw0
  refine (Least_any pAwake 13 2 _ w0 ⟨_, rfl, slR_blk (n := 1) k0 (Nat.zero_le _) (by decide) rfl⟩).mono ?_
  rintro e w1 ⟨⟨vm, rfl, hvm⟩, hb1⟩
  rw [awakeE]
  rw [awakeL] at hvm
  have hb2 := hb0.trans (hb1.mono hb0.size)
  go_wp2_with fail
  have k1 := Blk.new w1 #[.int .i64 0, .int .i64 1, .int .i64 19, .int .i64 2] 26
  have hb3 := (Below.refl w1.heap.size w1).alloc (Nat.le_refl _) (.cells #[.int .i64 0, .int .i64 1, .int .i64 19, .int .i64 2] 26)
  obtain ⟨w2, hw2⟩ : ∃ w2, w1.alloc (.cells #[.int .i64 0, .int .i64 1, .int .i64 19, .int .i64 2] 26) = w2 := ⟨_, rfl⟩
  rw [hw2] at k1 hb3 ⊢
  clear hw2
  refine (EqFr_any [(0, 1), (19, 2)] [(0, 1), (19, 2)] _ _ w2 ((hvm.below hb3).mono (Nat.zero_le _)) (slR_blk (n := 2) k1 (Nat.zero_le _) (by decide) rfl)).mono ?_
  rintro e w3 ⟨rfl, hb4⟩
  rw [decide_eq_true rfl]
  go_wp2
  go_ret
  exact ⟨rfl, (hb2.trans (hb3.mono hb2.size)).trans (hb4.mono (Nat.le_trans hb2.size hb3.size))⟩

end Go.Proofs.Ytmknengmjepdaaa
