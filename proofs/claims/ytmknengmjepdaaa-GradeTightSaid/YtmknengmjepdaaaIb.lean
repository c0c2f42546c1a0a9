/- Walk of grade.Pattern.rule. -/
import Derived.Test.YtmknengmjepdaaaTc
namespace Go.Proofs.Ytmknengmjepdaaa
open Go.RowKit

set_option maxHeartbeats 1000000 in
theorem rule_any (p : Pat) (k : Int) (v : Value) (w : World) (h : PatF 0 w v p) (h1 : -16 ≤ k) (h2 : k < p.rules.length) :
    Calls Try.prog 113 #[v, .int .i64 k] w fun e w' => e = .returned (ruV (numRule p k)) ∧ Below w.heap.size w w' := by
  obtain ⟨ao, cap, rfl, hcap, hmax, hc⟩ := h.shape
  unfold maxLen at hmax
  clear h
  obtain ⟨L, hL⟩ : ∃ L, p.rules.length = L := ⟨_, rfl⟩
  have HL := hid hL
  rw [hL] at hcap h2 ⊢
  clear hL
  have hB : ∀ o1 o2, Below w.heap.size w ((w.alloc o1).alloc o2) := fun o1 o2 => ((Below.refl _ _).alloc (Nat.le_refl _) _).alloc (by simp) _
  have HB := hid hB
  clear hB
  by_cases hk : k < 0
  · have hn : numRule p k = ⟨-k, 0, 0, 0⟩ := by unfold numRule; rw [if_pos hk]
    rw [hn]
    clear hn
    go_enter Try.func113, Try.ntmps113
    go_wp2
    obtain ⟨W, hW, -, k1, -, -⟩ := one_new w #[.int .i64 p.n, .slice ao L cap] #[.int .i64 (-k), .int .i64 0, .int .i64 0, .int .i64 0] 33 92
    have hBW : Below w.heap.size w W := by rw [← hW]; exact HB.out _ _
    have c0 := k1.look 0 rfl
    have c1 := k1.look 1 rfl
    have c2 := k1.look 2 rfl
    have c3 := k1.look 3 rfl
    rw [hW]
    exact bodyPost_ret (v := .agg #[.int .i64 (-k), .int .i64 0, .int .i64 0, .int .i64 0]) (by simp [results, Try.results113, go_sem, c0, c1, c2, c3]) rfl ⟨rfl, hBW⟩
  · obtain ⟨i, rfl⟩ : ∃ i : Nat, k = i := ⟨k.toNat, by omega⟩
    obtain ⟨r, hr⟩ := ex_rule (l := p.rules) (i := i) (by rw [HL.out]; omega)
    obtain ⟨b, off, rfl, hb, d0, d1, d2, d3⟩ := ru_cell hc hr
    have hn : numRule p (i : Int) = r := by
      unfold numRule
      rw [if_neg hk, Int.toNat_natCast, List.getD_eq_getElem?_getD, hr]; rfl
    rw [hn]
    have e0 := ((HB.out (.cells #[.int .i64 p.n, .slice (some ⟨b, off, none⟩) L cap] 33) (.cells #[.int .i64 0, .int .i64 0, .int .i64 0, .int .i64 0] 92)).cell (p := ⟨b, off + i * 4, none⟩) hb).trans d0
    have e1 := ((HB.out (.cells #[.int .i64 p.n, .slice (some ⟨b, off, none⟩) L cap] 33) (.cells #[.int .i64 0, .int .i64 0, .int .i64 0, .int .i64 0] 92)).cell (p := ⟨b, off + i * 4 + 1, none⟩) hb).trans d1
    have e2 := ((HB.out (.cells #[.int .i64 p.n, .slice (some ⟨b, off, none⟩) L cap] 33) (.cells #[.int .i64 0, .int .i64 0, .int .i64 0, .int .i64 0] 92)).cell (p := ⟨b, off + i * 4 + 2, none⟩) hb).trans d2
    have e3 := ((HB.out (.cells #[.int .i64 p.n, .slice (some ⟨b, off, none⟩) L cap] 33) (.cells #[.int .i64 0, .int .i64 0, .int .i64 0, .int .i64 0] 92)).cell (p := ⟨b, off + i * 4 + 3, none⟩) hb).trans d3
    clear hn hr d0 d1 d2 d3
    obtain ⟨ra, rb, rc, rd⟩ := r
    dsimp only at e0 e1 e2 e3
    have hi : i < L := by omega
    go_enter Try.func113, Try.ntmps113
    go_wp2
    obtain ⟨W, hW, -, k1, -, -⟩ := one_new w #[.int .i64 p.n, .slice (some ⟨b, off, none⟩) L cap] #[.int .i64 ra, .int .i64 rb, .int .i64 rc, .int .i64 rd] 33 92
    have hBW : Below w.heap.size w W := by rw [← hW]; exact HB.out _ _
    have c0 := k1.look 0 rfl
    have c1 := k1.look 1 rfl
    have c2 := k1.look 2 rfl
    have c3 := k1.look 3 rfl
    rw [hW]
    exact bodyPost_ret (v := .agg #[.int .i64 ra, .int .i64 rb, .int .i64 rc, .int .i64 rd]) (by simp [results, Try.results113, go_sem, c0, c1, c2, c3]) rfl ⟨rfl, hBW⟩

end Go.Proofs.Ytmknengmjepdaaa
