/- Walk of trankref04.less. -/
import Derived.Test.YtmknengmjepdaaaWl
import Derived.Test.YtmknengmjepdaaaRv
import Derived.Test.YtmknengmjepdaaaRw
namespace Go.Proofs.Ytmknengmjepdaaa
open Go.RowKit
attribute [local irreducible] seqS seqST walkV

theorem ruCells_one (l : List Rul) : ∀ u ∈ ruCells l, u.oneCell' = true := by
  intro u hu
  obtain ⟨r, _, hr⟩ := List.mem_flatMap.1 hu
  simp only [List.mem_cons, List.not_mem_nil, or_false] at hr
  rcases hr with rfl | rfl | rfl | rfl <;> rfl
theorem ruCells_split (l : List Rul) (k : Nat) : ruCells l = ruCells (l.take k) ++ ruCells (l.drop k) := by rw [← ruCells_append, List.take_append_drop]
theorem ruCells_take (l : List Rul) (k : Nat) : ∀ (j : Nat) (u : Value), (ruCells (l.take k))[j]? = some u → (ruCells l)[0 + j]? = some u := by
  intro j u hu
  rw [Nat.zero_add, ruCells_split l k, List.getElem?_append_left (List.getElem?_eq_some_iff.1 hu).1]
  exact hu
theorem ruCells_drop (l : List Rul) {k : Nat} (hk : k ≤ l.length) : ∀ (j : Nat) (u : Value), (ruCells (l.drop k))[j]? = some u → (ruCells l)[k * 4 + j]? = some u := by
  intro j u hu
  have hl : (ruCells (l.take k)).length = k * 4 := by rw [ruCells_len, List.length_take, Nat.min_eq_left hk]
  rw [ruCells_split l k, List.getElem?_append_right (by omega), hl, Nat.add_sub_cancel_left]
  exact hu
theorem ru_src {lo : Nat} {w : World} {b off : Nat} {l : List Rul} (h : CellsOf lo w (some ⟨b, off, none⟩) (ruCells l)) {o : Nat} {xs : List Value} (hx : ∀ (j : Nat) (u : Value), xs[j]? = some u → (ruCells l)[o + j]? = some u) :
    ∀ (j : Nat) (u : Value), xs[j]? = some u → w.cell? ((⟨b, off + o, none⟩ : Addr).add j) = some u := by
  intro j u hu
  have h1 := hx j u hu
  have hlt := (List.getElem?_eq_some_iff.1 h1).1
  obtain ⟨b', off', he, _, _, hc⟩ := h (by intro h0; rw [h0] at hlt; cases hlt)
  cases he
  rw [Addr.add_lit, Nat.add_assoc, hc _ hlt, List.getD_eq_getElem?_getD, h1]
  rfl

set_option maxHeartbeats 4000000 in
set_option maxRecDepth 100000 in
theorem rLess_any (p : Pat) (k : Nat) (v : Value) (w : World) (h : PatF 0 w v p) (hk : k < p.rules.length) (hlen : p.rules.length ≤ 64) :
    Calls Try.prog 102 #[v, .int .i64 (k : Int)] w fun e w' => ∃ v', e = .returned v' ∧ PatF w.heap.size w' v' (lessP p k) ∧ Below w.heap.size w w' := by
  obtain ⟨ao, cap, rfl, hcap, hmax, hc⟩ := h.shape
  unfold maxLen at hmax
  clear h
  obtain ⟨L, hL⟩ : ∃ L, p.rules.length = L := ⟨_, rfl⟩
  have HL := hid hL
  rw [hL] at hk hlen hcap ⊢
  clear hL
  obtain ⟨r0, hr0⟩ := ex_rule (l := p.rules) (i := k) (by rw [HL.out]; exact hk)
  obtain ⟨b9, off9, rfl, hb9, -⟩ := ru_cell hc hr0
  have HC := hid hc
  clear hc hr0
  go_enter Try.func102, Try.ntmps102
  go_wp2_with fail
  have k0 := (Blk.new w #[.int .i64 p.n, .slice (some ⟨b9, off9, none⟩) L cap] 24).alloc (.cells #[.int .i64 0, .slice none 0 0] 24)
  have k1 := Blk.new (w.alloc (.cells #[.int .i64 p.n, .slice (some ⟨b9, off9, none⟩) L cap] 24)) #[.int .i64 0, .slice none 0 0] 24
  have b0 := ((Below.refl w.heap.size w).alloc (Nat.le_refl _) (.cells #[.int .i64 p.n, .slice (some ⟨b9, off9, none⟩) L cap] 24)).alloc (by simp) (.cells #[.int .i64 0, .slice none 0 0] 24)
  simp only [World.size_alloc] at k1
  obtain ⟨w0, hw0⟩ : ∃ w0, (w.alloc (.cells #[.int .i64 p.n, .slice (some ⟨b9, off9, none⟩) L cap] 24)).alloc (.cells #[.int .i64 0, .slice none 0 0] 24) = w0 := ⟨_, rfl⟩
  rw [hw0] at k0 k1 b0 ⊢
  clear hw0
  have hd := (Below.refl w0.heap.size w0).drew
  have z0 := fun x : SubT (Below w0.heap.size) w0.drew => (k0.below (hd.trans x.b)).look 0 rfl
  have z1 := fun x : SubT (Below w0.heap.size) w0.drew => (k0.below (hd.trans x.b)).look 1 rfl
  have hk1 : (k : Int) ≤ (cap : Int) := by omega
  have hk2 : (k : Int) + 1 ≤ (cap : Int) := by omega
  have hk3 : (k : Int) + 1 ≤ (L : Int) := by omega
  have hk0 : 0 ≤ (k : Int) + 1 := by omega
  have wK : IntKind.i64.wrap ((k : Int) + 1) = (k : Int) + 1 := by rw [IntWalk.i64_left]; unfold wrap64; omega
  refine wp_walkV (T := Below (w0.heap.size)) (belowV_pre _) (.rd 0 (.rd 1 (.rd 3 (.rd 4 (.rd 5 (.rd 6 (.rd 8 (.rd 9 (.rd 10 (.rd 11 (.rd 12 (.mv 2 (.mv 7 (.mv 13 (.rd 14 (.bt 15 .nil)))))))))))))))) (by kernel_rfl) rfl rfl (by kernel_rfl) (by kernel_rfl) ?_
  iterate 11 (refine walkV_rd rfl (fun K hK => ?_); go_simp; refine hK _ ?_; clear hK K)
  clear z0 z1
  obtain ⟨W1, hW1⟩ : ∃ W1, w0.drew = W1 := ⟨_, rfl⟩
  have hs1 : w0.heap.size = W1.heap.size := by rw [← hW1]; rfl
  rw [hW1] at hd ⊢
  clear hW1
  have HS1 := hid hs1
  (refine walkV_mv rfl (fun K hK => ?_); go_simp; refine hK _ _ ((Below.refl _ _).alloc (Nat.le_of_eq HS1.out) _) ?_; clear hK K)
  have ke := Blk.new W1 #[] 46
  have b2 := hd.alloc (Nat.le_of_eq HS1.out) (.cells #[] 46)
  obtain ⟨gE, hgE⟩ : ∃ g, W1.heap.size = g := ⟨_, rfl⟩
  obtain ⟨W2, hW2⟩ : ∃ W2, W1.alloc (.cells #[] 46) = W2 := ⟨_, rfl⟩
  rw [hW2] at ke b2 ⊢
  rw [hgE] at ke ⊢
  have hgB : w0.heap.size ≤ gE := by rw [← hgE]; exact Nat.le_of_eq HS1.out
  clear hW2 hgE
  have h2 := (HC.out.below b0).below b2
  obtain ⟨g3, c3, W3, hr3, o3, hg3, hat3, hl3⟩ := app_at (P := Try.prog) W2 w0.heap.size 22 22 46 (.agg #[.int .i64 0, .int .i64 0, .int .i64 0, .int .i64 0]) 4 32 Try.underlying22 infoRRule rfl (by decide) (owns_empty 4 ke hgB) ⟨b9, off9, none⟩ k cap (ruCells (p.rules.take k)) (by rw [ruCells_len, List.length_take, HL.out]; omega) (ru_src h2 (ruCells_take p.rules k)) (ruCells_one _) (by unfold maxLen; omega) (by omega) (by have := b2.size; omega)
  rw [Nat.zero_add] at hr3 o3
  rw [List.nil_append] at o3
  refine walkV_mv rfl (fun K hK => ⟨rfl, gives_append2 (.tmp 7) (.tmp 11) _ rfl rfl rfl rfl hr3 (hK _ _ ((Below.refl _ _).grown hg3 (by have := b2.size; omega) (fun j hj => by cases hj; exact hgB)) ?_)⟩)
  clear hr3 h2
  have b23 : Below w0.heap.size w0 W3 := b2.grown hg3 (by have := b2.size; omega) (fun j hj => by cases hj; exact hgB)
  have h3 := (HC.out.below b0).below b23
  obtain ⟨A, hA, hsrc⟩ : ∃ A : Addr, (if cap = k + 1 then (some ⟨b9, off9, none⟩ : Option Addr) else some ⟨b9, off9 + (k + 1) * 4, none⟩) = some A ∧ Hid (∀ (j : Nat) (u : Value), (ruCells (p.rules.drop (k + 1)))[j]? = some u → W3.cell? (A.add j) = some u) := by
    have hx := ru_src h3 (ruCells_drop p.rules (k := k + 1) (by rw [HL.out]; omega))
    by_cases h : cap = k + 1
    · refine ⟨⟨b9, off9, none⟩, by simp [h], fun j u hu => ?_⟩
      have h0 := (List.getElem?_eq_some_iff.1 hu).1
      rw [ruCells_len, List.length_drop, HL.out] at h0
      omega
    · exact ⟨⟨b9, off9 + (k + 1) * 4, none⟩, by simp [h], hx⟩
  obtain ⟨g4, c4, W4, hr4, o4, hg4, hat4, hl4⟩ := app_at (P := Try.prog) W3 w0.heap.size 22 22 46 (.agg #[.int .i64 0, .int .i64 0, .int .i64 0, .int .i64 0]) 4 32 Try.underlying22 infoRRule rfl (by decide) o3 A (L - (k + 1)) (cap - (k + 1)) (ruCells (p.rules.drop (k + 1))) (by rw [ruCells_len, List.length_drop, HL.out]) hsrc.out (ruCells_one _) (by unfold maxLen; omega) (by omega) (by have := b23.size; omega)
  rw [← hA] at hr4
  clear hsrc hA
  obtain ⟨-, -, hgB3, -⟩ := owns_block o3
  refine walkV_mv rfl (fun K hK => ⟨rfl, gives_append2 (.tmp 12) (.tmp 17) _ rfl rfl rfl rfl hr4 (hK _ _ ((Below.refl _ _).grown hg4 (by have := b23.size; omega) (fun j hj => by cases hj; exact hgB3)) ?_)⟩)
  clear hr4 h3
  have b4 : Below w0.heap.size w0 W4 := b23.grown hg4 (by have := b23.size; omega) (fun j hj => by cases hj; exact hgB3)
  have k14 := k1.below b4
  have r0 := k14.cell 0
  have r1 := k14.cell 1
  have q0 := k14.look 0 rfl
  have q1 := k14.look 1 rfl
  have rf := k14.frozen
  have fin : PatF w0.heap.size W4 (.agg #[.int .i64 p.n, .slice (some ⟨g4, 0, none⟩) (k + (L - (k + 1))) c4]) (lessP p k) := by
    have hlen : (p.rules.eraseIdx k).length = k + (L - (k + 1)) := by rw [List.length_eraseIdx_of_lt (by rw [HL.out]; exact hk), HL.out]; omega
    refine ⟨_, rfl, ?_⟩
    show SlR _ _ _ (p.rules.eraseIdx k).length (ruCells (p.rules.eraseIdx k))
    rw [hlen, List.eraseIdx_eq_take_drop_succ, ruCells_append]
    exact SlR.of_owns o4
  have finB := (b0.trans (b4.mono b0.size)).setCell (p := ⟨w.heap.size + 1, 0, none⟩) (by show w.heap.size ≤ w.heap.size + 1; omega) (.int .i64 p.n) |>.setCell (p := ⟨w.heap.size + 1, 1, none⟩) (by show w.heap.size ≤ w.heap.size + 1; omega) (.slice (some ⟨g4, 0, none⟩) (k + (L - (k + 1))) c4)
  iterate 1 (refine walkV_rd rfl (fun K hK => ?_); go_simp; refine hK _ ?_; clear hK K)
  (refine walkV_bt rfl (fun K hK => ?_); go_simp; refine hK _ _ ?_; clear hK K)
  refine walkV_nil ?_
  have hk11 : w.heap.size + 1 < w0.heap.size := k1.lt
  have fin2 := ((fin.setCell (q := ⟨w.heap.size + 1, 0, none⟩) hk11 (.int .i64 p.n)).setCell (q := ⟨w.heap.size + 1, 1, none⟩) hk11 (.slice (some ⟨g4, 0, none⟩) (k + (L - (k + 1))) c4)).mono b0.size
  clear fin
  go_wp2
  all_goals
    refine bodyPost_ret (v := .agg #[.int .i64 p.n, .slice (some ⟨g4, 0, none⟩) (k + (L - (k + 1))) c4]) ?_ rfl ⟨_, rfl, fin2, finB⟩
    simp [results, Try.results102, go_sem, r0, r1]

end Go.Proofs.Ytmknengmjepdaaa
