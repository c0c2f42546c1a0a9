/- Walk of slices.Delete at whole numbers, one of them. -/
import Derived.Test.YtmknengmjepdaaaWc
namespace Go.Proofs.Ytmknengmjepdaaa
open Go.RowKit
attribute [local irreducible] seqS seqST walkV walkJ

theorem owns_of_row {w : World} {B g n cap size : Nat} {e : TypeId} {xs : List Value} {cur : Array Value} (hB : B ≤ g) (hb : Blk w g cur e) (hz : cur.size = cap * size) (hn : n ≤ cap) (hm : cap ≤ maxLen) (hl : xs.length = n * size) (hr : RowF w g 0 xs) : w.ownsRow B e size (.slice (some ⟨g, 0, none⟩) n cap) n xs := by
  refine ⟨hl, .inr ⟨g, cap, cur, rfl, hB, hb, hn, hm, hz, ?_⟩⟩
  have hle : n * size ≤ cur.size := by rw [hz]; exact Nat.mul_le_mul_right _ hn
  apply List.ext_getElem?
  intro j
  by_cases hj : j < n * size
  · obtain ⟨u, hu⟩ : ∃ u, xs[j]? = some u := ⟨_, List.getElem?_eq_getElem (by omega)⟩
    have h1 := (hr j u hu).1
    rw [Nat.zero_add, hb.cell] at h1
    rw [List.getElem?_take_of_lt hj, hu, ← h1, Array.getElem?_toList]
  · rw [List.getElem?_eq_none (by rw [List.length_take]; omega), List.getElem?_eq_none (by omega)]
theorem setCells_blk (g : Nat) {e : TypeId} : ∀ (vs : List Value) (o : Nat) {w : World} {cur : Array Value}, Blk w g cur e → ∃ cur', Blk (w.setCells g o vs) g cur' e ∧ cur'.size = cur.size
  | [], _, _, cur, h => ⟨cur, h, rfl⟩
  | v :: vs, o, _, cur, h => by
    obtain ⟨c, h1, h2⟩ := setCells_blk g vs (o + 1) (h.set o v)
    exact ⟨c, h1, by rw [h2]; simp⟩
theorem setCells_grown (g : Nat) : ∀ (vs : List Value) (o : Nat) (w : World), w.grownBy (w.setCells g o vs) (some g)
  | [], _, _ => ⟨rfl, rfl, rfl, Nat.le_refl _, fun _ _ _ => rfl⟩
  | v :: vs, o, w => World.grownBy.trans (b := w.setCell ⟨g, o, none⟩ v) ⟨rfl, rfl, rfl, by simp, fun k _ hne => Below.heap_setCell w ⟨g, o, none⟩ v k (fun e => hne (by rw [e]))⟩ (setCells_grown g vs (o + 1) _)
theorem drew_grown (w : World) (r : Option Nat) : w.grownBy w.drew r := ⟨rfl, rfl, rfl, Nat.le_refl _, fun _ _ _ => rfl⟩
theorem intCells_take (l : List Int) (k : Nat) : intCells l = intCells (l.take k) ++ intCells (l.drop k) := by rw [← intCells_append, List.take_append_drop]
theorem intCells_one (l : List Int) : ∀ u ∈ intCells l, u.oneCell' = true := by
  intro u hu
  unfold intCells at hu
  obtain ⟨z, -, rfl⟩ := List.mem_map.1 hu
  rfl
theorem intCells_del (l : List Int) {k : Nat} (hk : k < l.length) : ∃ b c : List Value, intCells l = intCells (l.take k) ++ b ++ c ∧ b.length = (intCells (l.drop (k + 1))).length ∧ c.length = 1 := by
  have h4 : (intCells (l.drop k)).length = l.length - k := by rw [intCells_len, List.length_drop]
  have h3 : (intCells (l.drop (k + 1))).length = l.length - (k + 1) := by rw [intCells_len, List.length_drop]
  refine ⟨(intCells (l.drop k)).take (l.length - (k + 1)), (intCells (l.drop k)).drop (l.length - (k + 1)), ?_, ?_, ?_⟩
  · rw [List.append_assoc, List.take_append_drop]; exact intCells_take l k
  · rw [List.length_take, h3, h4]; omega
  · rw [List.length_drop, h4]; omega
theorem intCells_drop (l : List Int) {k : Nat} (hk : k ≤ l.length) : ∀ (j : Nat) (u : Value), (intCells (l.drop k))[j]? = some u → (intCells l)[k + j]? = some u := by
  intro j u hu
  have hl : (intCells (l.take k)).length = k := by rw [intCells_len, List.length_take, Nat.min_eq_left hk]
  rw [intCells_take l k, List.getElem?_append_right (by omega), hl, Nat.add_sub_cancel_left]
  exact hu

set_option maxHeartbeats 4000000 in
set_option maxRecDepth 100000 in
theorem deleteInt_any (l : List Int) (k L g cap B : Nat) (w : World) (hl : l.length = L) (hk : k < L) (h2 : L ≤ 64) (hown : w.ownsRow B 3 1 (.slice (some ⟨g, 0, none⟩) L cap) L (intCells l)) :
    Calls Try.prog 104 #[.slice (some ⟨g, 0, none⟩) L cap, .int .i64 (k : Int), .int .i64 ((k : Int) + 1)] w fun e w' => e = .returned (.slice (some ⟨g, 0, none⟩) (L - 1) cap) ∧ w'.ownsRow B 3 1 (.slice (some ⟨g, 0, none⟩) (L - 1) cap) (L - 1) (intCells (l.eraseIdx k)) ∧ w.grownBy w' (some g) := by
  have hR := RowF.of_owns hown
  obtain ⟨cur, hh, hgB, hgs, hxl, hcap, hmax, hcs⟩ : ∃ cur, Blk w g cur 3 ∧ B ≤ g ∧ g < w.heap.size ∧ (intCells l).length = L * 1 ∧ L ≤ cap ∧ cap ≤ maxLen ∧ cur.size = cap * 1 := by
    obtain ⟨a1, ⟨h, -⟩ | ⟨g', cap', cur', hv, a2, a3, b1, b2, b3, -⟩⟩ := hown
    · cases h
    · cases hv; exact ⟨cur', a3, a2, (Array.getElem?_eq_some_iff.1 a3).1, a1, b1, b2, b3⟩
  have HCS := hid hcs
  clear hcs
  unfold maxLen at hmax
  obtain ⟨b, c, hsp, hbl, hcl⟩ := intCells_del l (k := k) (by omega)
  have hnl : (intCells (l.drop (k + 1))).length = L - (k + 1) := by rw [intCells_len, List.length_drop, hl]
  have htk : (intCells (l.take k)).length = k := by rw [intCells_len, List.length_take, hl, Nat.min_eq_left (by omega)]
  obtain ⟨i, hi0, hz, hsize, hby⟩ := info_parts infoInt
  have HI := hid (And.intro hi0 hsize)
  have HL := hid hl
  have hki : (k : Int) + 1 ≤ (L : Int) := by omega
  have hki2 : (k : Int) ≤ (L : Int) := by omega
  have hki3 : (k : Int) ≤ (cap : Int) := by omega
  have hki4 : (k : Int) + 1 ≤ (cap : Int) := by omega
  have hki5 : (L : Int) ≤ (cap : Int) := by omega
  have hki6 : 0 ≤ (k : Int) + 1 := by omega
  have hki7 : (k : Int) ≤ (k : Int) + 1 := by omega
  have hki8 : ¬ (k : Int) = (k : Int) + 1 := by omega
  clear hi0 hz hsize hby hl hown
  have HR := hid hR
  have HS := hid hsp
  have HB := hid hbl
  have HC := hid hcl
  have HN := hid hnl
  have HT := hid htk
  have HH := hid hh
  clear hR hsp hbl hcl hnl htk hxl hh
  go_enter Try.func104, Try.ntmps104
  go_wp2_with fail
  refine wp_walkV (T := Below (B)) (belowV_pre _) (.rd 0 (.rd 1 (.rd 2 (.rd 3 (.rd 4 (.rd 5 (.bt 6 (.rd 7 .nil)))))))) (by kernel_rfl) rfl rfl (by kernel_rfl) (by kernel_rfl) ?_
  iterate 6 (refine walkV_rd rfl (fun K hK => ?_); go_simp; refine hK _ ?_; clear hK K)
  obtain ⟨W0, hW0⟩ : ∃ W0, w.drew = W0 := ⟨_, rfl⟩
  have hd : Below B w W0 := by rw [← hW0]; exact (Below.refl _ _).drew
  have G0 : w.grownBy W0 (some g) := by rw [← hW0]; exact drew_grown w _
  have K0 : Blk W0 g cur 3 := by rw [← hW0]; exact HH.out
  have R0 : RowF W0 g 0 (intCells (l.take k) ++ b ++ c) := by rw [← hW0, ← HS.out]; exact HR.out
  have hg0 : g < W0.heap.size := by rw [← hW0]; exact hgs
  rw [hW0]
  clear hW0
  obtain ⟨A, hA, hsrc⟩ : ∃ A : Addr, (if cap = k + 1 then (some ⟨g, 0, none⟩ : Option Addr) else some ⟨g, k + 1, none⟩) = some A ∧ Hid (∀ (j : Nat) (u : Value), (intCells (l.drop (k + 1)))[j]? = some u → W0.cell? (A.add j) = some u) := by
    by_cases h : cap = k + 1
    · refine ⟨⟨g, 0, none⟩, by simp [h], fun j u hu => ?_⟩
      have h0 := (List.getElem?_eq_some_iff.1 hu).1
      rw [HN.out] at h0
      omega
    · refine ⟨⟨g, k + 1, none⟩, by simp [h], fun j u hu => ?_⟩
      rw [Addr.add_lit]
      have := intCells_drop l (k := k + 1) (by rw [HL.out]; omega) j u hu
      rw [HS.out] at this
      have := (R0 _ u this).1
      rwa [Nat.zero_add] at this
  have hr := run_append_room_cells (P := Try.prog) W0 49 49 3 i Try.underlying49 HI.out.1 g 0 k cap A (L - (k + 1)) (cap - (k + 1)) (intCells (l.drop (k + 1))) (by rw [HN.out, HI.out.2, Nat.mul_one]) hsrc.out (intCells_one _) (by omega)
    (fun j hj => by
      obtain ⟨u, hu⟩ : ∃ u, (intCells (l.take k) ++ b ++ c)[k + j]? = some u := ⟨_, List.getElem?_eq_getElem (by rw [List.length_append, List.length_append, HT.out, HB.out]; omega)⟩
      have := (R0 _ u hu).1
      rw [HI.out.2, Nat.mul_one, Nat.add_assoc, this]; rfl)
    (fun j hj => by
      obtain ⟨u, hu⟩ : ∃ u, (intCells (l.take k) ++ b ++ c)[k + j]? = some u := ⟨_, List.getElem?_eq_getElem (by rw [List.length_append, List.length_append, HT.out, HB.out]; omega)⟩
      have := (R0 _ u hu).2
      rw [HI.out.2, Nat.mul_one, Nat.add_assoc]; exact this)
  rw [← hA, HI.out.2, Nat.mul_one, show k + (L - (k + 1)) = L - 1 by omega] at hr
  clear hsrc hA
  have R1 := R0.over (vs := intCells (l.drop (k + 1))) HB.out.symm
  rw [HT.out] at R1
  have b1 := setCells_below hgB (intCells (l.drop (k + 1))) (0 + k) hd
  obtain ⟨cur1, K1, hz1⟩ := setCells_blk g (intCells (l.drop (k + 1))) (0 + k) K0
  have G1 := G0.trans (setCells_grown g (intCells (l.drop (k + 1))) (0 + k) W0)
  obtain ⟨W1, hW1⟩ : ∃ W1, W0.setCells g (0 + k) (intCells (l.drop (k + 1))) = W1 := ⟨_, rfl⟩
  rw [hW1] at R1 b1 hr K1 G1
  refine walkV_bt rfl (fun K hK => ⟨rfl, gives_append2 (.tmp 22) (.tmp 25) _ rfl rfl rfl rfl hr (hK _ _ ?_)⟩)
  clear hr hW1 R0
  iterate 1 (refine walkV_rd rfl (fun K hK => ?_); go_simp; refine hK _ ?_; clear hK K)
  refine walkV_nil ?_
  have hdel : intCells (l.take k) ++ intCells (l.drop (k + 1)) = intCells (l.eraseIdx k) := by rw [List.eraseIdx_eq_take_drop_succ, intCells_append]
  rw [hdel] at R1
  have hdl : (intCells (l.eraseIdx k)).length = L - 1 := by rw [intCells_len, List.length_eraseIdx_of_lt (by rw [HL.out]; exact hk), HL.out]
  have Rc : RowF W1 g (L - 1) c := fun j u hu => by
    have := R1 (L - 1 + j) u (by rw [← hdl, List.getElem?_append_right (Nat.le_add_right _ _), Nat.add_sub_cancel_left]; exact hu)
    rwa [Nat.zero_add] at this
  have R2 := RowF.over (w := W1) (g := g) (o := 0) (a := intCells (l.eraseIdx k)) (b := c) (c := []) (vs := [.int .i64 0]) (by simpa using R1) (by rw [HC.out]; rfl)
  have hcl : ∀ (ty : TypeId) (c' : Nat), (Builtin.clear_ #[49] ty #[.slice (some ⟨g, L - 1, none⟩) (L - (L - 1)) c']).run Try.prog W1 = .ok (.tuple #[]) (W1.setCells g (L - 1) [.int .i64 0]) := fun ty c' => by
    rw [show L - (L - 1) = 1 by omega]
    exact Lib.run_clear_slice W1 49 3 ty (.int .i64 0) Try.underlying49 (zero_of_info (P := Try.prog) (t := 3) (v := .int .i64 0) (n := 1) (by kernel_rfl)).1 rfl rfl g (L - 1) 1 c' (by decide)
      (fun j hj => by
        obtain ⟨u, hu⟩ : ∃ u, c[j]? = some u := ⟨_, List.getElem?_eq_getElem (by rw [HC.out]; exact hj)⟩
        rw [(Rc j u hu).1]; rfl)
      (fun j hj => by
        obtain ⟨u, hu⟩ : ∃ u, c[j]? = some u := ⟨_, List.getElem?_eq_getElem (by rw [HC.out]; exact hj)⟩
        exact (Rc j u hu).2)
  obtain ⟨cur2, K2, hz2⟩ := setCells_blk g [.int .i64 0] (L - 1) K1
  have G2 := G1.trans (setCells_grown g [.int .i64 0] (L - 1) W1)
  have hfin := owns_of_row (size := 1) hgB K2 (cap := cap) (n := L - 1) (xs := intCells (l.eraseIdx k)) (by rw [hz2, hz1, HCS.out]) (by omega) (by unfold maxLen; omega) (by rw [hdl, Nat.mul_one]) (fun j u hu => by
    have hlt := (List.getElem?_eq_some_iff.1 hu).1
    have := R2 j u (by rw [List.append_assoc, List.getElem?_append_left hlt]; exact hu)
    rwa [hdl, Nat.zero_add (L - 1)] at this)
  have F := hid hfin
  clear hfin R2 R1 Rc hz1 hz2 K1 K2 K0 G0 G1
  go_wp2_with fail
  · go_ret
    subst_vars
    exact ⟨rfl, F.out, G2⟩
  · go_ret
    exact ⟨rfl, F.out, G2⟩


end Go.Proofs.Ytmknengmjepdaaa
