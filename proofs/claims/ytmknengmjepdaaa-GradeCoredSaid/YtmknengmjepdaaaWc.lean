/- Walks of slices.Clone and slices.Delete at rules, and of grade's 'without'. -/
import Derived.Test.YtmknengmjepdaaaWb
import Derived.Test.YtmknengmjepdaaaRj
import Derived.Lib.SliceRun
import Derived.Deep.WholeRow
namespace Go.Proofs.Ytmknengmjepdaaa
open Go.RowKit
@[local go_sem] theorem eql_nil31 (a : Option Addr) (n c : Nat) (w : World) : (binOp .eql 31 (.slice a n c) (.slice none 0 0)).run Try.prog w = .ok (.bool a.isNone) w := Lib.run_eql_slice_nil w 31 92 a n c 0 0 Try.underlying31
attribute [local irreducible] seqS seqST walkV walkJ

set_option maxHeartbeats 4000000 in
set_option maxRecDepth 100000 in
theorem cloneRu_any (l : List Rul) (L : Nat) (v : Value) (w : World) (hl : l.length = L) (h : SlR 0 w v L (ruCells l)) (h1 : 1 ≤ L) (h2 : L ≤ 64) :
    Calls Try.prog 124 #[v] w fun e w' => ∃ g cap, e = .returned (.slice (some ⟨g, 0, none⟩) L cap) ∧ w'.ownsRow w.heap.size 92 4 (.slice (some ⟨g, 0, none⟩) L cap) L (ruCells l) ∧ Below w.heap.size w w' := by
  obtain ⟨ao, cap, rfl, hcap, hmax, hc⟩ := h
  unfold maxLen at hmax
  obtain ⟨b9, off9, rfl, -, hb9, -⟩ := hc (by intro h0; have := ruCells_len l; rw [h0, List.length_nil] at this; omega)
  have HL := hid hl
  have HC := hid hc
  obtain ⟨i, hi0, hz, hsize, hby⟩ := info_parts infoRule
  have HI := hid (And.intro hi0 (And.intro hz (And.intro hsize hby)))
  clear hl hc hi0 hz hsize hby
  go_enter Try.func124, Try.ntmps124
  go_wp2_with (at_builtin; refine wpList_append_own _ rfl _ _ 31 rfl w.heap.size 92 i (.agg #[.int .i64 0, .int .i64 0, .int .i64 0, .int .i64 0]) 4 32 Try.underlying31 HI.out.1 HI.out.2.1 HI.out.2.2.1 HI.out.2.2.2 rfl (by decide) _ _ _ rfl (World.ownsRow_made w #[] 0 (Nat.le_refl _) (Nat.zero_le _) (by simp)) ⟨b9, off9, none⟩ L cap (ruCells l) rfl ?qc1 ?qc2 ?qc3 ?qc4 ?qc5 ?qc6 ?_)
  case qc1 => rw [ruCells_len, HL.out]
  case qc2 =>
    have := ru_src (o := 0) ((HC.out).below ((Below.refl w.heap.size w).alloc (Nat.le_refl _) (.cells #[] 92))) (xs := ruCells l) (fun j u hu => by rw [Nat.zero_add]; exact hu)
    exact this
  case qc3 => exact ruCells_one l
  case qc4 => unfold maxLen; omega
  case qc5 => omega
  case qc6 => simp
  intro v' w1 hown hgrow hnil
  have hb := ((Below.refl w.heap.size w).alloc (Nat.le_refl _) (.cells #[] 92)).grown hgrow (by simp) (by intro k hk; simp [Value.ownBlock] at hk; omega)
  obtain ⟨m, rfl⟩ : ∃ m, L = m + 1 := ⟨L - 1, by omega⟩
  obtain ⟨g, c, rfl, hg1, hg2⟩ := owns_head hown
  go_wp2
  go_ret
  exact ⟨g, c, rfl, hown, hb⟩

/-- A row of cells in a block, none of them frozen. -/
def RowF (w : World) (g o : Nat) (cs : List Value) : Prop := ∀ j u, cs[j]? = some u → w.cell? ⟨g, o + j, none⟩ = some u ∧ w.frozen? ⟨g, o + j, none⟩ = false
theorem RowF.of_owns {w : World} {base : Nat} {e : TypeId} {size g n cap : Nat} {xs : List Value} (h : w.ownsRow base e size (.slice (some ⟨g, 0, none⟩) n cap) n xs) : RowF w g 0 xs := by
  intro j u hj
  refine ⟨by have := h.cells (g := g) rfl j u hj; rwa [Addr.add_lit] at this, ?_⟩
  obtain ⟨cur, hh, -, -⟩ := owns_block h
  unfold World.frozen?
  rw [show w.heap[(⟨g, 0 + j, none⟩ : Addr).block]? = _ from hh]
  simp
theorem setCells_below {B g : Nat} (hg : B ≤ g) : ∀ (vs : List Value) (o : Nat) {a w : World}, Below B a w → Below B a (w.setCells g o vs)
  | [], _, _, _, h => h
  | v :: vs, o, _, _, h => setCells_below hg vs (o + 1) (h.setCell (p := ⟨g, o, none⟩) hg v)
theorem setCells_size (g : Nat) : ∀ (vs : List Value) (o : Nat) (w : World), (w.setCells g o vs).heap.size = w.heap.size
  | [], _, _ => rfl
  | v :: vs, o, w => (setCells_size g vs (o + 1) _).trans (by simp [World.setCell])
/-- A row, some of it laid over. -/
theorem RowF.over {w : World} {g o : Nat} {a b c vs : List Value} (h : RowF w g o (a ++ b ++ c)) (hl : vs.length = b.length) : RowF (w.setCells g (o + a.length) vs) g o (a ++ vs ++ c) := by
  intro j u hj
  have hlt : j < (a ++ b ++ c).length := by
    have := (List.getElem?_eq_some_iff.1 hj).1
    simp only [List.length_append] at this ⊢
    omega
  obtain ⟨u0, hu0⟩ : ∃ u0, (a ++ b ++ c)[j]? = some u0 := ⟨_, List.getElem?_eq_getElem hlt⟩
  have h0 := h j u0 hu0
  refine ⟨?_, by rw [World.frozen?_setCells]; exact h0.2⟩
  by_cases h1 : j < a.length
  · rw [World.cell?_setCells_out g vs _ w _ (fun _ _ => .inl (by show o + j < o + a.length; omega)), h0.1, ← hu0, ← hj]
    rw [List.append_assoc, List.append_assoc, List.getElem?_append_left h1, List.getElem?_append_left h1]
  · by_cases h2 : j < a.length + vs.length
    · have hc := World.cell?_setCells_in g vs (o + a.length) w (fun k hk => ?_) (j - a.length) (by omega)
      · rw [show o + a.length + (j - a.length) = o + j by omega] at hc
        rw [hc, ← hj, List.append_assoc, List.getElem?_append_right (by omega), List.getElem?_append_left (by omega), List.getElem?_eq_getElem (by omega)]
      · obtain ⟨u1, hu1⟩ : ∃ u1, (a ++ b ++ c)[a.length + k]? = some u1 := ⟨_, List.getElem?_eq_getElem (by simp only [List.length_append]; omega)⟩
        rw [Nat.add_assoc, (h _ u1 hu1).1]
        rfl
    · rw [World.cell?_setCells_out g vs _ w _ (fun _ _ => .inr (by show o + a.length + vs.length ≤ o + j; omega)), h0.1, ← hu0, ← hj]
      rw [List.getElem?_append_right (by simp only [List.length_append]; omega), List.getElem?_append_right (by simp only [List.length_append]; omega), List.length_append, List.length_append, hl]
theorem ruCells_del (l : List Rul) {k : Nat} (hk : k < l.length) : ∃ b c : List Value, ruCells l = ruCells (l.take k) ++ b ++ c ∧ b.length = (ruCells (l.drop (k + 1))).length ∧ c.length = 4 := by
  have h1 : (ruCells l).length = l.length * 4 := ruCells_len l
  have h2 : (ruCells (l.take k)).length = k * 4 := by rw [ruCells_len, List.length_take, Nat.min_eq_left (by omega)]
  have h3 : (ruCells (l.drop (k + 1))).length = (l.length - (k + 1)) * 4 := by rw [ruCells_len, List.length_drop]
  have h4 : (ruCells (l.drop k)).length = (l.length - k) * 4 := by rw [ruCells_len, List.length_drop]
  refine ⟨(ruCells (l.drop k)).take ((l.length - (k + 1)) * 4), (ruCells (l.drop k)).drop ((l.length - (k + 1)) * 4), ?_, ?_, ?_⟩
  · rw [List.append_assoc, List.take_append_drop]; exact ruCells_split l k
  · rw [List.length_take, h3, h4]; omega
  · rw [List.length_drop, h4]; omega
def zeroRu : Value := .agg #[.int .i64 0, .int .i64 0, .int .i64 0, .int .i64 0]
theorem run_clear_one (w : World) (g o c : Nat) (ty : TypeId) (xs : List Value) (hx : xs.length = 4) (h : RowF w g o xs) :
    (Builtin.clear_ #[31] ty #[.slice (some ⟨g, o, none⟩) 1 c]).run Try.prog w = .ok (.tuple #[]) (w.setCells g o [.int .i64 0, .int .i64 0, .int .i64 0, .int .i64 0]) := by
  have hz := (zero_of_info (P := Try.prog) (t := 92) (v := zeroRu) (n := 4) (by kernel_rfl)).1
  have hget : ∀ j, j < 4 → ∃ u, xs[j]? = some u := fun j hj => ⟨_, List.getElem?_eq_getElem (by omega)⟩
  have hst := run_storeCells_cells (P := Try.prog) g o [.int .i64 0, .int .i64 0, .int .i64 0, .int .i64 0] 0 w
    (fun j hj => by obtain ⟨u, hu⟩ := hget j hj; have := (h j u hu).1; simp [this])
    (fun j hj => by obtain ⟨u, hu⟩ := hget j hj; simpa using (h j u hu).2) (by intro v hv; simp at hv; rcases hv with rfl | rfl | rfl | rfl <;> rfl)
  simp only [Nat.add_zero] at hst
  unfold zeroRu at hz
  have e4 : List.range 4 = [0, 1, 2, 3] := rfl
  simp [e4, Builtin.clear_, run_underlying Try.underlying31, hz, Value.cells, Builtin.zeroCells, hst]

set_option maxHeartbeats 4000000 in
set_option maxRecDepth 100000 in
theorem deleteRu_any (l : List Rul) (k L g cap B : Nat) (w : World) (hl : l.length = L) (hk : k < L) (h2 : L ≤ 64) (hown : w.ownsRow B 92 4 (.slice (some ⟨g, 0, none⟩) L cap) L (ruCells l)) :
    Calls Try.prog 123 #[.slice (some ⟨g, 0, none⟩) L cap, .int .i64 (k : Int), .int .i64 ((k : Int) + 1)] w fun e w' => e = .returned (.slice (some ⟨g, 0, none⟩) (L - 1) cap) ∧ SlR B w' (.slice (some ⟨g, 0, none⟩) (L - 1) cap) (L - 1) (ruCells (l.eraseIdx k)) ∧ Below B w w' := by
  obtain ⟨cur, hh, hgB, hgs⟩ := owns_block hown
  have hR := RowF.of_owns hown
  obtain ⟨hxl, hcap, hmax⟩ : (ruCells l).length = L * 4 ∧ L ≤ cap ∧ cap ≤ maxLen := by
    obtain ⟨a1, ⟨h, -⟩ | ⟨g', cap', cur', hv, -, -, b1, b2, -, -⟩⟩ := hown
    · cases h
    · cases hv; exact ⟨a1, b1, b2⟩
  unfold maxLen at hmax
  obtain ⟨b, c, hsp, hbl, hcl⟩ := ruCells_del l (k := k) (by omega)
  have hnl : (ruCells (l.drop (k + 1))).length = (L - (k + 1)) * 4 := by rw [ruCells_len, List.length_drop, hl]
  have htk : (ruCells (l.take k)).length = k * 4 := by rw [ruCells_len, List.length_take, hl, Nat.min_eq_left (by omega)]
  obtain ⟨i, hi0, hz, hsize, hby⟩ := info_parts infoRule
  have HI := hid (And.intro hi0 hsize)
  have HL := hid hl
  have hki : (k : Int) + 1 ≤ (L : Int) := by omega
  have hki2 : (k : Int) ≤ (L : Int) := by omega
  have hki3 : (k : Int) ≤ (cap : Int) := by omega
  have hki4 : (k : Int) + 1 ≤ (cap : Int) := by omega
  have hki5 : (L : Int) ≤ (cap : Int) := by omega
  have hki6 : 0 ≤ (k : Int) + 1 := by omega
  have hki7 : (k : Int) ≤ (k : Int) + 1 := by omega
  have hki8 : ¬ (k : Int) = (k : Int) + 1 := by omega
  clear hi0 hz hsize hby hl hown
  have HR := hid hR
  have HS := hid hsp
  have HB := hid hbl
  have HC := hid hcl
  have HN := hid hnl
  have HT := hid htk
  have HH := hid hh
  clear hR hsp hbl hcl hnl htk hxl hh
  go_enter Try.func123, Try.ntmps123
  go_wp2_with fail
  refine wp_walkV (T := Below (B)) (belowV_pre _) (.rd 0 (.rd 1 (.rd 2 (.rd 3 (.rd 4 (.rd 5 (.bt 6 (.rd 7 .nil)))))))) (by kernel_rfl) rfl rfl (by kernel_rfl) (by kernel_rfl) ?_
  iterate 6 (refine walkV_rd rfl (fun K hK => ?_); go_simp; refine hK _ ?_; clear hK K)
  obtain ⟨W0, hW0⟩ : ∃ W0, w.drew = W0 := ⟨_, rfl⟩
  have hd : Below B w W0 := by rw [← hW0]; exact (Below.refl _ _).drew
  have R0 : RowF W0 g 0 (ruCells (l.take k) ++ b ++ c) := by rw [← hW0, ← HS.out]; exact HR.out
  have hg0 : g < W0.heap.size := by rw [← hW0]; exact hgs
  rw [hW0]
  clear hW0
  obtain ⟨A, hA, hsrc⟩ : ∃ A : Addr, (if cap = k + 1 then (some ⟨g, 0, none⟩ : Option Addr) else some ⟨g, (k + 1) * 4, none⟩) = some A ∧ Hid (∀ (j : Nat) (u : Value), (ruCells (l.drop (k + 1)))[j]? = some u → W0.cell? (A.add j) = some u) := by
    by_cases h : cap = k + 1
    · refine ⟨⟨g, 0, none⟩, by simp [h], fun j u hu => ?_⟩
      have h0 := (List.getElem?_eq_some_iff.1 hu).1
      rw [HN.out] at h0
      omega
    · refine ⟨⟨g, (k + 1) * 4, none⟩, by simp [h], fun j u hu => ?_⟩
      rw [Addr.add_lit]
      have := ruCells_drop l (k := k + 1) (by rw [HL.out]; omega) j u hu
      rw [HS.out] at this
      have := (R0 _ u this).1
      rwa [Nat.zero_add] at this
  have hr := run_append_room_cells (P := Try.prog) W0 31 31 92 i Try.underlying31 HI.out.1 g 0 k cap A (L - (k + 1)) (cap - (k + 1)) (ruCells (l.drop (k + 1))) (by rw [HN.out, HI.out.2]) hsrc.out (ruCells_one _) (by omega)
    (fun j hj => by
      obtain ⟨u, hu⟩ : ∃ u, (ruCells (l.take k) ++ b ++ c)[k * 4 + j]? = some u := ⟨_, List.getElem?_eq_getElem (by rw [List.length_append, List.length_append, HT.out, HB.out]; omega)⟩
      have := (R0 _ u hu).1
      rw [HI.out.2, Nat.add_assoc, this]; rfl)
    (fun j hj => by
      obtain ⟨u, hu⟩ : ∃ u, (ruCells (l.take k) ++ b ++ c)[k * 4 + j]? = some u := ⟨_, List.getElem?_eq_getElem (by rw [List.length_append, List.length_append, HT.out, HB.out]; omega)⟩
      have := (R0 _ u hu).2
      rw [HI.out.2, Nat.add_assoc]; exact this)
  rw [← hA, HI.out.2, show k + (L - (k + 1)) = L - 1 by omega] at hr
  clear hsrc hA
  have R1 := R0.over (vs := ruCells (l.drop (k + 1))) HB.out.symm
  rw [HT.out] at R1
  have b1 := setCells_below hgB (ruCells (l.drop (k + 1))) (0 + k * 4) hd
  obtain ⟨W1, hW1⟩ : ∃ W1, W0.setCells g (0 + k * 4) (ruCells (l.drop (k + 1))) = W1 := ⟨_, rfl⟩
  rw [hW1] at R1 b1 hr
  refine walkV_bt rfl (fun K hK => ⟨rfl, gives_append2 (.tmp 22) (.tmp 25) _ rfl rfl rfl rfl hr (hK _ _ ?_)⟩)
  clear hr hW1 R0
  iterate 1 (refine walkV_rd rfl (fun K hK => ?_); go_simp; refine hK _ ?_; clear hK K)
  refine walkV_nil ?_
  have hdel : ruCells (l.take k) ++ ruCells (l.drop (k + 1)) = ruCells (l.eraseIdx k) := by rw [List.eraseIdx_eq_take_drop_succ, ruCells_append]
  rw [hdel] at R1
  have hdl : (ruCells (l.eraseIdx k)).length = (L - 1) * 4 := by rw [ruCells_len, List.length_eraseIdx_of_lt (by rw [HL.out]; exact hk), HL.out]
  have Rc : RowF W1 g ((L - 1) * 4) c := fun j u hu => by
    have := R1 ((L - 1) * 4 + j) u (by rw [← hdl, List.getElem?_append_right (Nat.le_add_right _ _), Nat.add_sub_cancel_left]; exact hu)
    rwa [Nat.zero_add] at this
  have R2 := RowF.over (w := W1) (g := g) (o := 0) (a := ruCells (l.eraseIdx k)) (b := c) (c := []) (vs := [.int .i64 0, .int .i64 0, .int .i64 0, .int .i64 0]) (by simpa using R1) (by rw [HC.out]; rfl)
  have hcl : ∀ (ty : TypeId) (c' : Nat), (Builtin.clear_ #[31] ty #[.slice (some ⟨g, (L - 1) * 4, none⟩) (L - (L - 1)) c']).run Try.prog W1 = .ok (.tuple #[]) (W1.setCells g ((L - 1) * 4) [.int .i64 0, .int .i64 0, .int .i64 0, .int .i64 0]) := fun ty c' => by
    rw [show L - (L - 1) = 1 by omega]
    exact run_clear_one W1 g ((L - 1) * 4) c' ty c HC.out Rc
  have b2 := setCells_below hgB [.int .i64 0, .int .i64 0, .int .i64 0, .int .i64 0] ((L - 1) * 4) b1
  have hfin : SlR B (W1.setCells g ((L - 1) * 4) [.int .i64 0, .int .i64 0, .int .i64 0, .int .i64 0]) (.slice (some ⟨g, 0, none⟩) (L - 1) cap) (L - 1) (ruCells (l.eraseIdx k)) := by
    refine ⟨_, _, rfl, by omega, by unfold maxLen; omega, fun _ => ⟨g, 0, rfl, hgB, ?_, fun j hj => ?_⟩⟩
    · rw [setCells_size]
      have := Rc 0 _ (List.getElem?_eq_getElem (show 0 < c.length by rw [HC.out]; decide))
      apply Decidable.byContradiction
      intro hge
      have h0 := this.1
      unfold World.cell? at h0
      rw [show W1.heap[(⟨g, (L - 1) * 4 + 0, none⟩ : Addr).block]? = none from Array.getElem?_eq_none (by show W1.heap.size ≤ g; omega)] at h0
      cases h0
    · have := (R2 j ((ruCells (l.eraseIdx k)).getD j undef) (by rw [List.append_assoc, List.getElem?_append_left hj]; exact getD_some hj)).1
      rw [Nat.zero_add, hdl] at this
      exact this
  have F := hid hfin
  clear hfin R2 R1 Rc
  go_wp2_with fail
  · go_ret
    subst_vars
    exact ⟨rfl, F.out, b2⟩
  · go_ret
    exact ⟨rfl, F.out, b2⟩

set_option maxHeartbeats 4000000 in
set_option maxRecDepth 100000 in
theorem without_any (p : Pat) (k : Nat) (v : Value) (w : World) (h : PatF 0 w v p) (hk : k < p.rules.length) (hlen : p.rules.length ≤ 64) :
    Calls Try.prog 103 #[v, .int .i64 (k : Int)] w fun e w' => ∃ v', e = .returned v' ∧ PatF w.heap.size w' v' (lessP p k) ∧ Below w.heap.size w w' := by
  obtain ⟨sv, rfl, hsl⟩ := h
  obtain ⟨L, hL⟩ : ∃ L, p.rules.length = L := ⟨_, rfl⟩
  rw [hL] at hk hlen hsl
  have HL := hid hL
  clear hL
  go_enter Try.func103, Try.ntmps103
  go_wp2_with fail
  obtain ⟨w0, hw0, k0, k1, b0, hsz⟩ := one_new w #[.int .i64 p.n, sv] #[.int .i64 0, .slice none 0 0] 33 33
  rw [hw0]
  clear hw0
  have hs0 := hsl.below b0
  have HS := hid hs0
  clear hs0 hsl
  have hd := (Below.refl w0.heap.size w0).drew
  have z0 := fun x : SubT (Below w0.heap.size) w0.drew => (k0.below (hd.trans x.b)).look 0 rfl
  have z1 := fun x : SubT (Below w0.heap.size) w0.drew => (k0.below (hd.trans x.b)).look 1 rfl
  have wK : IntKind.i64.wrap ((k : Int) + 1) = (k : Int) + 1 := by rw [IntWalk.i64_left]; unfold wrap64; omega
  refine wp_walkV (T := Below (w0.heap.size)) (belowV_pre _) (.rd 0 (.rd 1 (.rd 2 (.rd 3 (.rd 5 (.rd 6 (.rd 7 (.mv 4 (.mv 8 (.rd 9 (.bt 10 .nil))))))))))) (by kernel_rfl) rfl rfl (by kernel_rfl) (by kernel_rfl) ?_
  iterate 7 (refine walkV_rd rfl (fun K hK => ?_); go_simp; refine hK _ ?_; clear hK K)
  clear z0 z1
  obtain ⟨W1, hW1⟩ : ∃ W1, w0.drew = W1 := ⟨_, rfl⟩
  have hs1 : w0.heap.size = W1.heap.size := by rw [← hW1]; rfl
  rw [hW1] at hd ⊢
  clear hW1
  have HS1 := hid hs1
  clear hs1
  (refine walkV_mv rfl (fun K hK => ?_); go_simp; refine (cloneRu_any p.rules L sv W1 HL.out (HS.out.below hd) (by omega) hlen).mono ?_; rintro e W2 ⟨g, cap, rfl, o2, b2⟩; refine ⟨_, rfl, hK _ _ (below_eq b2 HS1.out.symm) ?_⟩; clear hK K)
  (refine walkV_mv rfl (fun K hK => ?_); go_simp; refine (deleteRu_any p.rules k L g cap W1.heap.size W2 HL.out hk hlen o2).mono ?_; rintro e W3 ⟨rfl, s3, b3⟩; refine ⟨_, rfl, hK _ _ (below_eq b3 HS1.out.symm) ?_⟩; clear hK K)
  have b4 : Below w0.heap.size w0 W3 := hd.trans ((below_eq b2 HS1.out.symm).trans (below_eq b3 HS1.out.symm))
  have k14 := k1.below b4
  have r0 := k14.cell 0
  have r1 := k14.cell 1
  have q0 := k14.look 0 rfl
  have q1 := k14.look 1 rfl
  have rf := k14.frozen
  have hk11 : w.heap.size + 1 < w0.heap.size := k1.lt
  have fin : PatF w0.heap.size W3 (.agg #[.int .i64 p.n, .slice (some ⟨g, 0, none⟩) (L - 1) cap]) (lessP p k) := by
    have hlen : (p.rules.eraseIdx k).length = L - 1 := by rw [List.length_eraseIdx_of_lt (by rw [HL.out]; exact hk), HL.out]
    refine ⟨_, rfl, ?_⟩
    show SlR _ _ _ (p.rules.eraseIdx k).length (ruCells (p.rules.eraseIdx k))
    rw [hlen, HS1.out]
    exact s3
  have fin2 := ((fin.setCell (q := ⟨w.heap.size + 1, 0, none⟩) hk11 (.int .i64 p.n)).setCell (q := ⟨w.heap.size + 1, 1, none⟩) hk11 (.slice (some ⟨g, 0, none⟩) (L - 1) cap)).mono b0.size
  have finB := (b0.trans (b4.mono b0.size)).setCell (p := ⟨w.heap.size + 1, 0, none⟩) (by show w.heap.size ≤ w.heap.size + 1; omega) (.int .i64 p.n) |>.setCell (p := ⟨w.heap.size + 1, 1, none⟩) (by show w.heap.size ≤ w.heap.size + 1; omega) (.slice (some ⟨g, 0, none⟩) (L - 1) cap)
  clear fin o2 s3
  iterate 1 (refine walkV_rd rfl (fun K hK => ?_); go_simp; refine hK _ ?_; clear hK K)
  (refine walkV_bt rfl (fun K hK => ?_); go_simp; refine hK _ _ ?_; clear hK K)
  refine walkV_nil ?_
  go_wp2
  refine bodyPost_ret (v := .agg #[.int .i64 p.n, .slice (some ⟨g, 0, none⟩) (L - 1) cap]) ?_ rfl ⟨_, rfl, fin2, finB⟩
  simp [results, Try.results103, go_sem, r0, r1]

end Go.Proofs.Ytmknengmjepdaaa
