/- Rows of counts; slices.Clone of transfers. -/
import Derived.Test.YtcpefolhohakmaaV2
namespace Go.Proofs.Ytcpefolhohakmaa
open Go.RowKit
attribute [local irreducible] seqS seqST walkV walkJ

/-- A place's row. -/
def rowL (c : List Int) (p : Nat) : List Int := (List.range 16).map fun i => c.getD (p * 16 + i) 0
theorem rowL_len (c : List Int) (p : Nat) : (rowL c p).length = 16 := by simp [rowL]
theorem rowL_get (c : List Int) (p : Nat) {i : Nat} (hi : i < 16) : (rowL c p).getD i 0 = c.getD (p * 16 + i) 0 := by
  unfold rowL
  rw [List.getD_eq_getElem?_getD, List.getElem?_map, List.getElem?_range hi]; rfl
theorem CA_row (c : List Int) {p : Nat} (hp : p < 16) : (CA c).extract (p * 16) (p * 16 + 16) = (ints (rowL c p)).toArray := by
  apply Array.ext_getElem?
  intro i
  rw [Array.getElem?_extract, CA_size]
  by_cases hi : i < 16
  · rw [if_pos (by omega), CA_get c (by omega), List.getElem?_toArray]
    unfold ints
    rw [List.getElem?_map, List.getElem?_eq_getElem (by rw [rowL_len]; exact hi)]
    have := rowL_get c p hi
    rw [List.getD_eq_getElem?_getD, List.getElem?_eq_getElem (by rw [rowL_len]; exact hi)] at this
    rw [← this]; rfl
  · rw [if_neg (by omega), List.getElem?_toArray, List.getElem?_eq_none (by rw [ints_len, rowL_len]; omega)]
theorem run_index_row {P : Program} (w : World) (t e : TypeId) (n m : Nat) (cs : Array Value) (k : IntKind) (i : Nat) (hi : i < n) (hu : P.underlying t = some (.array n e)) (d : TypeDesc) (hue : P.underlying e = some d) (hd : d.isRow = true) (hsz : (P.info? e).map (·.size) = some m) :
    (Instr.index t (.agg cs) (.int k (i : Int))).run P w = .ok (.agg (cs.extract (i * m) (i * m + m))) w := by
  have hn : 0 ≤ (i : Int) ∧ (i : Int) < (n : Int) := by omega
  have hagg : ∀ w, (isAgg e).run P w = .ok true w := fun w => by
    unfold isAgg
    rw [Sem.run_bind, run_underlying hue w]
    cases d <;> simp_all
  have hs : ∀ w, (sizeOf e).run P w = .ok m w := fun w => by
    cases hq : P.info? e with
    | none => simp [hq] at hsz
    | some x =>
      have : x.size = m := by simpa [hq] using hsz
      simp [sizeOf, typeInfo, hq, this]
  simp [Instr.index, run_underlying hu, asIntOf, hn, go_sem, part, hagg, hs]
  exact fun h => absurd h (by omega)
theorem infoRow : (Try.prog.info? 96).map (fun i => (i.zero, i.size)) = some (some (.agg (ints (rowL [] 0)).toArray), 16) := by kernel_rfl
theorem row_size16 (c : List Int) (p : Nat) : (ints (rowL c p)).toArray.size = 16 := by rw [List.size_toArray, ints_len, rowL_len]
theorem row_info (c : List Int) (p : Nat) : (Try.prog.info? 96).map (·.size) = some (ints (rowL c p)).toArray.size := by
  rw [row_size16]; exact (zero_of_info infoRow).2
theorem ints_one (l : List Int) : (ints l).toArray.all (·.oneCell') = true := by
  rw [Array.all_eq_true_iff_forall_mem]
  intro v hv
  unfold ints at hv
  rw [List.mem_toArray, List.mem_map] at hv
  obtain ⟨i, _, rfl⟩ := hv
  rfl
theorem cnt_index (c : List Int) {p : Nat} (hp : p < 16) (w : World) : (Instr.index 98 (.agg (CA c)) (.int .i64 (p : Int))).run Try.prog w = .ok (.agg (ints (rowL c p)).toArray) w := by
  rw [run_index_row w 98 96 16 16 (CA c) .i64 p hp Try.underlying98 _ Try.underlying96 rfl (zero_of_info infoRow).2, CA_row c hp]

theorem trsC_one (l : List Tr) : ∀ u ∈ trsC l, u.oneCell' = true := by
  intro u hu
  unfold trsC at hu
  obtain ⟨t, _, hu⟩ := List.mem_flatMap.1 hu
  unfold trC at hu
  simp at hu
  rcases hu with rfl | rfl | rfl | rfl <;> rfl
theorem infoTr : (Try.prog.info? 103).map (fun i => (i.zero, i.size, i.bytes)) = some (some (.agg #[.int .i64 0, .int .i64 0, .int .i64 0, .int .i64 0]), 4, 32) := by kernel_rfl
theorem appT (w : World) (B : Nat) {g n cap : Nat} {xs : List Value} (hown : w.ownsRow B 103 4 (.slice (some ⟨g, 0, none⟩) n cap) n xs) {ad : Addr} {m cp : Nat} {l : List Tr} (hv : TsR 0 w (.slice (some ad) m cp) l) (hsmall : n + l.length ≤ 100000) (hB : B ≤ w.heap.size) (ty : TypeId) :
    ∃ g' cap' w', (Builtin.append_ #[62, 62] ty #[.slice (some ⟨g, 0, none⟩) n cap, .slice (some ad) m cp]).run Try.prog w = .ok (.slice (some ⟨g', 0, none⟩) (n + l.length) cap') w' ∧
      w'.ownsRow B 103 4 (.slice (some ⟨g', 0, none⟩) (n + l.length) cap') (n + l.length) (xs ++ trsC l) ∧ w.grownBy w' (some g) ∧ (g' = g ∨ w.heap.size ≤ g') := by
  obtain ⟨ao, cp', e, -, -, hc⟩ := hv
  cases e
  have hcell : ∀ j u, (trsC l)[j]? = some u → w.cell? (ad.add j) = some u := by
    intro j u hj
    have hjl := (List.getElem?_eq_some_iff.1 hj).1
    obtain ⟨g2, off, h0, _, _, h3⟩ := hc (by intro e; rw [e] at hjl; simp at hjl)
    cases h0
    have := h3 j hjl
    rw [List.getD_eq_getElem?_getD, hj] at this
    simpa [Addr.add_lit] using this
  obtain ⟨g', cap', w', hr, ho, hg, h4, -⟩ := app_at (P := Try.prog) w B 62 ty 103 (.agg #[.int .i64 0, .int .i64 0, .int .i64 0, .int .i64 0]) 4 32 Try.underlying62 infoTr rfl (by decide) hown ad l.length cp (trsC l) (by rw [trsC_len]) hcell (trsC_one l) (by unfold maxLen; omega) (by omega) hB
  exact ⟨g', cap', w', hr, ho, hg, h4.imp id (fun e => by omega)⟩
theorem wpList_appT {w : World} {ops : Array Oper} {rest : List Oper} {o : Oper} {a : Act} {Q : Exit → Act → World → Prop} (hgd : o.guard = none) (s x : Operand) (ho : o.op = .call { callee := .builtin .append, args := #[s, x], argTypes := #[62, 62] })
    (B : Nat) {g n cap : Nat} {xs : List Value} (hs : a.eval s = .slice (some ⟨g, 0, none⟩) n cap) (hown : w.ownsRow B 103 4 (.slice (some ⟨g, 0, none⟩) n cap) n xs) {ad : Addr} {m cp : Nat} {l : List Tr} (hx : a.eval x = .slice (some ad) m cp) (hv : TsR 0 w (.slice (some ad) m cp) l) (hsmall : n + l.length ≤ 100000) (hB : B ≤ w.heap.size)
    (hk : ∀ g' cap' w', w'.ownsRow B 103 4 (.slice (some ⟨g', 0, none⟩) (n + l.length) cap') (n + l.length) (xs ++ trsC l) → w.grownBy w' (some g) → (g' = g ∨ w.heap.size ≤ g') → wpList Try.prog ops Q rest (a.put o.dst (.slice (some ⟨g', 0, none⟩) (n + l.length) cap')) w') : wpList Try.prog ops Q (o :: rest) a w := by
  refine wpList_plain hgd fun K hK => ?_
  obtain ⟨g', cap', w', hr, h1, h2, h3⟩ := appT w B hown hv hsmall hB o.type
  unfold Oper.wp execOp
  simp only [ho, resolve, invoke, builtin, Sem.run_bind, Sem.run_pure, Result.andThen_ok, List.map_toArray, List.map_cons, List.map_nil, hs, hx, hr]
  exact hK _ _ (hk g' cap' w' h1 h2 h3)
@[local go_sem] theorem eql_nilT (a : Option Addr) (n c : Nat) (w : World) : (binOp .eql 62 (.slice a n c) (.slice none 0 0)).run Try.prog w = .ok (.bool a.isNone) w := Lib.run_eql_slice_nil w 62 103 a n c 0 0 Try.underlying62

set_option maxHeartbeats 2000000 in
set_option maxRecDepth 100000 in
theorem CloneT_any (l : List Tr) (v : Value) (w : World) (h : TsR 0 w v l) (h1 : 0 < l.length) (hb : l.length ≤ 10000) :
    Calls Try.prog 52 #[v] w fun r w' => (∃ v', r = .returned v' ∧ w'.ownsRow w.heap.size 103 4 v' l.length (trsC l)) ∧ Below w.heap.size w w' := by
  have HV := hid h
  obtain ⟨ao, cap, rfl, hcap, hmax, hc⟩ := h
  unfold maxLen at hmax
  obtain ⟨g0, off, rfl, -, -, -⟩ := hc (fun e => by have := trsC_len l; rw [e] at this; simp at this; omega)
  obtain ⟨n, hn⟩ : ∃ n, l.length = n := ⟨_, rfl⟩
  have HN := hid hn
  rw [hn] at HV hb hcap h1 ⊢
  have kE := Blk.new w #[] 103
  have bE := alloc_below w (.cells #[] 103)
  have HO0 := hid (owns_empty (base := w.heap.size) 4 kE (Nat.le_refl _))
  have HVE : Hid (TsR 0 (w.alloc (.cells #[] 103)) (.slice (some ⟨g0, off, none⟩) n cap) l) := hid (by have h9 := HV.out; rw [← HN.out] at h9 ⊢; exact h9.below bE)
  have hsE : w.heap.size ≤ (w.alloc (.cells #[] 103)).heap.size := by simp
  have HBE := hid bE
  clear hc hn kE bE HV
  go_enter Try.func52, Try.ntmps52
  go_wp2_with (at_builtin; refine wpList_appT rfl (.tmp 5) (.tmp 6) rfl w.heap.size rfl HO0.out rfl HVE.out (by rw [HN.out]; omega) hsE ?_; intro g5 c5 w5 ho5 hg5 _)
  rw [Nat.zero_add] at ho5
  have hbb := HBE.out.grown hg5 hsE (fun k hk => by cases hk; exact Nat.le_refl _)
  go_ret
  refine ⟨⟨_, rfl, ?_⟩, hbb⟩
  rw [← HN.out]
  exact ho5

end Go.Proofs.Ytcpefolhohakmaa
