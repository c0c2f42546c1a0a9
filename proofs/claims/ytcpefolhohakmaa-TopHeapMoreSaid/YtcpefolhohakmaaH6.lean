/- Walks of upTo, size, Clone, IndexFunc, DeleteFunc, without, Index, Contains. -/
import Derived.Test.YtcpefolhohakmaaH5
import Derived.Lib.SliceRun
namespace Go.Proofs.Ytcpefolhohakmaa
open Go.RowKit
attribute [local irreducible] seqS seqST walkV walkJ

/-- The first index below k at which p holds, or -1. -/
def frst (p : Nat → Bool) : Nat → Int
  | 0 => -1
  | k + 1 => if frst p k = -1 then (if p k then (k : Int) else -1) else frst p k
theorem frst_none (p : Nat → Bool) (k : Nat) : frst p k = -1 ↔ ∀ i, i < k → p i = false := by
  induction k with
  | zero => exact ⟨fun _ i hi => by omega, fun _ => rfl⟩
  | succ k ih =>
    unfold frst
    by_cases h : frst p k = -1
    · rw [if_pos h]
      have h2 := ih.1 h
      cases h3 : p k with
      | false =>
        rw [if_neg (by simp)]
        exact ⟨fun _ i hi => by
          by_cases e : i = k
          · subst e; exact h3
          · exact h2 i (by omega), fun _ => rfl⟩
      | true =>
        rw [if_pos rfl]
        exact ⟨fun h4 => absurd h4 (by omega), fun h4 => by have := h4 k (by omega); rw [h3] at this; cases this⟩
    · rw [if_neg h]
      exact ⟨fun h2 => absurd h2 h, fun h2 => absurd (ih.2 fun i hi => h2 i (by omega)) h⟩
theorem frst_stay (p : Nat → Bool) (k n : Nat) (h : frst p k ≠ -1) : frst p (k + n) = frst p k := by
  induction n with
  | zero => rfl
  | succ n ih =>
    have e : frst p (k + (n + 1)) = if frst p (k + n) = -1 then (if p (k + n) then ((k + n : Nat) : Int) else -1) else frst p (k + n) := rfl
    rw [e, ih, if_neg h]
theorem frst_cases (p : Nat → Bool) (k : Nat) : frst p k = -1 ∨ ∃ i : Nat, frst p k = i ∧ i < k ∧ p i = true ∧ ∀ j, j < i → p j = false := by
  induction k with
  | zero => exact .inl rfl
  | succ k ih =>
    unfold frst
    rcases ih with h | ⟨i, h1, h2, h3⟩
    · rw [if_pos h]
      cases h3 : p k with
      | false => rw [if_neg (by simp)]; exact .inl rfl
      | true => rw [if_pos rfl]; exact .inr ⟨k, rfl, by omega, h3, (frst_none p k).1 h⟩
    · rw [if_neg (by rw [h1]; omega)]
      exact .inr ⟨i, h1, by omega, h3⟩
theorem nat_cell {S : Nat → Prop} {w : World} {ao : Option Addr} {n cap : Nat} {l : List Nat} (h : SlS S w (.slice ao n cap) l.length (natI l)) {i : Nat} (hi : i < l.length) :
    ∃ b off, ao = some ⟨b, off, none⟩ ∧ S b ∧ b < w.heap.size ∧ w.cell? ⟨b, off + i, none⟩ = some (.int .i64 ((l.getD i 0 : Nat) : Int)) := by
  obtain ⟨ao', cap', h1, h2, h3, h4⟩ := h
  cases h1
  obtain ⟨b, off, g1, g2, g3, g4⟩ := h4 (by intro e; have := congrArg List.length e; rw [natI_len] at this; simp at this; rw [this] at hi; simp at hi)
  refine ⟨b, off, g1, g2, g3, ?_⟩
  rw [g4 i (by rw [natI_len]; exact hi)]
  simp [natI, List.getD_eq_getElem?_getD, List.getElem?_eq_getElem hi]

/-- 'append([]T{}, l...)' of elements of one cell. -/
theorem wpList_appC {P : Program} {w : World} {ops : Array Oper} {rest : List Oper} {o : Oper} {a : Act} {Q : Exit → Act → World → Prop} (hgd : o.guard = none) (s x : Operand) (t : TypeId)
    (ho : o.op = .call { callee := .builtin .append, args := #[s, x], argTypes := #[t, t] })
    (base : Nat) (e : TypeId) (z : Value) (bytes : Nat) (ht : P.underlying t = some (.slice e)) (hi : (P.info? e).map (fun i => (i.zero, i.size, i.bytes)) = some (some z, 1, bytes)) (hzs : z.cells.size = 1)
    {g : Nat} (hs : a.eval s = .slice (some ⟨g, 0, none⟩) 0 0) (hg : Blk w g #[] e) (hbg : base ≤ g) {v : Value} {lo n : Nat} {xs : List Value} (hx : a.eval x = v) (hv : SlR lo w v n xs) (hn : xs.length = n) (h1 : ∀ u ∈ xs, u.oneCell' = true)
    (h63 : n ≤ maxLen) (hbytes : n * bytes ≤ 140737488355328) (hbase : base ≤ w.heap.size)
    (h : ∀ g' cap' w', w'.ownsRow base e 1 (.slice (some ⟨g', 0, none⟩) n cap') n xs → w.grownBy w' (some g) → (g' = g ∨ g' = w.heap.size) → g' < w'.heap.size → wpList P ops Q rest (a.put o.dst (.slice (some ⟨g', 0, none⟩) n cap')) w') :
    wpList P ops Q (o :: rest) a w := by
  refine wpList_plain hgd fun K hK => ?_
  obtain ⟨g', cap', w', hr, h2, h3, h4, h5⟩ := app_copy (P := P) w base t o.type e z bytes ht hi hzs hg hbg hv hn h1 h63 hbytes hbase
  unfold Oper.wp execOp
  simp only [ho, resolve, invoke, builtin, Sem.run_bind, Sem.run_pure, Result.andThen_ok, List.map_toArray, List.map_cons, List.map_nil, hs, hx, hr]
  exact hK _ _ (h g' cap' w' h2 h3 h4 h5)

set_option maxHeartbeats 1000000 in
theorem upTo_any (n : Nat) (w : World) (hn : n ≤ 1000) :
    Calls Try.prog 88 #[.int .i64 (n : Int)] w fun r w' => (∃ g, r = .returned (.slice (some ⟨g, 0, none⟩) n n) ∧ w.heap.size ≤ g ∧ Blk w' g (arr n fun i => .int .i64 (i : Int)) 3) ∧ Below w.heap.size w w' := by
  go_enter Try.func88, Try.ntmps88
  go_wp2_with (at_make; refine wpList_mka rfl _ _ 37 rfl 3 (.int .i64 0) 8 Try.underlying37 infoInt rfl _ _ n rfl rfl (by omega) (by omega) ?_; intro w3 kw3 hb3 hz3; clear hz3)
  go_loopw [9] (fun z wr => ∃ k : Nat, z = .int .i64 k ∧ k ≤ n ∧ Hid (Blk wr w.heap.size (arr n fun i => .int .i64 (if i < k then (i : Int) else 0)) 3) ∧ Below w.heap.size w wr) (fun z _ => n - (intOf z).toNat)
  case atStart => exact ⟨0, rfl, Nat.zero_le _, hid (by simpa using kw3), hb3⟩
  case round =>
    obtain ⟨k, rfl, hk, HW, hbel⟩ := hrel
    by_cases hkn : k < n
    case pos =>
      have hk2 : (k : Int) < (n : Int) := by omega
      have x0 := HW.out.arr_look hkn
      have f0 := HW.out.frozen k
      have hlt := HW.out.lt
      have kW2 := HW.out.arr_set k (.int .i64 (k : Int))
      have e : arr n (fun j => if j = k then Value.int .i64 (k : Int) else .int .i64 (if j < k then (j : Int) else 0)) = arr n (fun i => .int .i64 (if i < k + 1 then (i : Int) else 0)) := arr_congr fun i hi => by
        by_cases h1 : i = k
        · subst h1; rw [if_pos rfl, if_pos (by omega)]
        · rw [if_neg h1]
          by_cases h2 : i < k
          · rw [if_pos h2, if_pos (by omega)]
          · rw [if_neg h2, if_neg (by omega)]
      rw [e] at kW2
      have HW2 := hid kW2
      have hbel2 := hbel.setCell (p := ⟨w.heap.size, k, none⟩) (Nat.le_refl _) (.int .i64 (k : Int))
      clear kW2 e HW hbel
      go_wp2
      go_roundw
      case rel => exact ⟨k + 1, by go_num, by omega, HW2, hbel2⟩
      case measure => simp [intOf]; omega
    case neg =>
      obtain rfl : n = k := by omega
      have hk2 : ¬ (n : Int) < (n : Int) := by omega
      have HF : Hid (Blk wr w.heap.size (arr n fun i => .int .i64 (i : Int)) 3) := hid (by
        rw [arr_congr (f' := fun i => .int .i64 (if i < n then (i : Int) else 0)) (fun i hi => by rw [if_pos hi])]
        exact HW.out)
      clear HW kw3 hb3
      go_wp2
      go_ret
      exact ⟨⟨_, rfl, Nat.le_refl _, HF.out⟩, hbel⟩

/-- A slice of n whole numbers by a function. -/
def FunR (w : World) (v : Value) (n : Nat) (f : Nat → Int) : Prop := SlR 0 w v n ((List.range n).map fun i => .int .i64 (f i))
theorem fun_cell {w : World} {ao : Option Addr} {n : Nat} {f : Nat → Int} (h : CellsOf 0 w ao ((List.range n).map fun i => .int .i64 (f i))) {i : Nat} (hi : i < n) :
    ∃ b off, ao = some ⟨b, off, none⟩ ∧ b < w.heap.size ∧ w.cell? ⟨b, off + i, none⟩ = some (.int .i64 (f i)) := by
  obtain ⟨b, off, h1, _, h2, h3⟩ := h (by intro e; have := congrArg List.length e; simp at this; omega)
  refine ⟨b, off, h1, h2, ?_⟩
  rw [h3 i (by simpa using hi)]
  simp [List.getD_eq_getElem?_getD, hi]
/-- How many are not below 0. -/
def cntI (f : Nat → Int) : Nat → Nat
  | 0 => 0
  | k + 1 => cntI f k + if 0 ≤ f k then 1 else 0
theorem cntI_le (f : Nat → Int) (k : Nat) : cntI f k ≤ k := by
  induction k with
  | zero => exact Nat.le_refl _
  | succ k ih => unfold cntI; split <;> omega
set_option maxHeartbeats 1000000 in
theorem size_any (n : Nat) (f : Nat → Int) (v : Value) (w : World) (h : FunR w v n f) :
    Calls Try.prog 28 #[v] w fun r w' => r = .returned (.int .i64 (cntI f n : Int)) ∧ w = w' := by
  obtain ⟨ao, cap, rfl, hcap, hmax, hc⟩ := h
  unfold maxLen at hmax
  have HC := hid hc
  clear hc
  go_enter Try.func28, Try.ntmps28
  go_wp2_with fail
  go_loop [3, 8] (fun y z => ∃ k : Nat, z = .int .i64 k ∧ k ≤ n ∧ y = .int .i64 (cntI f k : Int)) (fun _ z => n - (intOf z).toNat)
  case atStart => exact ⟨0, rfl, Nat.zero_le _, rfl⟩
  case round =>
    obtain ⟨k, rfl, hk, rfl⟩ := hrel
    by_cases hkn : k < n
    case pos =>
      have hk2 : (k : Int) < (n : Int) := by omega
      obtain ⟨b, off, rfl, hb, x0⟩ := fun_cell HC.out hkn
      have hs : cntI f (k + 1) = cntI f k + if 0 ≤ f k then 1 else 0 := rfl
      have hl := cntI_le f k
      obtain ⟨z, hz⟩ : ∃ z, f k = z := ⟨_, rfl⟩
      obtain ⟨c, hcc⟩ : ∃ z, cntI f k = z := ⟨_, rfl⟩
      rw [hz] at x0 hs
      rw [hcc] at hs hl ⊢
      have HS := hid hs
      clear hs hz hcc
      by_cases h0 : 0 ≤ z
      · have HS2 := hid (by rw [HS.out, if_pos h0] : cntI f (k + 1) = c + 1)
        go_wp2
        go_round
        case rel => exact ⟨k + 1, by go_num, by omega, by rw [HS2.out]; go_num⟩
        case measure => simp [intOf]; omega
      · have HS2 := hid (by rw [HS.out, if_neg h0]; rfl : cntI f (k + 1) = c)
        go_wp2
        go_round
        case rel => exact ⟨k + 1, by go_num, by omega, by rw [HS2.out]⟩
        case measure => simp [intOf]; omega
    case neg =>
      obtain rfl : n = k := by omega
      have hk2 : ¬ (n : Int) < (n : Int) := by omega
      go_wp2
      go_ret
      exact ⟨rfl, rfl⟩

theorem natI_one (l : List Nat) : ∀ u ∈ natI l, u.oneCell' = true := by
  intro u hu
  obtain ⟨j, _, rfl⟩ := List.mem_map.1 hu
  rfl
@[local go_sem] theorem eql_nilI (a : Option Addr) (n c : Nat) (w : World) : (binOp .eql 37 (.slice a n c) (.slice none 0 0)).run Try.prog w = .ok (.bool a.isNone) w := Lib.run_eql_slice_nil w 37 3 a n c 0 0 Try.underlying37
set_option maxHeartbeats 1000000 in
set_option maxRecDepth 100000 in
theorem Clone_any (l : List Nat) (v : Value) (w : World) (h : SlR 0 w v l.length (natI l)) (hn : l.length ≤ 1000) :
    Calls Try.prog 95 #[v] w fun r w' => (∃ v', r = .returned v' ∧ w'.ownsRow w.heap.size 3 1 v' l.length (natI l)) ∧ Below w.heap.size w w' := by
  have HV := hid h
  obtain ⟨ao, cap, rfl, hcap, hmax, -⟩ := h
  cases ao with
  | none =>
    have hl : l = [] := by
      apply Classical.byContradiction
      intro hne
      obtain ⟨ao', cap', h1, -, -, h4⟩ := HV.out
      cases h1
      obtain ⟨b, off, e, _⟩ := h4 (by intro e; exact hne (by simpa [natI] using e))
      cases e
    subst hl
    go_enter Try.func95, Try.ntmps95
    go_wp2
    go_ret
    exact ⟨⟨_, rfl, World.ownsRow_nil _ _ _ _⟩, Below.refl _ _⟩
  | some ad =>
    have kE := Blk.new w #[] 3
    have bE := alloc_below w (.cells #[] 3)
    have HV2 := hid (HV.out.below bE)
    have HLN := hid (natI_len l)
    have HL1 := hid (natI_one l)
    obtain ⟨n, hnn⟩ : ∃ n, l.length = n := ⟨_, rfl⟩
    rw [hnn] at HV2 HLN hcap hn ⊢
    have HB := hid bE
    have HK := hid kE
    clear hnn HV bE kE
    go_enter Try.func95, Try.ntmps95
    go_wp2_with (first
      | (at_builtin; refine wpList_appC rfl (.tmp 5) (.tmp 6) _ rfl w.heap.size 3 (.int .i64 0) 8 Try.underlying37 infoInt rfl rfl HK.out (Nat.le_refl _) rfl HV2.out HLN.out HL1.out (by unfold maxLen; omega) (by omega) (by simp) ?_; intro g5 c5 w5 ho5 hg5 _ _))
    go_ret
    exact ⟨⟨_, rfl, ho5⟩, HB.out.grown hg5 (by simp) (fun k hk => by cases hk; exact Nat.le_refl _)⟩

set_option maxHeartbeats 1000000 in
theorem wo1_any (y x : Nat) (gm : Nat) (w : World) (hk : Blk w gm #[.int .i64 (x : Int)] 3) :
    Calls Try.prog 96 #[.int .i64 (y : Int), .pointer (some ⟨gm, 0, none⟩)] w fun r w' => r = .returned (.bool (decide (y = x))) ∧ w = w' := by
  have x0 := hk.look 0 rfl
  have e : ((y : Int) == (x : Int)) = decide (y = x) := by
    by_cases h : y = x
    · subst h; simp
    · rw [decide_eq_false h]; simp; omega
  have HE := hid e
  clear e hk
  go_enter Try.func96, Try.ntmps96
  go_wp2
  go_ret
  exact ⟨ret_bool HE.out, rfl⟩

set_option maxHeartbeats 2000000 in
theorem IndexWo_any (l : List Nat) (x gm : Nat) (v : Value) (w : World) (h : SlR 0 w v l.length (natI l)) (hk : Blk w gm #[.int .i64 (x : Int)] 3) :
    Calls Try.prog 69 #[v, .func (.func 96) #[] #[.pointer (some ⟨gm, 0, none⟩)]] w fun r w' => r = .returned (.int .i64 (frst (fun i => decide (l.getD i 0 = x)) l.length)) ∧ w = w' := by
  have HV := hid (SlS.of_sl (S := fun _ => True) h (fun _ _ _ => trivial))
  obtain ⟨ao, cap, rfl, hcap, hmax, -⟩ := h
  unfold maxLen at hmax
  obtain ⟨L, hL⟩ : ∃ L, l.length = L := ⟨_, rfl⟩
  have HL := hid hL
  rw [hL] at hcap HV ⊢
  obtain ⟨p, hp⟩ : ∃ p, (fun i => decide (l.getD i 0 = x)) = p := ⟨_, rfl⟩
  have HP := hid hp
  rw [hp]
  obtain ⟨R, hR⟩ : ∃ R, frst p L = R := ⟨_, rfl⟩
  have HR := hid hR
  rw [hR]
  clear hL hp hR
  go_enter Try.func69, Try.ntmps69
  go_wp2_with fail
  go_loop [5, 8] (fun _ z => ∃ k : Nat, z = .int .i64 k ∧ k ≤ L ∧ Hid (frst p k = -1)) (fun _ z => L - (intOf z).toNat)
  case atStart => exact ⟨0, rfl, Nat.zero_le _, hid rfl⟩
  case round =>
    obtain ⟨k, rfl, hkL, HB⟩ := hrel
    by_cases hkn : k < L
    case pos =>
      have hk2 : (k : Int) < (L : Int) := by omega
      obtain ⟨b, off, rfl, _, hb, x0⟩ := nat_cell (l := l) (by rw [HL.out]; exact HV.out) (show k < l.length by rw [HL.out]; exact hkn)
      have hs : frst p (k + 1) = if frst p k = -1 then (if p k then (k : Int) else -1) else frst p k := rfl
      rw [if_pos HB.out] at hs
      have hpk : p k = decide (l.getD k 0 = x) := by rw [← HP.out]
      obtain ⟨y, hy⟩ : ∃ y, l.getD k 0 = y := ⟨_, rfl⟩
      rw [hy] at x0 hpk
      have W1 := hid (fun w h => wo1_any y x gm w h)
      rw [← hpk] at W1
      obtain ⟨B, hB⟩ : ∃ B, p k = B := ⟨_, rfl⟩
      rw [hB] at W1 hs
      have HS := hid hs
      have HT : Hid (frst p (k + 1) ≠ -1 → R = frst p (k + 1)) := hid (fun h => by
        have := frst_stay p (k + 1) (L - (k + 1)) h
        rw [show k + 1 + (L - (k + 1)) = L by omega, HR.out] at this; exact this)
      clear hy hpk hB hs
      go_wp2_with fail
      refine (W1.out _ hk).mono ?_
      rintro r w1 ⟨rfl, rfl⟩
      clear W1
      cases B with
      | true =>
        have hfin : Hid (R = (k : Int)) := hid (by
          rw [HT.out (by rw [HS.out, if_pos rfl]; omega), HS.out, if_pos rfl])
        clear HS HT HB HR
        go_wp2
        go_ret
        exact ⟨ret_int (by rw [hfin.out]), rfl⟩
      | false =>
        have HB2 : Hid (frst p (k + 1) = -1) := hid (by rw [HS.out]; rfl)
        clear HS HT HB
        go_wp2
        go_round
        case rel => exact ⟨k + 1, by go_num, by omega, HB2⟩
        case measure => simp [intOf]; omega
    case neg =>
      obtain rfl : L = k := by omega
      have hk2 : ¬ (L : Int) < (L : Int) := by omega
      have hfin : Hid (R = -1) := hid (by rw [← HR.out, HB.out])
      clear HB HR
      go_wp2
      go_ret
      exact ⟨ret_int (by rw [hfin.out]), rfl⟩

/-- The row, as DeleteFunc goes: what is kept of the first j stands in front. -/
structure DlI (l : List Nat) (x : Nat) (i j : Nat) (R : List Nat) : Prop where
  lt : i < j
  le : j ≤ l.length
  len : R.length = l.length
  done : R.take i = (l.take j).filter (fun y => !decide (y = x))
  left : ∀ k, j ≤ k → R.getD k 0 = l.getD k 0
theorem wo_step {l : List Nat} {x j : Nat} (hj : j < l.length) : (l.take (j + 1)).filter (fun y => !decide (y = x)) = (l.take j).filter (fun y => !decide (y = x)) ++ (if l.getD j 0 = x then [] else [l.getD j 0]) := by
  rw [List.take_succ_eq_append_getElem hj, List.filter_append]
  have e : l[j] = l.getD j 0 := by rw [List.getD_eq_getElem?_getD, List.getElem?_eq_getElem hj]; rfl
  rw [e]
  by_cases h : l.getD j 0 = x
  · rw [if_pos h, List.filter_cons_of_neg (by simpa using h), List.filter_nil]
  · rw [if_neg h, List.filter_cons_of_pos (by simpa using h), List.filter_nil]
theorem wo_all {l : List Nat} {x i : Nat} (h : ∀ k, k < i → l.getD k 0 ≠ x) (hi : i ≤ l.length) : (l.take i).filter (fun y => !decide (y = x)) = l.take i := by
  rw [List.filter_eq_self]
  intro q hq
  obtain ⟨k, hk, he⟩ := List.mem_iff_getElem.1 hq
  rw [List.length_take] at hk
  have h2 := h k (by omega)
  rw [List.getD_eq_getElem?_getD, List.getElem?_eq_getElem (show k < l.length by omega)] at h2
  rw [List.getElem_take] at he
  rw [← he]
  simpa using h2
theorem DlI.keep {l : List Nat} {x : Nat} {i j : Nat} {R : List Nat} (h : DlI l x i j R) (hj : j < l.length) (hq : l.getD j 0 ≠ x) : DlI l x (i + 1) (j + 1) (R.set i (l.getD j 0)) where
  lt := by have := h.lt; omega
  le := by omega
  len := by rw [List.length_set, h.len]
  done := by
    have hi : i < R.length := by have := h.lt; have := h.len; omega
    have hA : (R.take i).length = i := by rw [List.length_take]; omega
    rw [wo_step hj, if_neg hq, ← h.done, List.set_eq_take_append_cons_drop, if_pos hi, List.take_append, hA, List.take_of_length_le (by omega), show i + 1 - i = 1 by omega]
    rfl
  left := by
    intro k hk
    have := h.lt
    rw [List.getD_eq_getElem?_getD, List.getElem?_set_ne (by omega), ← List.getD_eq_getElem?_getD]
    exact h.left k (by omega)
theorem DlI.drop {l : List Nat} {x : Nat} {i j : Nat} {R : List Nat} (h : DlI l x i j R) (hj : j < l.length) (hq : l.getD j 0 = x) : DlI l x i (j + 1) R where
  lt := by have := h.lt; omega
  le := by omega
  len := h.len
  done := by rw [wo_step hj, if_pos hq, List.append_nil, h.done]
  left := fun k hk => h.left k (by omega)
theorem natI_get {l : List Nat} {i : Nat} (hi : i < l.length) : (natI l)[i]? = some (.int .i64 ((l.getD i 0 : Nat) : Int)) := by
  simp [natI, List.getD_eq_getElem?_getD, List.getElem?_eq_getElem hi]
theorem natI_set (l : List Nat) (i y : Nat) : (natI l).set i (.int .i64 (y : Int)) = natI (l.set i y) := by unfold natI; rw [List.map_set]
theorem setCells_below {B g : Nat} (hg : B ≤ g) : ∀ (vs : List Value) (o : Nat) {a w : World}, Below B a w → Below B a (w.setCells g o vs)
  | [], _, _, _, h => h
  | v :: vs, o, _, _, h => setCells_below hg vs (o + 1) (h.setCell (p := ⟨g, o, none⟩) hg v)
theorem setCells_size (g : Nat) : ∀ (vs : List Value) (o : Nat) (w : World), (w.setCells g o vs).heap.size = w.heap.size
  | [], _, _ => rfl
  | v :: vs, o, w => (setCells_size g vs (o + 1) _).trans (by simp [World.setCell])

set_option maxHeartbeats 4000000 in
set_option maxRecDepth 100000 in
theorem DeleteWo_any (l : List Nat) (x gm B g n cap : Nat) (w : World) (hn : l.length = n) (hn2 : n ≤ 1000) (hown : w.ownsRow B 3 1 (.slice (some ⟨g, 0, none⟩) n cap) n (natI l)) (hgm : gm < B) (_ : B ≤ w.heap.size)
    (hk : Blk w gm #[.int .i64 (x : Int)] 3) :
    Calls Try.prog 94 #[.slice (some ⟨g, 0, none⟩) n cap, .func (.func 96) #[] #[.pointer (some ⟨gm, 0, none⟩)]] w fun r w' =>
      (∃ v, r = .returned v ∧ SlR B w' v (l.filter (fun y => !decide (y = x))).length (natI (l.filter (fun y => !decide (y = x))))) ∧ Below B w w' := by
  have hcap : n ≤ cap ∧ cap ≤ maxLen := by
    obtain ⟨a1, ⟨h, -⟩ | ⟨g', cap', cur', hv, -, -, b1, b2, -, -⟩⟩ := hown
    · cases h
    · cases hv; exact ⟨b1, b2⟩
  unfold maxLen at hcap
  obtain ⟨cur, hh, hgB, hgs⟩ := owns_block hown
  have hV : SlR 0 w (.slice (some ⟨g, 0, none⟩) n cap) l.length (natI l) := by rw [hn]; exact (SlR.of_owns hown).mono (Nat.zero_le _)
  have IX := hid (IndexWo_any l x gm _ w hV hk)
  have hfc := frst_cases (fun i => decide (l.getD i 0 = x)) l.length
  have hfn := frst_none (fun i => decide (l.getD i 0 = x)) l.length
  obtain ⟨z, hz⟩ : ∃ z, frst (fun i => decide (l.getD i 0 = x)) l.length = z := ⟨_, rfl⟩
  rw [hz] at IX hfc hfn
  have HO := hid hown
  have HN := hid hn
  have HFN := hid hfn
  clear hz hV hh hown hn hfn
  go_enter Try.func94, Try.ntmps94
  go_wp2_with fail
  refine IX.out.mono ?_
  rintro r w1 ⟨rfl, rfl⟩
  clear IX
  rcases hfc with rfl | ⟨i0, rfl, hi0, hp, hlo⟩
  · have hall := HFN.out.1 rfl
    have hfl : l.filter (fun y => !decide (y = x)) = l := by
      have := wo_all (l := l) (x := x) (i := l.length) (fun k hk2 => by simpa using hall k hk2) (Nat.le_refl _)
      rwa [List.take_length] at this
    have HFL := hid hfl
    have HSL := hid (SlR.of_owns HO.out)
    clear hall hfl HFN
    go_wp2
    go_ret
    exact ⟨⟨_, rfl, by rw [HFL.out, HN.out]; exact HSL.out⟩, Below.refl _ _⟩
  · have hz1 : ¬ (i0 : Int) = -1 := by omega
    have hbe : ((i0 : Int) == -1) = false := by simp
    rw [HN.out] at hi0
    have hD : DlI l x i0 (i0 + 1) l := by
      refine ⟨Nat.lt_succ_self _, by rw [HN.out]; exact hi0, rfl, ?_, fun k _ => rfl⟩
      rw [wo_step (by rw [HN.out]; exact hi0), if_pos (by simpa using hp), List.append_nil, wo_all (fun k hk2 => by simpa using hlo k hk2) (by rw [HN.out]; omega)]
    have HD := hid hD
    clear hD hp hlo HFN
    go_wp2_with fail
    clear hbe
    go_loopw [5, 6] (fun x' y' wr => ∃ (i j : Nat) (R : List Nat), x' = .int .i64 i ∧ y' = .int .i64 j ∧ j ≤ n ∧ Hid (DlI l x i j R) ∧ Hid (wr.ownsRow B 3 1 (.slice (some ⟨g, 0, none⟩) n cap) n (natI R)) ∧ Below B w wr) (fun _ y' _ => n - (intOf y').toNat)
    case atStart => exact ⟨i0, i0 + 1, l, rfl, by go_num, hi0, HD, HO, Below.refl _ _⟩
    case round =>
      obtain ⟨i, j, R, rfl, rfl, hj, HI, HQ, hbel⟩ := hrel
      have hij := HI.out.lt
      have hRl : R.length = n := by rw [HI.out.len]; exact HN.out
      have hkr : Blk wr gm #[.int .i64 (x : Int)] 3 := (hbel.block gm hgm).trans hk
      by_cases hjn : j < n
      · have hjn2 : (j : Int) < (n : Int) := by omega
        have hin : i < n := by omega
        have hin2 : (i : Int) < (n : Int) := by omega
        have x0 := HQ.out.cellAt j (by omega)
        rw [natI_get (by rw [hRl]; exact hjn), HI.out.left j (Nat.le_refl _)] at x0
        have y0 := HQ.out.cellAt i (by omega)
        rw [natI_get (by rw [hRl]; exact hin)] at y0
        have f0 := HQ.out.frozenAt i
        obtain ⟨q, hq⟩ : ∃ q, l.getD j 0 = q := ⟨_, rfl⟩
        rw [hq] at x0
        have HQE := hid hq
        have W1 := hid (fun w h => wo1_any q x gm w h)
        clear hq
        go_wp2_with fail
        refine (W1.out _ hkr).mono ?_
        rintro r w3 ⟨rfl, rfl⟩
        clear W1
        by_cases hmq : q = x
        · rw [decide_eq_true hmq]
          have HD2 := hid (HI.out.drop (by rw [HN.out]; exact hjn) (by rw [HQE.out]; exact hmq))
          clear hmq hkr x0 y0 f0
          go_wp2
          go_roundw
          case rel => exact ⟨i, j + 1, R, rfl, by go_num, by omega, HD2, HQ, hbel⟩
          case measure => simp [intOf]; omega
        · rw [decide_eq_false hmq]
          have HD2 := hid (HI.out.keep (by rw [HN.out]; exact hjn) (by rw [HQE.out]; exact hmq))
          rw [HQE.out] at HD2
          have HQ4 := hid (by have := (HQ.out.stored i (.int .i64 (q : Int))).1; rw [natI_set] at this; exact this : (wr.setCell ⟨g, i, none⟩ (.int .i64 (q : Int))).ownsRow B 3 1 (.slice (some ⟨g, 0, none⟩) n cap) n (natI (R.set i q)))
          have hbel4 := hbel.setCell (p := ⟨g, i, none⟩) hgB (.int .i64 (q : Int))
          clear hmq hbel hkr
          go_wp2
          go_roundw
          case rel => exact ⟨i + 1, j + 1, R.set i q, by go_num, by go_num, by omega, HD2, HQ4, hbel4⟩
          case measure => simp [intOf]; omega
      · obtain rfl : n = j := by omega
        have hjn2 : ¬ (n : Int) < (n : Int) := by omega
        have hdone := HI.out.done
        rw [← HN.out, List.take_length] at hdone
        have HDN := hid hdone
        have hcl : ∀ (ty : TypeId) (c' : Nat), (Builtin.clear_ #[37] ty #[.slice (some ⟨g, i, none⟩) (n - i) c']).run Try.prog wr = .ok (.tuple #[]) (wr.setCells g i (List.replicate (n - i) (.int .i64 0))) := fun ty c' =>
          Lib.run_clear_slice wr 37 3 ty (.int .i64 0) Try.underlying37 (zero_of_info (P := Try.prog) (t := 3) (v := .int .i64 0) (n := 1) (by kernel_rfl)).1 rfl rfl g i (n - i) c' (by omega)
            (fun j hj => by have := HQ.out.cellAt (i + j) (by omega); rw [natI_get (by rw [hRl]; omega)] at this; rw [this]; rfl) (fun j _ => HQ.out.frozenAt (i + j))
        have HFB := hid (setCells_below hgB (List.replicate (n - i) (.int .i64 0)) i hbel)
        have HFQ : Hid (SlR B (wr.setCells g i (List.replicate (n - i) (.int .i64 0))) (.slice (some ⟨g, 0, none⟩) i cap) (l.filter (fun y => !decide (y = x))).length (natI (l.filter (fun y => !decide (y = x))))) := hid (by
          rw [← HDN.out]
          have htl : (R.take i).length = i := by rw [List.length_take]; omega
          rw [htl]
          refine ⟨_, _, rfl, by omega, by unfold maxLen; omega, fun _ => ⟨g, 0, rfl, hgB, by rw [setCells_size]; have := hbel.size; omega, fun j hj => ?_⟩⟩
          rw [natI_len, htl] at hj
          rw [World.cell?_setCells_out g _ _ wr _ (fun _ _ => .inl (by show 0 + j < i; omega)), Nat.zero_add, HQ.out.cellAt j (by omega), natI_get (by rw [hRl]; omega)]
          have := natI_get (l := R.take i) (i := j) (by rw [htl]; exact hj)
          have e : (natI (R.take i)).getD j undef = .int .i64 (((R.take i).getD j 0 : Nat) : Int) := by rw [List.getD_eq_getElem?_getD, this]; rfl
          rw [e]
          simp [List.getD_eq_getElem?_getD, hj])
        have hin2 : (i : Int) ≤ (n : Int) := by omega
        have hin3 : (i : Int) ≤ (cap : Int) := by omega
        have hnc : (n : Int) ≤ (cap : Int) := by omega
        clear hdone hkr hbel HQ
        go_wp2
        go_ret
        exact ⟨⟨_, rfl, HFQ.out⟩, HFB.out⟩

set_option maxHeartbeats 1000000 in
theorem DeleteNil_any (x gm : Nat) (w : World) (hk : Blk w gm #[.int .i64 (x : Int)] 3) :
    Calls Try.prog 94 #[.slice none 0 0, .func (.func 96) #[] #[.pointer (some ⟨gm, 0, none⟩)]] w fun r w' => r = .returned (.slice none 0 0) ∧ w = w' := by
  have IX := hid (IndexWo_any [] x gm (.slice none 0 0) w (SlR.nil _ _) hk)
  have hz : Hid (frst (fun i => decide (([] : List Nat).getD i 0 = x)) ([] : List Nat).length = -1) := hid rfl
  rw [hz.out] at IX
  clear hz
  go_enter Try.func94, Try.ntmps94
  go_wp2_with fail
  refine IX.out.mono ?_
  rintro r w1 ⟨rfl, rfl⟩
  clear IX
  go_wp2
  go_ret
  exact ⟨rfl, rfl⟩

set_option maxHeartbeats 2000000 in
set_option maxRecDepth 100000 in
theorem without_any (l : List Nat) (x : Nat) (v : Value) (w : World) (h : SlR 0 w v l.length (natI l)) (hn : l.length ≤ 1000) :
    Calls Try.prog 87 #[v, .int .i64 (x : Int)] w fun r w' => (∃ v', r = .returned v' ∧ SlR (w.heap.size + 1) w' v' (l.filter (fun y => !decide (y = x))).length (natI (l.filter (fun y => !decide (y = x))))) ∧ Below w.heap.size w w' := by
  have kX := Blk.new w #[.int .i64 (x : Int)] 3
  have bX := alloc_below w (.cells #[.int .i64 (x : Int)] 3)
  have hz : (w.alloc (.cells #[.int .i64 (x : Int)] 3)).heap.size = w.heap.size + 1 := by simp
  have CL := hid (fun w h => Clone_any l v w h hn)
  have HX := hid (h.below bX)
  clear h
  go_enter Try.func87, Try.ntmps87
  have HZ := hid hz
  clear hz
  go_wp2_with fail
  refine (CL.out _ HX.out).mono ?_
  rintro r w2 ⟨⟨v', rfl, ho⟩, hb⟩
  have k2 := kX.below hb
  have b2 := bX.trans (hb.mono bX.size)
  rw [HZ.out] at ho
  have hs2 : w.heap.size + 1 ≤ w2.heap.size := by have := hb.size; rw [HZ.out] at this; exact this
  obtain ⟨a1, ⟨rfl, h0⟩ | ⟨g, cap, cur, rfl, hg, hh, hr⟩⟩ := id ho
  · have hl : l = [] := List.length_eq_zero_iff.1 h0
    subst hl
    have IW := hid (IndexWo_any [] x w.heap.size (.slice none 0 0) w2 (SlR.nil _ _) k2)
    have DN := hid (DeleteNil_any x w.heap.size w2 k2)
    clear IW HX CL HZ kX bX hb a1
    go_wp2_with fail
    refine DN.out.mono ?_
    rintro r w3 ⟨rfl, rfl⟩
    go_wp2
    go_ret
    exact ⟨⟨_, rfl, SlR.nil _ _⟩, b2⟩
  · have DW := hid (DeleteWo_any l x w.heap.size (w.heap.size + 1) g l.length cap w2 rfl hn ho (Nat.lt_succ_self _) hs2 k2)
    clear HX CL HZ kX bX hb a1 hh hr ho
    go_wp2_with fail
    refine DW.out.mono ?_
    rintro r w3 ⟨⟨v3, rfl, hv3⟩, hb3⟩
    have HV3 := hid hv3
    have b3 := b2.trans (hb3.mono (Nat.le_succ _))
    clear hv3 hb3 DW
    go_wp2
    go_ret
    exact ⟨⟨_, rfl, HV3.out⟩, b3⟩

set_option maxHeartbeats 1000000 in
theorem Index_any (l : List Nat) (x : Int) (v : Value) (w : World) (h : SlR 0 w v l.length (natI l)) :
    Calls Try.prog 68 #[v, .int .i64 x] w fun r w' => r = .returned (.int .i64 (frst (fun i => decide (((l.getD i 0 : Nat) : Int) = x)) l.length)) ∧ w = w' := by
  have HV := hid (SlS.of_sl (S := fun _ => True) h (fun _ _ _ => trivial))
  obtain ⟨ao, cap, rfl, hcap, hmax, -⟩ := h
  unfold maxLen at hmax
  obtain ⟨L, hL⟩ : ∃ L, l.length = L := ⟨_, rfl⟩
  have HL := hid hL
  rw [hL] at hcap HV ⊢
  obtain ⟨p, hp⟩ : ∃ p, (fun i => decide (((l.getD i 0 : Nat) : Int) = x)) = p := ⟨_, rfl⟩
  have HP := hid hp
  rw [hp]
  obtain ⟨R, hR⟩ : ∃ R, frst p L = R := ⟨_, rfl⟩
  have HR := hid hR
  rw [hR]
  clear hL hp hR
  go_enter Try.func68, Try.ntmps68
  go_wp2_with fail
  go_loop [5, 8] (fun _ z => ∃ k : Nat, z = .int .i64 k ∧ k ≤ L ∧ Hid (frst p k = -1)) (fun _ z => L - (intOf z).toNat)
  case atStart => exact ⟨0, rfl, Nat.zero_le _, hid rfl⟩
  case round =>
    obtain ⟨k, rfl, hkL, HB⟩ := hrel
    by_cases hkn : k < L
    case pos =>
      have hk2 : (k : Int) < (L : Int) := by omega
      obtain ⟨b, off, rfl, _, hb, x0⟩ := nat_cell (l := l) (by rw [HL.out]; exact HV.out) (show k < l.length by rw [HL.out]; exact hkn)
      have hs : frst p (k + 1) = if frst p k = -1 then (if p k then (k : Int) else -1) else frst p k := rfl
      rw [if_pos HB.out] at hs
      have hpk : p k = decide (((l.getD k 0 : Nat) : Int) = x) := by rw [← HP.out]
      obtain ⟨y, hy⟩ : ∃ y, l.getD k 0 = y := ⟨_, rfl⟩
      rw [hy] at x0 hpk
      have HS := hid hs
      have HPK := hid hpk
      have HT : Hid (frst p (k + 1) ≠ -1 → R = frst p (k + 1)) := hid (fun h => by
        have := frst_stay p (k + 1) (L - (k + 1)) h
        rw [show k + 1 + (L - (k + 1)) = L by omega, HR.out] at this; exact this)
      clear hy hpk hs
      by_cases hxy : x = (y : Int)
      · have hfin : Hid (R = (k : Int)) := hid (by
          rw [HT.out (by rw [HS.out, if_pos (by rw [HPK.out]; simp [hxy])]; omega), HS.out, if_pos (by rw [HPK.out]; simp [hxy])])
        have hbe : (x == (y : Int)) = true := by simp [hxy]
        clear HS HT HB HR HPK hxy
        go_wp2
        go_ret
        exact ⟨ret_int (by rw [hfin.out]), rfl⟩
      · have HB2 : Hid (frst p (k + 1) = -1) := hid (by rw [HS.out, if_neg (by rw [HPK.out]; simp; exact fun h => hxy h.symm)])
        have hbe : (x == (y : Int)) = false := by simp [hxy]
        clear HS HT HB HPK hxy
        go_wp2
        go_round
        case rel => exact ⟨k + 1, by go_num, by omega, HB2⟩
        case measure => simp [intOf]; omega
    case neg =>
      obtain rfl : L = k := by omega
      have hk2 : ¬ (L : Int) < (L : Int) := by omega
      have hfin : Hid (R = -1) := hid (by rw [← HR.out, HB.out])
      clear HB HR
      go_wp2
      go_ret
      exact ⟨ret_int (by rw [hfin.out]), rfl⟩
set_option maxHeartbeats 1000000 in
theorem Contains_any (l : List Nat) (x : Nat) (v : Value) (w : World) (h : SlR 0 w v l.length (natI l)) :
    Calls Try.prog 35 #[v, .int .i64 (x : Int)] w fun r w' => r = .returned (.bool (decide (x ∈ l))) ∧ w = w' := by
  have IX := hid (Index_any l (x : Int) v w h)
  have hfc := frst_cases (fun i => decide (((l.getD i 0 : Nat) : Int) = (x : Int))) l.length
  have hfn := frst_none (fun i => decide (((l.getD i 0 : Nat) : Int) = (x : Int))) l.length
  obtain ⟨z, hz⟩ : ∃ z, frst (fun i => decide (((l.getD i 0 : Nat) : Int) = (x : Int))) l.length = z := ⟨_, rfl⟩
  rw [hz] at IX hfc hfn
  have hB : Hid (decide (0 ≤ z) = decide (x ∈ l)) := hid (by
    rw [Bool.eq_iff_iff, decide_eq_true_eq, decide_eq_true_eq]
    rcases hfc with rfl | ⟨i, rfl, h1, h2, _⟩
    · refine ⟨fun h => by omega, fun h => ?_⟩
      obtain ⟨i, hi, e⟩ := List.mem_iff_getElem.1 h
      have := hfn.1 rfl i hi
      simp [List.getD_eq_getElem?_getD, List.getElem?_eq_getElem hi, e] at this
    · refine ⟨fun _ => ?_, fun _ => by omega⟩
      have h3 : l.getD i 0 = x := by
        have := of_decide_eq_true h2
        exact_mod_cast this
      rw [List.getD_eq_getElem?_getD, List.getElem?_eq_getElem h1] at h3
      rw [← h3]
      exact List.getElem_mem h1)
  obtain ⟨ao, cap, rfl, hcap, hmax, -⟩ := h
  clear hz hfc hfn
  go_enter Try.func35, Try.ntmps35
  go_wp2_with fail
  refine IX.out.mono ?_
  rintro r w1 ⟨rfl, rfl⟩
  clear IX
  go_wp2
  go_ret
  exact ⟨ret_bool hB.out, rfl⟩

end Go.Proofs.Ytcpefolhohakmaa
