/- Walk of the law CurveMeans. -/
import Derived.Test.YtfkclcoipadhmaaDoorDw
import Derived.Test.YtfkclcoipadhmaaDoorGl
import Derived.Test.YtfkclcoipadhmaaDoorGr
import Derived.Deep.Cut
import Derived.Deep.CutRange
namespace Go.Proofs.YtfkclcoipadhmaaDoor
open Go.RowKit
attribute [local irreducible] seqS seqST walkV walkJ

/-- The greatest of the first elements, within limits. -/
def mostT (o : List Int) : Nat → Int
  | 0 => 0
  | k + 1 => if k < o.length then max (mostT o k) (min (max (o.getD k 0) 0) 2000000) else mostT o k
theorem mostT_bd (o : List Int) : ∀ k, 0 ≤ mostT o k ∧ mostT o k ≤ 2000000
  | 0 => by unfold mostT; omega
  | k + 1 => by
    have ih := mostT_bd o k
    unfold mostT
    split <;> omega
theorem mostT_le (o : List Int) (k : Nat) : mostT o k ≤ mostT o (k + 1) := by
  have : mostT o (k + 1) = if k < o.length then max (mostT o k) (min (max (o.getD k 0) 0) 2000000) else mostT o k := rfl
  rw [this]
  split <;> omega
/-- Does the sequence rise, up to k? -/
def riseB (l : List Int) : Nat → Bool
  | 0 => true
  | k + 1 => riseB l k && (decide (k = 0) || decide (l.getD (k - 1) 0 ≤ l.getD k 0))
theorem riseB_all {l : List Int} : ∀ {n : Nat}, riseB l n = true → ∀ i, i + 1 < n → l.getD i 0 ≤ l.getD (i + 1) 0
  | 0, _, i, hi => by omega
  | n + 1, h, i, hi => by
    unfold riseB at h
    simp only [Bool.and_eq_true, Bool.or_eq_true, decide_eq_true_eq] at h
    by_cases he : i + 1 = n
    · rcases h.2 with h2 | h2
      · omega
      · rw [← he] at h2
        exact h2
    · exact riseB_all h.1 i (by omega)
def lR (l : List Int) (i : Nat) : Rat := ((l.getD i 0 : Int) : Rat)
noncomputable def offF (l : List Int) (i : Nat) : Rat := (isoL l).getD i 0 - lR l i
noncomputable def nearF (l : List Int) (i : Nat) : Rat := offF l i * offF l i
def offO (l o : List Int) (i : Nat) : Rat := ((mostT o (i + 1) : Int) : Rat) - lR l i
def farF (l o : List Int) (i : Nat) : Rat := offO l o i * offO l o i
theorem sumF_QS {g : Nat → Rat} {n : Nat} (h : ∀ i, i < n → QS 10 (g i)) : ∀ i, i ≤ n → QS (12 * i + 2) (sumF g i)
  | 0, _ => (int_size (z := 0) (by decide) (by decide)).mono (by omega)
  | i + 1, hi => (QS_add2 (sumF_QS h i (by omega)) (h i (by omega))).mono (by omega)
theorem means_plain {l o : List Int} (h0 : isoE l = 0) : sumF (offF l) l.length = 0 ∧ sumF (nearF l) l.length ≤ sumF (farF l o) l.length ∧ (riseB l l.length = true → sumF (nearF l) l.length = 0) := by
  have hL : isoL l = flatB (stackB l l.length) := if_pos h0
  have hg := stack_good l l.length
  have hS : ∀ k, sumT l (k + 1) = sumT l k + lR l k := fun _ => rfl
  have e1 : (fun i => (flatB (stackB l l.length)).getD i 0 - lR l i) = offF l := by funext i; unfold offF; rw [hL]
  have e2 : (fun i => ((flatB (stackB l l.length)).getD i 0 - lR l i) * ((flatB (stackB l l.length)).getD i 0 - lR l i)) = nearF l := by funext i; unfold nearF offF; rw [hL]
  refine ⟨?_, ?_, fun hr => ?_⟩
  · have := (dot_good hS (o := fun _ => 0) hg (fun _ _ => Rat.le_refl)).2
    rw [e1] at this
    exact this
  · have := near_far hS (o := fun i => ((mostT o (i + 1) : Int) : Rat)) hg (fun i _ => Rat.intCast_le_intCast.2 (mostT_le o (i + 1)))
    rw [e2] at this
    exact this
  · have h1 := near_far hS (o := lR l) hg (fun i hi => Rat.intCast_le_intCast.2 (riseB_all hr i hi))
    rw [e2] at h1
    have h2 : sumF (fun i => (lR l i - lR l i) * (lR l i - lR l i)) l.length = 0 := sumF_zero (fun i _ => by grind)
    rw [h2] at h1
    have h3 : 0 ≤ sumF (nearF l) l.length := sumF_nonneg (fun i _ => by
      unfold nearF
      rcases Rat.le_total (a := 0) (b := offF l i) with h | h
      · exact Rat.mul_nonneg h h
      · have := Rat.mul_nonneg (show 0 ≤ -offF l i by grind) (show 0 ≤ -offF l i by grind)
        grind)
    exact Rat.le_antisymm h1 h3
theorem isoE_zero {l : List Int} (h : isoE l = 0) : l.length ≤ 48 ∧ isoV l := by
  unfold isoE at h
  by_cases h1 : 48 < l.length
  · rw [if_pos h1] at h; cases h
  · rw [if_neg h1] at h
    by_cases h2 : isoV l
    · exact ⟨by omega, h2⟩
    · rw [if_neg h2] at h; cases h
theorem iso_fits {l : List Int} (h : isoE l = 0) : (isoL l).length = l.length ∧ (∀ i, i < l.length → fits ((isoL l).getD i 0)) ∧ ∀ i, i + 1 < l.length → (isoL l).getD i 0 ≤ (isoL l).getD (i + 1) 0 := by
  have hL : isoL l = flatB (stackB l l.length) := if_pos h
  obtain ⟨h48, hv⟩ := isoE_zero h
  have hg := stack_good l l.length
  rw [hL]
  refine ⟨flatB_len hg, fun i hi => ?_, fun i hi => flat_rise hg i hi⟩
  have hfl := flatB_len hg
  have hm : (flatB (stackB l l.length)).getD i 0 ∈ flatB (stackB l l.length) := by
    rw [List.getD_eq_getElem?_getD, List.getElem?_eq_getElem (by omega)]
    exact List.getElem_mem _
  unfold flatB at hm
  obtain ⟨b, hb, hm2⟩ := List.mem_flatMap.1 hm
  have he := (List.mem_replicate.1 hm2).2
  obtain ⟨s, e', hB, hle⟩ := good_mem hg b (List.mem_reverse.1 hb)
  have hbd := blk_bd hB (by omega) (fun t ht => hv t (by omega))
  change fits ((flatB (stackB l l.length)).getD i 0)
  unfold flatB
  rw [he]
  exact meanB_fits hbd.1 hbd.2.1 hbd.2.2.1 hbd.2.2.2
theorem fits_two {q : Rat} (h : fits q) : QS 2 q := by
  obtain ⟨h1, h2⟩ := h
  exact ⟨Nat.le_trans (digs_len_small (by omega)) (by decide), Nat.le_trans (digs_len_small (by omega)) (by decide)⟩
theorem sgn_order {a b : Rat} (h : a ≤ b) : sgnQ (a - b) ≤ 0 := by
  unfold sgnQ
  by_cases h1 : a - b < 0
  · rw [if_pos h1]; decide
  · rw [if_neg h1, if_pos (by grind)]
    decide

theorem run_max (ats : Array TypeId) (ty : TypeId) {x y z : Int} (h : max x y = z) : Builtin.max_ ats ty #[.int .i64 x, .int .i64 y] = pure (.int .i64 z) := by
  show (pure (Value.int .i64 (if y > x then y else x)) : Sem Value) = _
  have : (if y > x then y else x) = z := by rw [← h]; split <;> omega
  rw [this]
theorem run_min (ats : Array TypeId) (ty : TypeId) {x y z : Int} (h : min x y = z) : Builtin.min_ ats ty #[.int .i64 x, .int .i64 y] = pure (.int .i64 z) := by
  show (pure (Value.int .i64 (if y < x then y else x)) : Sem Value) = _
  have : (if y < x then y else x) = z := by rw [← h]; split <;> omega
  rw [this]

set_option maxHeartbeats 8000000 in
set_option maxRecDepth 100000 in
theorem CurveMeans_any (l o : List Int) (v vo : Value) (w : World) (h : IntsR 0 w v l) (ho : IntsR 0 w vo o) (hz : Z0 w) :
    Calls Tryd.prog 8 #[v, vo] w fun r w' => r = .returned (.bool true) ∧ Below w.heap.size w w' := by
  have S1 := hid (Isotone_any l v w h)
  have HPL := hid (fun h0 => means_plain (l := l) (o := o) h0)
  have HFT := hid (fun h0 => iso_fits (l := l) h0)
  have HVL := hid (fun h0 => isoE_zero (l := l) h0)
  have HOFF : Hid (∀ i, offF l i = (isoL l).getD i 0 - lR l i) := hid (fun _ => rfl)
  have HNIL : Hid (isoE l ≠ 0 → isoL l = []) := hid (fun h => if_neg h)
  generalize isoL l = F at S1 HFT HOFF HNIL
  generalize isoE l = E at S1 HPL HFT HVL HNIL
  have HI := hid h
  have HO := hid ho
  obtain ⟨ai, ci, rfl, hci, hmi, hcc⟩ := h
  obtain ⟨ao, co, rfl, hco, hmo, hoc⟩ := ho
  unfold maxLen at hmi hmo
  have HCC := hid hcc
  have HOC := hid hoc
  obtain ⟨n, hn⟩ : ∃ n, l.length = n := ⟨_, rfl⟩
  obtain ⟨m, hm⟩ : ∃ n, o.length = n := ⟨_, rfl⟩
  have HN := hid hn
  have HM := hid hm
  rw [hn] at hci HPL HFT HVL HI S1 ⊢
  rw [hm] at hco HO ⊢
  clear hn hm hcc hoc
  go_enter Tryd.func8, Tryd.ntmps8
  go_wp2_with fail
  refine S1.out.mono ?_
  rintro r w1 ⟨⟨u1, rfl, q1⟩, hb1⟩
  have hz1 := hz.below hb1
  have hs1 := hb1.size
  clear hz S1
  by_cases h0 : E = 0
  case neg =>
    obtain rfl := HNIL.out h0
    obtain ⟨af, cf, rfl, -⟩ := q1
    have hE1 : (E == 0) = false := by simpa using h0
    clear HPL HFT HVL HNIL
    go_wp2_with fail
    refine (awake_any _ hz1).mono ?_
    rintro r w9 ⟨rfl, hb9⟩
    replace hb9 := hb1.trans (hb9.mono hb1.size)
    go_wp2
    go_ret
    exact ⟨rfl, hb9⟩
  subst h0
  obtain ⟨h48, hv⟩ := HVL.out rfl
  obtain ⟨hFl, hFf, hFr⟩ := HFT.out rfl
  have hpl := HPL.out rfl
  obtain ⟨af, cf, rfl, hcf, hmf, hfc⟩ := q1
  unfold maxLen at hmf
  rw [hFl] at hcf ⊢
  have h48i : ¬ (48 : Int) < (n : Int) := by omega
  have HFL := hid hFl
  have HFF := hid hFf
  have HFR := hid hFr
  have HV := hid hv
  have HFC := hid hfc
  have HPLN := hid hpl
  clear hFl hFf hFr hv hfc hpl HPL HFT HVL HNIL
  go_wp2_with fail
  refine (Int_any 0 _ (by decide) (by decide)).mono ?_
  rintro e uA ⟨vA, rfl, hqA, hbA⟩
  go_wp2_with fail
  refine (Int_any 0 _ (by decide) (by decide)).mono ?_
  rintro e uB ⟨vB, rfl, hqB, hbB⟩
  replace hqA := hqA.below hbB
  replace hbB := hbA.trans (hbB.mono hbA.size)
  go_wp2_with fail
  refine (Int_any 0 _ (by decide) (by decide)).mono ?_
  rintro e u3 ⟨vC, rfl, hqC, hbC⟩
  replace hqA := hqA.below hbC
  replace hqB := hqB.below hbC
  replace hbC := hbB.trans (hbC.mono hbB.size)
  have hbu : Below w.heap.size w u3 := hb1.trans (hbC.mono hs1)
  have hzu := hz1.below hbC
  obtain ⟨a1, m1, d1, a2, m2, d2, hv1⟩ := q_shape hqA
  obtain ⟨a3, m3, d3, a4, m4, d4, hv2⟩ := q_shape hqB
  obtain ⟨a5, m5, d5, a6, m6, d6, hv3⟩ := q_shape hqC
  generalize decide ((((0 : Int) : Rat)).num < 0) = bA at hv1 hv2 hv3
  subst hv1
  subst hv2
  subst hv3
  obtain ⟨W0, hW0, k0, k1, k2, hB0, -⟩ := three_new u3 #[.bool bA, .slice a1 m1 d1, .slice a2 m2 d2] #[.bool bA, .slice a3 m3 d3, .slice a4 m4 d4] #[.bool bA, .slice a5 m5 d5, .slice a6 m6 d6] 43 43 43
  have Q7 : Hid (QBox W0 u3.heap.size (sumF (offF l) 0)) := hid (RBox.q ⟨k0, (hqA.below hB0).mono (Nat.zero_le _)⟩)
  have Q8 : Hid (QBox W0 (u3.heap.size + 1) (sumF (nearF l) 0)) := hid (RBox.q ⟨k1, (hqB.below hB0).mono (Nat.zero_le _)⟩)
  have Q9 : Hid (QBox W0 (u3.heap.size + 1 + 1) (sumF (farF l o) 0)) := hid (RBox.q ⟨k2, (hqC.below hB0).mono (Nat.zero_le _)⟩)
  go_wp2_with fail
  have hfx : ∀ i, i < n → ∃ b off, af = some ⟨b, off, none⟩ ∧ b < u3.heap.size ∧ u3.cell? ⟨b, off + i * 2, none⟩ = some (.int .i64 (F.getD i 0).num) ∧ u3.cell? ⟨b, off + i * 2 + 1, none⟩ = some (.int .i64 ((F.getD i 0).den : Int)) := by
    intro i hi
    obtain ⟨b, off, e, hb, x0, x1⟩ := q_cell HFC.out (show i < F.length by rw [HFL.out]; exact hi)
    exact ⟨b, off, e, Nat.lt_of_lt_of_le hb hbC.size, (hbC.cell (p := ⟨b, off + i * 2, none⟩) hb).trans x0, (hbC.cell (p := ⟨b, off + i * 2 + 1, none⟩) hb).trans x1⟩
  have hlx : ∀ i, i < n → ∃ b off, ai = some ⟨b, off, none⟩ ∧ b < u3.heap.size ∧ u3.cell? ⟨b, off + i, none⟩ = some (.int .i64 (l.getD i 0)) := by
    intro i hi
    obtain ⟨b, off, e, hb, x0⟩ := int_cell HCC.out (show i < l.length by rw [HN.out]; exact hi)
    exact ⟨b, off, e, Nat.lt_of_lt_of_le hb hbu.size, (hbu.cell (p := ⟨b, off + i, none⟩) hb).trans x0⟩
  have hox : ∀ i, i < m → ∃ b off, ao = some ⟨b, off, none⟩ ∧ b < u3.heap.size ∧ u3.cell? ⟨b, off + i, none⟩ = some (.int .i64 (o.getD i 0)) := by
    intro i hi
    obtain ⟨b, off, e, hb, x0⟩ := int_cell HOC.out (show i < o.length by rw [HM.out]; exact hi)
    exact ⟨b, off, e, Nat.lt_of_lt_of_le hb hbu.size, (hbu.cell (p := ⟨b, off + i, none⟩) hb).trans x0⟩
  have HFX := hid hfx
  have HLX := hid hlx
  have HOX := hid hox
  have HBU := hid hbu
  have HZU := hid hzu
  have hoS : ∀ i, i < n → QS 5 (offF l i) := fun i hi => by
    rw [HOFF.out i]
    have hx := HV.out i (by rw [HN.out]; exact hi)
    exact QS_sub (fits_two (HFF.out i hi)) (int_size (by omega) (by omega))
  have hoT : ∀ i, i < n → QS 5 (offO l o i) := fun i hi => by
    have hx := HV.out i (by rw [HN.out]; exact hi)
    have hm := mostT_bd o (i + 1)
    exact QS_sub (int_size (by omega) (by omega)) (int_size (by omega) (by omega))
  have HS7 := hid (sumF_QS (fun i hi => (hoS i hi).mono (by decide)))
  have HS8 := hid (sumF_QS (g := nearF l) (fun i hi => QS_mul (hoS i hi) (hoS i hi)))
  have HS9 := hid (sumF_QS (g := farF l o) (fun i hi => QS_mul (hoT i hi) (hoT i hi)))
  clear hoS hoT
  obtain ⟨B, hBe⟩ : ∃ B, u3.heap.size = B := ⟨_, rfl⟩
  rw [hBe] at Q7 Q8 Q9 hB0 HFX HLX HOX ⊢
  have HBE := hid hBe
  clear hW0 k0 k1 k2 hqA hqB hqC hbA hbB hbC hbu hzu hfx hlx hox hz1 hb1 hs1 HFC HCC HOC HI HO hBe
  go_loopw [10, 11, 43] (fun y m' z wr => ∃ i : Nat, z = .int .i64 i ∧ i ≤ n ∧ y = .bool (riseB l i) ∧ m' = .int .i64 (mostT o i) ∧ Hid (QBox wr B (sumF (offF l) i)) ∧ Hid (QBox wr (B + 1) (sumF (nearF l) i)) ∧ Hid (QBox wr (B + 1 + 1) (sumF (farF l o) i)) ∧ Below B u3 wr) (fun _ _ z _ => n - (intOf z).toNat)
  case atStart => exact ⟨0, rfl, Nat.zero_le _, rfl, rfl, Q7, Q8, Q9, hB0⟩
  case round =>
    clear Q7 Q8 Q9 hB0
    obtain ⟨i, rfl, hi, rfl, rfl, Q7, Q8, Q9, hbel⟩ := hrel
    by_cases hin : i < n
    case pos =>
      have hi2 : (i : Int) < (n : Int) := by omega
      obtain ⟨bl, ol, rfl, hbl, x0⟩ := HLX.out i hin
      obtain ⟨bf, of, rfl, hbf, x1, x2⟩ := HFX.out i hin
      replace x0 := (hbel.cell (p := ⟨bl, ol + i, none⟩) hbl).trans x0
      replace x1 := (hbel.cell (p := ⟨bf, of + i * 2, none⟩) hbf).trans x1
      replace x2 := (hbel.cell (p := ⟨bf, of + i * 2 + 1, none⟩) hbf).trans x2
      have hX : 0 ≤ l.getD i 0 ∧ l.getD i 0 ≤ 1000000 := HV.out i (by rw [HN.out]; exact hin)
      have hFf := HFF.out i hin
      have hri : riseB l (i + 1) = (riseB l i && (decide (i = 0) || decide (l.getD (i - 1) 0 ≤ l.getD i 0))) := rfl
      have hof : offF l i = F.getD i 0 - (((l.getD i 0 : Int)) : Rat) := HOFF.out i
      have hoo : offO l o i = ((mostT o (i + 1) : Int) : Rat) - (((l.getD i 0 : Int)) : Rat) := rfl
      have hmo1 : mostT o (i + 1) = if i < o.length then max (mostT o i) (min (max (o.getD i 0) 0) 2000000) else mostT o i := rfl
      have hmb := mostT_bd o (i + 1)
      rw [HM.out] at hmo1
      obtain ⟨X, hXe⟩ : ∃ X, l.getD i 0 = X := ⟨_, rfl⟩
      obtain ⟨Fi, hFe⟩ : ∃ X, F.getD i 0 = X := ⟨_, rfl⟩
      rw [hXe] at x0 hX hri hof hoo
      rw [hFe] at x1 x2 hFf hof
      have HFE := hid hFe
      have HX := hid hX
      have HFf := hid hFf
      have HRI := hid hri
      have HOF := hid hof
      have HOO := hid hoo
      have HMO1 := hid hmo1
      have HMB := hid hmb
      have sX : QS 2 ((X : Int) : Rat) := int_size (by omega) (by omega)
      have sF := fits_two hFf
      have sOff : QS 5 (offF l i) := by rw [hof]; exact QS_sub sF sX
      have sM : QS 2 (((mostT o (i + 1) : Int)) : Rat) := int_size (by omega) (by omega)
      have sOO : QS 5 (offO l o i) := by rw [hoo]; exact QS_sub sM sX
      have SX := hid sX
      have SF := hid sF
      have SOFF := hid sOff
      have SM := hid sM
      have SOO := hid sOO
      have s7 : QS (12 * i + 2) (sumF (offF l) i) := HS7.out i hi
      have s8 : QS (12 * i + 2) (sumF (nearF l) i) := HS8.out i hi
      have s9 : QS (12 * i + 2) (sumF (farF l o) i) := HS9.out i hi
      have S7 := hid s7
      have S8 := hid s8
      have S9 := hid s9
      have e7 : sumF (offF l) (i + 1) = sumF (offF l) i + offF l i := rfl
      have e8 : sumF (nearF l) (i + 1) = sumF (nearF l) i + offF l i * offF l i := rfl
      have e9 : sumF (farF l o) (i + 1) = sumF (farF l o) i + offO l o i * offO l o i := rfl
      have E7 := hid e7
      have E8 := hid e8
      have E9 := hid e9
      obtain ⟨f1, hf1⟩ : ∃ z, Fi.num = z := ⟨_, rfl⟩
      obtain ⟨f2, hf2⟩ : ∃ z, (Fi.den : Int) = z := ⟨_, rfl⟩
      have RVQ := hid (fun w => rvalidQ_any Fi hFf w)
      have ROF := hid (fun w => ofQ_any Fi hFf w)
      unfold frQ at RVQ ROF
      rw [hf1] at x1 RVQ ROF
      rw [hf2] at x2 RVQ ROF
      have hsr : B ≤ wr.heap.size := by rw [← HBE.out]; exact hbel.size
      obtain ⟨Mo, hMo⟩ : ∃ z, mostT o i = z := ⟨_, rfl⟩
      rw [hMo] at HMO1 ⊢
      clear hX hFf hri hof hoo hmo1 hmb sX sF sOff sM sOO s7 s8 s9 e7 e8 e9 hf1 hf2 hXe hFe hMo
      go_wp2_with fail
      go_cut [43, 72] from 43 to 125 (fun z t wx => z = .int .i64 (i : Int) ∧ t = .bool false ∧ Below wr.heap.size wr wx)
      case first =>
        have hd := (Below.refl wr.heap.size wr).drew
        have z0 := fun y : SubT (Below wr.heap.size) wr.drew => ((hd.trans y.b).cell (p := ⟨bf, of + i * 2, none⟩) (show bf < _ by omega)).trans x1
        have z1 := fun y : SubT (Below wr.heap.size) wr.drew => ((hd.trans y.b).cell (p := ⟨bf, of + i * 2 + 1, none⟩) (show bf < _ by omega)).trans x2
        by_cases hi0 : i = 0
        case pos =>
          have hi3 : ¬ 0 < i := by omega
          clear hi0
          refine wp_walkJ (T := Below (wr.heap.size)) (belowV_pre _) (.rd 0 (.rd 1 (.rd 2 (.rd 3 (.bt 4 (.rd 5 (.rd 6 (.rd 7 (.rd 8 (.rd 9 (.rd 10 (.rd 11 (.rd 12 (.rd 13 (.rd 14 (.rd 16 (.rd 17 (.rd 18 (.rd 19 (.mv 15 (.bt 20 (.bt 21 (.rd 22 (.rd 23 (.rd 24 (.inv [])))))))))))))))))))))))))) (by kernel_rfl) rfl (by kernel_rfl) (by kernel_rfl) ?_
          iterate 4 (refine walkJ_rd rfl (fun K hK => ?_); go_simp; refine hK _ ?_; clear hK K)
          clear z0 z1
          (refine walkJ_bt rfl (fun K hK => ?_); go_simp; refine (RVQ.out _).mono ?_; rintro e w3 ⟨rfl, hb3⟩; refine ⟨_, rfl, hK _ _ ?_⟩; clear hK K)
          iterate 14 (refine walkJ_rd rfl (fun K hK => ?_); go_simp; refine hK _ ?_; clear hK K)
          (refine walkJ_sk rfl (fun K hK => ?_); go_simp; refine hK _ ?_; clear hK K)
          (refine walkJ_bs rfl (fun K hK => ?_); go_simp; refine hK _ ?_; clear hK K)
          (refine walkJ_bs rfl (fun K hK => ?_); go_simp; refine hK _ ?_; clear hK K)
          iterate 3 (refine walkJ_rd rfl (fun K hK => ?_); go_simp; refine hK _ ?_; clear hK K)
          refine walkJ_nil ?_
          go_wp2_with fail
          go_meet
          exact ⟨rfl, rfl, hd.trans (hb3.mono hd.size)⟩
        case neg =>
          obtain ⟨I, rfl⟩ : ∃ I, i = I + 1 := ⟨i - 1, by omega⟩
          have hi3 : 0 < I + 1 := by omega
          have hIn : I < n := by omega
          have hIn2 : (I : Int) < (n : Int) := by omega
          have hI0 : 0 ≤ (I : Int) := by omega
          have hI1 : 0 ≤ (I : Int) + 1 := by omega
          have hI2 : (I : Int) + 1 < (n : Int) := by omega
          have wI : IntKind.i64.wrap (I : Int) = (I : Int) := by rw [IntWalk.i64_left]; unfold wrap64; omega
          obtain ⟨bf', of', he', hbf', x3, x4⟩ := HFX.out I hIn
          obtain ⟨rfl, rfl⟩ : bf = bf' ∧ of = of' := by simpa using he'
          have hFg := HFF.out I hIn
          have hle := HFR.out I hin
          rw [HFE.out] at hle
          obtain ⟨Gi, hGe⟩ : ∃ X, F.getD I 0 = X := ⟨_, rfl⟩
          rw [hGe] at x3 x4 hFg hle
          have ROG := hid (fun w => ofQ_any Gi hFg w)
          unfold frQ at ROG
          obtain ⟨g1, hg1⟩ : ∃ z, Gi.num = z := ⟨_, rfl⟩
          obtain ⟨g2, hg2⟩ : ∃ z, (Gi.den : Int) = z := ⟨_, rfl⟩
          rw [hg1] at x3 ROG
          rw [hg2] at x4 ROG
          have so := sgn_order hle
          have sG := (fits_two hFg).mono (k' := 268435456) (by decide)
          have sH := SF.out.mono (k' := 268435456) (by decide)
          obtain ⟨zo, hzo⟩ : ∃ z, sgnQ (Gi - Fi) = z := ⟨_, rfl⟩
          have OR := hid (fun u v w h1 h2 => Order_any Gi Fi u v w h1 h2 sG sH)
          rw [hzo] at OR so
          replace x3 := (hbel.cell (p := ⟨bf, of + I * 2, none⟩) hbf').trans x3
          replace x4 := (hbel.cell (p := ⟨bf, of + I * 2 + 1, none⟩) hbf').trans x4
          have hzo2 : ¬ 0 < zo := by omega
          clear hi0 he' hGe hg1 hg2 hle hzo hFg sG sH
          refine wp_walkJ (T := Below (wr.heap.size)) (belowV_pre _) (.rd 0 (.rd 1 (.rd 2 (.rd 3 (.bt 4 (.rd 5 (.rd 6 (.rd 7 (.rd 8 (.rd 9 (.rd 10 (.rd 11 (.rd 12 (.rd 13 (.rd 14 (.rd 16 (.rd 17 (.rd 18 (.rd 19 (.mv 15 (.bt 20 (.bt 21 (.rd 22 (.rd 23 (.rd 24 (.inv [])))))))))))))))))))))))))) (by kernel_rfl) rfl (by kernel_rfl) (by kernel_rfl) ?_
          iterate 4 (refine walkJ_rd rfl (fun K hK => ?_); go_simp; refine hK _ ?_; clear hK K)
          clear z0 z1
          (refine walkJ_bt rfl (fun K hK => ?_); go_simp; refine (RVQ.out _).mono ?_; rintro e w3 ⟨rfl, hb3⟩; refine ⟨_, rfl, hK _ _ ?_⟩; clear hK K)
          have hd3 := hd.trans (hb3.mono hd.size)
          have z0 := fun y : SubT (Below wr.heap.size) w3 => ((hd3.trans y.b).cell (p := ⟨bf, of + (I + 1) * 2, none⟩) (show bf < _ by omega)).trans x1
          have z1 := fun y : SubT (Below wr.heap.size) w3 => ((hd3.trans y.b).cell (p := ⟨bf, of + (I + 1) * 2 + 1, none⟩) (show bf < _ by omega)).trans x2
          have z2 := fun y : SubT (Below wr.heap.size) w3 => ((hd3.trans y.b).cell (p := ⟨bf, of + I * 2, none⟩) (show bf < _ by omega)).trans x3
          have z3 := fun y : SubT (Below wr.heap.size) w3 => ((hd3.trans y.b).cell (p := ⟨bf, of + I * 2 + 1, none⟩) (show bf < _ by omega)).trans x4
          iterate 14 (refine walkJ_rd rfl (fun K hK => ?_); go_simp; refine hK _ ?_; clear hK K)
          clear z0 z1 z2 z3
          (refine walkJ_mv rfl (fun K hK => ?_); go_simp; refine (ROG.out _).mono ?_; rintro e w4 ⟨vG, rfl, hqG, hb4⟩; refine ⟨_, rfl, hK _ _ (hb4.mono hd3.size) ?_⟩; clear hK K)
          have hd4 := hd3.trans (hb4.mono hd3.size)
          (refine walkJ_bt rfl (fun K hK => ?_); go_simp; refine (ROF.out _).mono ?_; rintro e w5 ⟨vF, rfl, hqF, hb5⟩; refine ⟨_, rfl, hK _ _ ?_⟩; clear hK K)
          have hd5 := hd4.trans (hb5.mono hd4.size)
          replace hqG := (hqG.below hb5).mono (Nat.zero_le _)
          replace hqF := hqF.mono (Nat.zero_le _)
          (refine walkJ_bt rfl (fun K hK => ?_); go_simp; refine (OR.out _ _ _ hqG hqF).mono ?_; rintro e w6 ⟨rfl, hb6⟩; refine ⟨_, rfl, hK _ _ ?_⟩; clear hK K)
          iterate 3 (refine walkJ_rd rfl (fun K hK => ?_); go_simp; refine hK _ ?_; clear hK K)
          refine walkJ_nil ?_
          go_wp2_with fail
          go_meet
          exact ⟨rfl, rfl, hd5.trans (hb6.mono hd5.size)⟩
      case rest =>
        obtain ⟨rfl, rfl, hb3⟩ := hcut
        obtain ⟨w3, rfl⟩ : ∃ W, W = wc := ⟨_, rfl⟩
        replace x0 := (hb3.cell (p := ⟨bl, ol + i, none⟩) (show bl < _ by omega)).trans x0
        replace x1 := (hb3.cell (p := ⟨bf, of + i * 2, none⟩) (show bf < _ by omega)).trans x1
        replace x2 := (hb3.cell (p := ⟨bf, of + i * 2 + 1, none⟩) (show bf < _ by omega)).trans x2
        have Q73 := hid (Q7.out.below hb3)
        have Q83 := hid (Q8.out.below hb3)
        have Q93 := hid (Q9.out.below hb3)
        have hbel3 := hbel.trans (hb3.mono hsr)
        clear Q7 Q8 Q9 hbel hb3 RVQ HFE
        go_upto_region 13 with fail
        go_cut [43, 10] from 43 to 125 (fun z y wx => z = .int .i64 (i : Int) ∧ y = .bool (riseB l (i + 1)) ∧ w3 = wx)
        case first =>
          cases hr : riseB l i with
          | false =>
            have hrn : riseB l (i + 1) = false := by rw [HRI.out, hr]; rfl
            have HRN := hid hrn
            clear hr hrn
            go_wp2_with fail
            go_meet
            exact ⟨rfl, by rw [HRN.out], rfl⟩
          | true =>
            by_cases hi0 : i = 0
            case pos =>
              have hrn : riseB l (i + 1) = true := by rw [HRI.out, hr, decide_eq_true hi0]; rfl
              have HRN := hid hrn
              have hi4 : (i : Int) = 0 := by omega
              clear hr hrn hi0
              go_wp2_with fail
              go_meet
              exact ⟨by first | rfl | rw [hi4], by rw [HRN.out], rfl⟩
            case neg =>
              obtain ⟨I, rfl⟩ : ∃ I, i = I + 1 := ⟨i - 1, by omega⟩
              have hIn : I < n := by omega
              have hIn2 : (I : Int) < (n : Int) := by omega
              have hI0 : 0 ≤ (I : Int) := by omega
              have hI1 : 0 ≤ (I : Int) + 1 := by omega
              have hI2 : (I : Int) + 1 < (n : Int) := by omega
              have hne : ((I : Int) + 1 == 0) = false := by simp; omega
              have wI : IntKind.i64.wrap (I : Int) = (I : Int) := by rw [IntWalk.i64_left]; unfold wrap64; omega
              obtain ⟨bl', ol', he', hbl', x3⟩ := HLX.out I hIn
              obtain ⟨rfl, rfl⟩ : bl = bl' ∧ ol = ol' := by simpa using he'
              replace x3 := (hbel3.cell (p := ⟨bl, ol + I, none⟩) hbl').trans x3
              have hrn := HRI.out
              rw [hr, decide_eq_false hi0, Nat.add_sub_cancel] at hrn
              obtain ⟨Y, hY⟩ : ∃ z, l.getD I 0 = z := ⟨_, rfl⟩
              rw [hY] at x3 hrn
              by_cases hYX : Y ≤ X
              case pos =>
                rw [decide_eq_true hYX] at hrn
                have HRN : Hid (riseB l (I + 1 + 1) = true) := hid hrn
                clear hr hrn hi0 he' hY
                go_wp2_with fail
                go_meet
                exact ⟨rfl, by rw [HRN.out], rfl⟩
              case neg =>
                rw [decide_eq_false hYX] at hrn
                have HRN : Hid (riseB l (I + 1 + 1) = false) := hid hrn
                clear hr hrn hi0 he' hY
                go_wp2_with fail
                go_meet
                exact ⟨rfl, by rw [HRN.out], rfl⟩
        case rest =>
          obtain ⟨rfl, rfl, hwc⟩ := hcut
          subst hwc
          obtain ⟨rb, hrb⟩ : ∃ z, riseB l (i + 1) = z := ⟨_, rfl⟩
          have HR1 := hid hrb
          rw [hrb]
          clear hrb HRI
          have y0 := x1
          have y1 := x2
          go_wp2_with fail
          refine (ROF.out _).mono ?_
          rintro e w4 ⟨vF, rfl, hqF, hb4⟩
          go_wp2_with fail
          refine (Int_any X _ (by have := HX.out; omega) (by have := HX.out; omega)).mono ?_
          rintro e w5 ⟨vX, rfl, hqX, hb5⟩
          replace hqF := (hqF.below hb5).mono (Nat.zero_le _)
          replace hb5 := hb4.trans (hb5.mono hb4.size)
          clear hb4 y0 y1
          go_wp2_with fail
          refine (Less_any Fi ((X : Int) : Rat) vF vX _ hqF (hqX.mono (Nat.zero_le _)) (SF.out.mono (by decide)) (SX.out.mono (by decide))).mono ?_
          rintro e w6 ⟨vL, rfl, hqL, hb6⟩
          replace hb6 := hb5.trans (hb6.mono hb5.size)
          replace hqL := hqL.mono (Nat.zero_le _)
          rw [← HOF.out] at hqL
          obtain ⟨t1, t2, t3, t4, t5, t6, hvL⟩ := q_shape hqL
          generalize decide ((offF l i).num < 0) = tb at hvL
          subst hvL
          have bG := alloc_below w6 (.cells #[.bool tb, .slice t1 t2 t3, .slice t4 t5 t6] 43)
          have R14 := RBox.fresh hqL rfl rfl
          have hb7 := hb6.trans (bG.mono hb6.size)
          have Q75 := hid (Q73.out.below hb7)
          have Q85 := hid (Q83.out.below hb7)
          have hs3 : B ≤ w3.heap.size := by rw [← HBE.out]; exact hbel3.size
          have hlt9 := Q93.out.lt
          have Q95 := hid (Q93.out.below hb7)
          have hbel5 := hid (hbel3.trans (hb7.mono hs3))
          have hGs := hb6.size
          clear hqF hqX hqL hb5 x1 x2 Q73 Q83 Q93 ROF
          go_wp2_with fail
          obtain ⟨W7, hW7⟩ : ∃ W, w6.alloc (.cells #[.bool tb, .slice t1 t2 t3, .slice t4 t5 t6] 43) = W := ⟨_, rfl⟩
          obtain ⟨G, hG⟩ : ∃ G, w6.heap.size = G := ⟨_, rfl⟩
          rw [hW7] at R14 Q75 Q85 Q95 hbel5 hb7 ⊢
          rw [hG] at R14 hGs ⊢
          have hBG : B + 1 + 1 < G := by omega
          clear hW7 hG bG hb6 hbel3 hlt9 hGs hs3 hb7
          have hs5 : B ≤ W7.heap.size := by rw [← HBE.out]; exact hbel5.out.size
          obtain ⟨b7, e1', e2', e3', e4', e5', e6', R7⟩ := Q75.out
          obtain ⟨b8, h1', h2', h3', h4', h5', h6', R8⟩ := Q85.out
          have hd5 := (Below.refl W7.heap.size W7).drew
          have z0 := fun y : SubT (Below W7.heap.size) W7.drew => (R7.k.below (hd5.trans y.b)).look 0 rfl
          have z1 := fun y : SubT (Below W7.heap.size) W7.drew => (R7.k.below (hd5.trans y.b)).look 1 rfl
          have z2 := fun y : SubT (Below W7.heap.size) W7.drew => (R7.k.below (hd5.trans y.b)).look 2 rfl
          have z3 := fun y : SubT (Below W7.heap.size) W7.drew => (R14.k.below (hd5.trans y.b)).look 0 rfl
          have z4 := fun y : SubT (Below W7.heap.size) W7.drew => (R14.k.below (hd5.trans y.b)).look 1 rfl
          have z5 := fun y : SubT (Below W7.heap.size) W7.drew => (R14.k.below (hd5.trans y.b)).look 2 rfl
          have z6 := fun y : SubT (Below W7.heap.size) W7.drew => (R8.k.below (hd5.trans y.b)).look 0 rfl
          have z7 := fun y : SubT (Below W7.heap.size) W7.drew => (R8.k.below (hd5.trans y.b)).look 1 rfl
          have z8 := fun y : SubT (Below W7.heap.size) W7.drew => (R8.k.below (hd5.trans y.b)).look 2 rfl
          refine wp_walkJ (T := Below (W7.heap.size)) (belowV_pre _) (.rd 0 (.rd 1 (.rd 3 (.rd 4 (.rd 5 (.mv 2 (.mv 6 (.bt 7 (.bt 8 (.bt 9 (.inv []))))))))))) (by kernel_rfl) rfl (by kernel_rfl) (by kernel_rfl) ?_
          iterate 5 (refine walkJ_rd rfl (fun K hK => ?_); go_simp; refine hK _ ?_; clear hK K)
          clear z0 z1 z2 z3 z4 z5 z6 z7 z8
          have so := SOFF.out
          (refine walkJ_mv rfl (fun K hK => ?_); go_simp; refine (Plus_any _ _ _ _ _ (R7.qf.below hd5) (R14.qf.below hd5) (S7.out.mono (by omega)) (so.mono (by decide))).mono ?_; rintro e w8 ⟨vA, rfl, hqA, hb8⟩; refine ⟨_, rfl, hK _ _ hb8 ?_⟩; clear hK K)
          have hb8' := hd5.trans hb8
          (refine walkJ_mv rfl (fun K hK => ?_); go_simp; refine (Times_any _ _ _ _ _ (R14.qf.below hb8') (R14.qf.below hb8') (so.mono (by decide)) (so.mono (by decide))).mono ?_; rintro e w9 ⟨vT, rfl, hqT, hb9⟩; refine ⟨_, rfl, hK _ _ (hb9.mono hb8'.size) ?_⟩; clear hK K)
          have hb9' := hb8'.trans (hb9.mono hb8'.size)
          replace hqA := hqA.below hb9
          (refine walkJ_bt rfl (fun K hK => ?_); go_simp; refine (Plus_any _ _ _ _ _ (R8.qf.below hb9') (hqT.mono (Nat.zero_le _)) (S8.out.mono (by omega)) ((QS_mul so so).mono (by decide))).mono ?_; rintro e w10 ⟨vP, rfl, hqP, hb10⟩; refine ⟨_, rfl, hK _ _ ?_⟩; clear hK K)
          have hb10' := hb9'.trans (hb10.mono hb9'.size)
          replace hqA := (hqA.below hb10).mono (Nat.zero_le _)
          replace hqP := hqP.mono (Nat.zero_le _)
          rw [← E7.out] at hqA
          rw [← E8.out] at hqP
          obtain ⟨j1, j2, j3, j4, j5, j6, hvA⟩ := q_shape hqA
          obtain ⟨k1, k2, k3, k4, k5, k6, hvP⟩ := q_shape hqP
          generalize decide ((sumF (offF l) (i + 1)).num < 0) = bA' at hvA
          generalize decide ((sumF (nearF l) (i + 1)).num < 0) = bP' at hvP
          subst hvA
          subst hvP
          have R7c := R7.below hb10'
          have R8c := R8.below hb10'
          have q0 := R7c.k.look 0 rfl
          have q1 := R7c.k.look 1 rfl
          have q2 := R7c.k.look 2 rfl
          have f3 := R7c.k.frozen
          have R7d := R7c.put hqA
          have R8d := R8c.keep (b' := bA') (y1 := j1) (y2 := j4) (n1 := j2) (e1 := j3) (n2 := j5) (e2 := j6) R7c.k (by omega)
          have hqPd := (q_keep3 (b' := bA') (y1 := j1) (y2 := j4) (n1 := j2) (e1 := j3) (n2 := j5) (e2 := j6) hqP R7c.k)
          have Q9d := (Q95.out.below hb10').keep (b' := bA') (y1 := j1) (y2 := j4) (n1 := j2) (e1 := j3) (n2 := j5) (e2 := j6) R7c.k (by omega)
          have R14d := (R14.below hb10').keep (b' := bA') (y1 := j1) (y2 := j4) (n1 := j2) (e1 := j3) (n2 := j5) (e2 := j6) R7c.k (by omega)
          have hbeld := Below.set3 (hbel5.out.trans (hb10'.mono hs5)) (Nat.le_refl B) (.bool bA') (.slice j1 j2 j3) (.slice j4 j5 j6)
          have HHd := hid (And.intro R7d (And.intro R8d (And.intro hqPd (And.intro Q9d (And.intro R14d hbeld)))))
          clear R7d R8d hqPd Q9d R14d hbeld
          clear hqA hqT hqP hb8 hb8' hb9 hb9' hb10 R7 R8 R7c R8c R14 Q75 Q85 Q95 hbel5 so
          (refine walkJ_bt rfl (fun K hK => ?_); go_simp; refine hK _ _ ?_; clear hK K)
          obtain ⟨WB, hWB⟩ : ∃ W, ((w10.setCell ⟨B, 0, none⟩ (.bool bA')).setCell ⟨B, 1, none⟩ (.slice j1 j2 j3)).setCell ⟨B, 2, none⟩ (.slice j4 j5 j6) = W := ⟨_, rfl⟩
          rw [hWB] at HHd ⊢
          obtain ⟨R7d, R8d, hqPd, Q9d, R14d, hbeld⟩ := HHd.out
          clear hWB HHd q0 q1 q2 f3 hb10' hs5 hd5
          have q0 := R8d.k.look 0 rfl
          have q1 := R8d.k.look 1 rfl
          have q2 := R8d.k.look 2 rfl
          have f3 := R8d.k.frozen
          have Q8e := hid (R8d.put hqPd).q
          have Q7e := hid (R7d.q.keep (b' := bP') (y1 := k1) (y2 := k4) (n1 := k2) (e1 := k3) (n2 := k5) (e2 := k6) R8d.k (by omega))
          have Q9e := hid (Q9d.keep (b' := bP') (y1 := k1) (y2 := k4) (n1 := k2) (e1 := k3) (n2 := k5) (e2 := k6) R8d.k (by omega))
          have Q14e := hid (R14d.q.keep (b' := bP') (y1 := k1) (y2 := k4) (n1 := k2) (e1 := k3) (n2 := k5) (e2 := k6) R8d.k (by omega))
          have hbele := hid (Below.set3 hbeld (show B ≤ B + 1 by omega) (.bool bP') (.slice k1 k2 k3) (.slice k4 k5 k6))
          clear R7d R8d hqPd Q9d R14d hbeld
          (refine walkJ_bt rfl (fun K hK => ?_); go_simp; refine hK _ _ ?_; clear hK K)
          refine walkJ_nil ?_
          obtain ⟨w7, hw7⟩ : ∃ W, ((WB.setCell ⟨B + 1, 0, none⟩ (.bool bP')).setCell ⟨B + 1, 1, none⟩ (.slice k1 k2 k3)).setCell ⟨B + 1, 2, none⟩ (.slice k4 k5 k6) = W := ⟨_, rfl⟩
          rw [hw7] at Q7e Q8e Q9e Q14e hbele ⊢
          clear hw7 q0 q1 q2 f3
          have Q77 := Q7e
          have Q87 := Q8e
          have Q97 := Q9e
          have Q147 := Q14e
          have hbel7 := hbele.out
          have hs7 : B ≤ w7.heap.size := by rw [← HBE.out]; exact hbel7.size
          clear Q7e Q8e Q9e Q14e hbele
          go_upto_if 106 with fail
          go_cut [43, 11] from 43 to 125 (fun z y wx => z = .int .i64 (i : Int) ∧ y = .int .i64 (mostT o (i + 1)) ∧ w7 = wx)
          case first =>
            by_cases him : i < m
            case pos =>
              have him2 : (i : Int) < (m : Int) := by omega
              obtain ⟨bo, oo, rfl, hbo, x6⟩ := HOX.out i him
              replace x6 := (hbel7.cell (p := ⟨bo, oo + i, none⟩) hbo).trans x6
              have hmn := HMO1.out
              rw [if_pos him] at hmn
              obtain ⟨O, hO⟩ : ∃ z, o.getD i 0 = z := ⟨_, rfl⟩
              rw [hO] at x6 hmn
              obtain ⟨O1, hO1⟩ : ∃ z, max O 0 = z := ⟨_, rfl⟩
              rw [hO1] at hmn
              obtain ⟨O2, hO2⟩ : ∃ z, min O1 2000000 = z := ⟨_, rfl⟩
              rw [hO2] at hmn
              obtain ⟨Mn, hO3⟩ : ∃ z, max Mo O2 = z := ⟨_, rfl⟩
              rw [hO3] at hmn
              have hm1 := fun ats ty => run_max ats ty hO1
              have hm2 := fun ats ty => run_min ats ty hO2
              have hm3 := fun ats ty => run_max ats ty hO3
              have HMN := hid hmn
              clear hO hmn him hO1 hO2 hO3
              go_wp2_with fail
              go_meet
              exact ⟨rfl, by rw [HMN.out], rfl⟩
            case neg =>
              have him2 : ¬ (i : Int) < (m : Int) := by omega
              have hmn := HMO1.out
              rw [if_neg him] at hmn
              have HMN := hid hmn
              clear hmn him
              go_wp2_with fail
              go_meet
              exact ⟨rfl, by rw [HMN.out], rfl⟩
          case rest =>
            obtain ⟨rfl, rfl, hwc⟩ := hcut
            subst hwc
            have HMN0 := hid (rfl : mostT o (i + 1) = mostT o (i + 1))
            obtain ⟨Mn, hMn⟩ : ∃ z, mostT o (i + 1) = z := ⟨_, rfl⟩
            rw [hMn] at HMB SM HOO ⊢
            have HMN := hid hMn
            clear hMn HMO1 HMN0
            go_wp2_with fail
            refine (Int_any Mn _ (by have := HMB.out; omega) (by have := HMB.out; omega)).mono ?_
            rintro e w8 ⟨vM, rfl, hqM, hb8⟩
            replace hb8 : Below w7.heap.size w7 w8 := hb8
            go_wp2_with fail
            refine (Int_any X _ (by have := HX.out; omega) (by have := HX.out; omega)).mono ?_
            rintro e w9 ⟨vX, rfl, hqX, hb9⟩
            replace hqM := (hqM.below hb9).mono (Nat.zero_le _)
            replace hb9 := hb8.trans (hb9.mono hb8.size)
            clear hb8
            go_wp2_with fail
            refine (Less_any ((Mn : Int) : Rat) ((X : Int) : Rat) vM vX _ hqM (hqX.mono (Nat.zero_le _)) (SM.out.mono (by decide)) (SX.out.mono (by decide))).mono ?_
            rintro e w10 ⟨vL, rfl, hqL, hb10⟩
            replace hb10 := hb9.trans (hb10.mono hb9.size)
            replace hqL := hqL.mono (Nat.zero_le _)
            obtain ⟨y1, g1, c1, y2, g2, c2, hvL⟩ := q_shape hqL
            generalize decide ((((Mn : Int) : Rat) - ((X : Int) : Rat)).num < 0) = bL at hvL
            subst hvL
            have Q7a := Q77.out.below hb10
            have Q8a := Q87.out.below hb10
            have Q9a := Q97.out.below hb10
            obtain ⟨bq, x1', g3, c3, x2', g4, c4, R14⟩ := Q147.out.below hb10
            have hbel10 := hbel7.trans (hb10.mono hs7)
            have q0 := R14.k.look 0 rfl
            have q1 := R14.k.look 1 rfl
            have q2 := R14.k.look 2 rfl
            have f3 := R14.k.frozen
            have R14' := R14.put hqL
            have Q7b := hid (Q7a.keep (b' := bL) (y1 := y1) (y2 := y2) (n1 := g1) (e1 := c1) (n2 := g2) (e2 := c2) R14.k (by omega))
            have Q8b := hid (Q8a.keep (b' := bL) (y1 := y1) (y2 := y2) (n1 := g1) (e1 := c1) (n2 := g2) (e2 := c2) R14.k (by omega))
            have Q9b := hid (Q9a.keep (b' := bL) (y1 := y1) (y2 := y2) (n1 := g1) (e1 := c1) (n2 := g2) (e2 := c2) R14.k (by omega))
            have hbelb := hid (Below.set3 hbel10 (show B ≤ G by omega) (.bool bL) (.slice y1 g1 c1) (.slice y2 g2 c2))
            have R14b := hid R14'
            clear hqM hqX hqL hb9 hb10 Q7a Q8a Q9a R14 R14' Q77 Q87 Q97 Q147 hbel7 hbel10 hs7 SX
            go_wp2_with fail
            obtain ⟨w11, hw11⟩ : ∃ W, ((w10.setCell ⟨G, 0, none⟩ (.bool bL)).setCell ⟨G, 1, none⟩ (.slice y1 g1 c1)).setCell ⟨G, 2, none⟩ (.slice y2 g2 c2) = W := ⟨_, rfl⟩
            rw [hw11] at Q7b Q8b Q9b hbelb R14b ⊢
            clear hw11 q0 q1 q2 f3
            have hs11 : B ≤ w11.heap.size := by rw [← HBE.out]; exact hbelb.out.size
            obtain ⟨b9, p1, p2, p3, p4, p5, p6, R9⟩ := Q9b.out
            have hd11 := (Below.refl w11.heap.size w11).drew
            have z0 := fun y : SubT (Below w11.heap.size) w11.drew => (R9.k.below (hd11.trans y.b)).look 0 rfl
            have z1 := fun y : SubT (Below w11.heap.size) w11.drew => (R9.k.below (hd11.trans y.b)).look 1 rfl
            have z2 := fun y : SubT (Below w11.heap.size) w11.drew => (R9.k.below (hd11.trans y.b)).look 2 rfl
            have z3 := fun y : SubT (Below w11.heap.size) w11.drew => (R14b.out.k.below (hd11.trans y.b)).look 0 rfl
            have z4 := fun y : SubT (Below w11.heap.size) w11.drew => (R14b.out.k.below (hd11.trans y.b)).look 1 rfl
            have z5 := fun y : SubT (Below w11.heap.size) w11.drew => (R14b.out.k.below (hd11.trans y.b)).look 2 rfl
            have soo : QS 5 (((Mn : Int) : Rat) - ((X : Int) : Rat)) := by rw [← HOO.out]; exact SOO.out
            refine wp_walkJ (T := Below (w11.heap.size)) (belowV_pre _) (.rd 0 (.rd 1 (.rd 2 (.mv 3 (.bt 4 (.bt 5 (.inv []))))))) (by kernel_rfl) rfl (by kernel_rfl) (by kernel_rfl) ?_
            iterate 3 (refine walkJ_rd rfl (fun K hK => ?_); go_simp; refine hK _ ?_; clear hK K)
            clear z0 z1 z2 z3 z4 z5
            (refine walkJ_mv rfl (fun K hK => ?_); go_simp; refine (Times_any _ _ _ _ _ (R14b.out.qf.below hd11) (R14b.out.qf.below hd11) (soo.mono (by decide)) (soo.mono (by decide))).mono ?_; rintro e w12 ⟨vT, rfl, hqT, hb12⟩; refine ⟨_, rfl, hK _ _ hb12 ?_⟩; clear hK K)
            have hb12' := hd11.trans hb12
            (refine walkJ_bt rfl (fun K hK => ?_); go_simp; refine (Plus_any _ _ _ _ _ (R9.qf.below hb12') (hqT.mono (Nat.zero_le _)) (S9.out.mono (by omega)) ((QS_mul soo soo).mono (by decide))).mono ?_; rintro e w13 ⟨vP, rfl, hqP, hb13⟩; refine ⟨_, rfl, hK _ _ ?_⟩; clear hK K)
            have hb13' := hb12'.trans (hb13.mono hb12'.size)
            replace hqP := hqP.mono (Nat.zero_le _)
            rw [← HOO.out, ← E9.out] at hqP
            obtain ⟨y3, g5, c5, y4, g6, c6, hvP⟩ := q_shape hqP
            generalize decide ((sumF (farF l o) (i + 1)).num < 0) = bP at hvP
            subst hvP
            have R9c := R9.below hb13'
            have q0 := R9c.k.look 0 rfl
            have q1 := R9c.k.look 1 rfl
            have q2 := R9c.k.look 2 rfl
            have f3 := R9c.k.frozen
            have Q7c := hid ((Q7b.out.below hb13').keep (b' := bP) (y1 := y3) (y2 := y4) (n1 := g5) (e1 := c5) (n2 := g6) (e2 := c6) R9c.k (by omega))
            have Q8c := hid ((Q8b.out.below hb13').keep (b' := bP) (y1 := y3) (y2 := y4) (n1 := g5) (e1 := c5) (n2 := g6) (e2 := c6) R9c.k (by omega))
            have Q9c := hid ((R9c.put hqP).q)
            have hbelc := hid (Below.set3 (hbelb.out.trans (hb13'.mono hs11)) (show B ≤ B + 1 + 1 by omega) (.bool bP) (.slice y3 g5 c5) (.slice y4 g6 c6))
            clear hqT hqP hb12 hb12' hb13 hb13' R9 R9c Q7b Q8b Q9b R14b hbelb hs11 hd11 soo
            (refine walkJ_bt rfl (fun K hK => ?_); go_simp; refine hK _ _ ?_; clear hK K)
            refine walkJ_nil ?_
            go_wp2
            go_roundw
            case rel => exact ⟨i + 1, by go_num, by omega, by rw [HR1.out], by rw [HMN.out], Q7c, Q8c, Q9c, hbelc.out⟩
            case measure => simp [intOf] <;> omega
    case neg =>
      obtain rfl : n = i := by omega
      have hi2 : ¬ (n : Int) < (n : Int) := by omega
      obtain ⟨p1, p2, p3⟩ := HPLN.out
      obtain ⟨b7, e1', e2', e3', e4', e5', e6', R7⟩ := Q7.out
      obtain ⟨b8, h1', h2', h3', h4', h5', h6', R8⟩ := Q8.out
      obtain ⟨b9, l1', l2', l3', l4', l5', l6', R9⟩ := Q9.out
      have so := sgn_order p2
      obtain ⟨zo, hzo⟩ : ∃ z, sgnQ (sumF (nearF l) n - sumF (farF l o) n) = z := ⟨_, rfl⟩
      rw [hzo] at so
      have s8 := (HS8.out n (Nat.le_refl _)).mono (k' := 268435456) (by omega)
      have s9 := (HS9.out n (Nat.le_refl _)).mono (k' := 268435456) (by omega)
      have SG := hid (fun v w h => Sign_any (sumF (offF l) n) v w h)
      have SN := hid (fun v w h => Sign_any (sumF (nearF l) n) v w h)
      have OR := hid (fun u v w h1 h2 => Order_any (sumF (nearF l) n) (sumF (farF l o) n) u v w h1 h2 s8 s9)
      rw [hzo] at OR
      have z7 : sgnQ (sumF (offF l) n) = 0 := by rw [p1]; rfl
      rw [z7] at SG
      have HP3 : Hid (riseB l n = true → sgnQ (sumF (nearF l) n) = 0) := hid (fun h => by rw [p3 h]; rfl)
      obtain ⟨zn, hzn⟩ : ∃ z, sgnQ (sumF (nearF l) n) = z := ⟨_, rfl⟩
      rw [hzn] at SN HP3
      have y0 := R7.k.look 0 rfl
      have y1 := R7.k.look 1 rfl
      have y2 := R7.k.look 2 rfl
      clear hzo hzn z7 p1 p2 p3 s8 s9 Q7 Q8 Q9
      go_wp2_with fail
      refine (SG.out _ _ R7.qf).mono ?_
      rintro r w2 ⟨rfl, hb2⟩
      have R82 := R8.below hb2
      have R92 := R9.below hb2
      have hb2' := hbel.trans (hb2.mono (by rw [← HBE.out]; exact hbel.size))
      have y3 := R82.k.look 0 rfl
      have y4 := R82.k.look 1 rfl
      have y5 := R82.k.look 2 rfl
      have y6 := R92.k.look 0 rfl
      have y7 := R92.k.look 1 rfl
      have y8 := R92.k.look 2 rfl
      clear hb2 R7 R8 R9 hbel y0 y1 y2
      go_wp2_with fail
      refine (OR.out _ _ _ R82.qf R92.qf).mono ?_
      rintro r w3 ⟨rfl, hb3⟩
      have R83 := R82.below hb3
      have hb3' := hb2'.trans (hb3.mono (by rw [← HBE.out]; exact hb2'.size))
      have hz3 := HZU.out.below (by rw [HBE.out]; exact hb3')
      have hW3 := HBU.out.trans ((show Below u3.heap.size u3 w3 by rw [HBE.out]; exact hb3').mono HBU.out.size)
      have y0 := R83.k.look 0 rfl
      have y1 := R83.k.look 1 rfl
      have y2 := R83.k.look 2 rfl
      clear hb3 R82 R92 hb2' y3 y4 y5 y6 y7 y8 OR SG
      have hzo2 : ¬ 0 < zo := by omega
      cases hr : riseB l n with
      | true =>
        have hzn : zn = 0 := HP3.out hr
        subst hzn
        clear hr
        go_wp2_with fail
        refine (SN.out _ _ R83.qf).mono ?_
        rintro r w4 ⟨rfl, hb4⟩
        have hz4 := hz3.below hb4
        have hW4 := hW3.trans (hb4.mono hW3.size)
        clear hb4 y0 y1 y2
        go_wp2_with fail
        refine (awake_any _ hz4).mono ?_
        rintro r w5 ⟨rfl, hb5⟩
        have hW5 := hW4.trans (hb5.mono hW4.size)
        clear hb5
        go_wp2
        go_ret
        exact ⟨rfl, hW5⟩
      | false =>
        clear hr
        go_wp2_with fail
        refine (awake_any _ hz3).mono ?_
        rintro r w5 ⟨rfl, hb5⟩
        have hW5 := hW3.trans (hb5.mono hW3.size)
        clear hb5
        go_wp2
        go_ret
        exact ⟨rfl, hW5⟩

end Go.Proofs.YtfkclcoipadhmaaDoor
