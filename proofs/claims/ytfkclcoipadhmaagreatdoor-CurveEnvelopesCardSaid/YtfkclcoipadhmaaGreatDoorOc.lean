/- Arguments of the laws on curves opened; the package's variable zero. -/
import Derived.Test.YtfkclcoipadhmaaGreatDoorRows
import Derived.Test.YtfkclcoipadhmaaGreatDoorDy
import Derived.ProofKit
import Derived.LaidMore
import Derived.OpenShut
import Derived.Stop.Joined
import Derived.Deep.SlicePairs
namespace Go.Proofs.YtfkclcoipadhmaaGreatDoor
open Go.ChangeShapes Go.WideShapes Go.ChangeAt Go.RowKit Go.Deep

section
variable {H : Type} {enc : TypeId × Value → H} {P : Program} {w : World} {spare : Nat → Bool} {held : Bool}

/-- A struct of whole numbers. -/
theorem struct_ints {t : TypeId} {fs : Array Field} {cs : List Value} {x : DataW H × List MemPlace} {fuel N : Nat} (ht : P.underlying t = some (.struct fs)) (hN : P.cellsOf t = N)
    (hf : ∀ i, i < N → ∃ f, fs[i]? = some f ∧ f.offset = i ∧ P.underlying f.type = some (.int .i64) ∧ P.cellsOf f.type = 1) (h : DataW.trod enc P w 0 spare held fuel t cs = some x) :
    cs.length = N ∧ ∀ i, i < N → ∃ z : Int, cs[i]? = some (.int .i64 z) := by
  obtain ⟨xs, n, _, _, hl, _, hk⟩ := DataW.trod_struct ht h
  rw [hN] at hl
  refine ⟨hl, fun i hi => ?_⟩
  obtain ⟨f, h1, h2, h3, h4⟩ := hf i hi
  have hg := hk i f h1
  rw [h2, h4] at hg
  have hlt : i < fs.size := (Array.getElem?_eq_some_iff.1 h1).1
  cases hx : xs[i]? with
  | none => rw [List.getElem?_eq_none_iff] at hx; omega
  | some y =>
    rw [hx] at hg
    obtain ⟨z, hz, _⟩ := DataW.trod_int h3 hg
    refine ⟨z, ?_⟩
    have h5 := congrArg (fun l => l[0]?) hz
    simpa [List.getElem?_take, List.getElem?_drop] using h5

theorem rows_get {α : Type} {f : α → List Value} {N : Nat} (hfN : ∀ a, (f a).length = N) : ∀ (l : List α) (i k : Nat) (a : α), l[i]? = some a → k < N → (l.flatMap f)[i * N + k]? = (f a)[k]?
  | [], i, k, a, h, _ => by simp at h
  | x :: l, 0, k, a, h, hk => by
    obtain rfl : x = a := by simpa using h
    rw [List.flatMap_cons, Nat.zero_mul, Nat.zero_add, List.getElem?_append_left (by rw [hfN]; exact hk)]
  | x :: l, i + 1, k, a, h, hk => by
    rw [List.flatMap_cons, List.getElem?_append_right (by rw [hfN, Nat.succ_mul]; omega), hfN, Nat.succ_mul, show i * N + N + k - N = i * N + k by omega]
    exact rows_get hfN l i k a (by simpa using h) hk
theorem rows_len {α : Type} {f : α → List Value} {N : Nat} (hfN : ∀ a, (f a).length = N) (l : List α) : (l.flatMap f).length = l.length * N := by
  induction l with
  | nil => simp
  | cons x l ih => rw [List.flatMap_cons, List.length_append, hfN, ih, List.length_cons, Nat.succ_mul]; omega

/-- A slice whose elements are of N cells each. -/
theorem open_rows {α : Type} [Inhabited α] {t e : TypeId} {fuel N : Nat} {cs : List Value} {x : DataW H × List MemPlace} (f : α → List Value) (hfN : ∀ a, (f a).length = N) (hN : 0 < N) (ht : P.underlying t = some (.slice e)) (hc : P.cellsOf e = N)
    (hel : ∀ (n : Nat) (cs : List Value) (y : DataW H × List MemPlace), DataW.trod enc P w 0 spare held n e cs = some y → ∃ a, cs = f a) (h : DataW.trod enc P w 0 spare held fuel t cs = some x) :
    ∃ (v : Value) (l : List α), cs = [v] ∧ SlR 0 w v l.length (l.flatMap f) := by
  rcases open_slice ht h with ⟨rfl, _⟩ | ⟨a, len, cap, m, n, D, Pl, rfl, _, hl, hm, hmm, _, hx⟩
  · exact ⟨_, [], rfl, SlR.nil _ _⟩
  have hlm : len ≤ m := by rw [hmm]; split <;> omega
  have each : ∀ i, i < len → ∃ y : α, w.cells? 0 (a.add (i * N)) N = some (f y) := by
    intro i hi
    obtain ⟨cs', h1, h2⟩ := hx i (by omega)
    obtain ⟨y, rfl⟩ := hel _ _ _ h2
    exact ⟨y, by rw [hc] at h1; exact h1⟩
  obtain ⟨A, hA⟩ := choose_lt each
  refine ⟨_, (List.range len).map A, rfl, ?_⟩
  rw [List.length_map, List.length_range]
  refine ⟨_, cap, rfl, hl, hm, fun hne => ?_⟩
  have hlen0 : 0 < len := by
    cases len with
    | zero => exact absurd rfl hne
    | succ k => omega
  have hcell : ∀ i k, i < len → k < N → w.cell? (a.add (i * N + k)) = (f (A i))[k]? := by
    intro i k hi hk
    obtain ⟨_, _, h3⟩ := World.cells?_some (hA i hi)
    rw [← Go.Deep.add_add]
    exact h3 k hk
  obtain ⟨b, off, spot⟩ := a
  have hs0 : (f (A 0))[0]? ≠ none := by
    rw [Ne, List.getElem?_eq_none_iff, hfN]; omega
  have hspot : spot = none := by
    have h0 := hcell 0 0 hlen0 hN
    cases hv : (f (A 0))[0]? with
    | none => exact absurd hv hs0
    | some v =>
      rw [hv] at h0
      simpa [Addr.add] using World.cell?_spot h0
  subst hspot
  have hb : b < w.heap.size := by
    have h0 := hcell 0 0 hlen0 hN
    apply Decidable.byContradiction
    intro hlt
    have : w.cell? ((⟨b, off, none⟩ : Addr).add (0 * N + 0)) = none := by
      unfold World.cell?
      have : w.heap[((⟨b, off, none⟩ : Addr).add (0 * N + 0)).block]? = none := by
        rw [add_plain]
        simp only [Nat.not_lt] at hlt
        simpa using hlt
      rw [this]
    rw [this] at h0
    exact hs0 h0.symm
  refine ⟨b, off, rfl, Nat.zero_le _, hb, fun j hj => ?_⟩
  rw [rows_len hfN, List.length_map, List.length_range] at hj
  have hi : j / N < len := Nat.div_lt_of_lt_mul (by rw [Nat.mul_comm]; exact hj)
  have hk : j % N < N := Nat.mod_lt _ hN
  have hjj : j / N * N + j % N = j := by rw [Nat.mul_comm]; exact Nat.div_add_mod j N
  have h1 := hcell (j / N) (j % N) hi hk
  have h2 := rows_get hfN ((List.range len).map A) (j / N) (j % N) (A (j / N)) (by rw [List.getElem?_map, List.getElem?_range hi]; rfl) hk
  rw [hjj, add_plain] at h1
  rw [hjj] at h2
  rw [h1, ← h2, List.getD_eq_getElem?_getD]
  have h3 : j < (((List.range len).map A).flatMap f).length := by rw [rows_len hfN, List.length_map, List.length_range]; exact hj
  rw [List.getElem?_eq_getElem h3]
  rfl
end

section
variable {H : Type} {enc : TypeId × Value → H} {w : World} {spare : Nat → Bool} {held : Bool}

theorem list2 {cs : List Value} (h : cs.length = 2) (hk : ∀ i, i < 2 → ∃ z : Int, cs[i]? = some (.int .i64 z)) : ∃ a b : Int, cs = [.int .i64 a, .int .i64 b] := by
  obtain ⟨a, ha⟩ := hk 0 (by decide)
  obtain ⟨b, hb⟩ := hk 1 (by decide)
  match cs, h with
  | [x, y], _ => exact ⟨a, b, by simp at ha hb; rw [ha, hb]⟩
theorem trod_frac {fuel : Nat} {cs : List Value} {x : DataW H × List MemPlace} (h : DataW.trod enc Tryz.prog w 0 spare held fuel 31 cs = some x) : ∃ f : Int × Int, cs = [.int .i64 f.1, .int .i64 f.2] := by
  obtain ⟨h1, h2⟩ := struct_ints (N := 2) Tryz.underlying31 (by kernel_rfl) (fun i hi => match i, hi with
    | 0, _ => ⟨_, rfl, rfl, Tryz.underlying3, by kernel_rfl⟩
    | 1, _ => ⟨_, rfl, rfl, Tryz.underlying3, by kernel_rfl⟩) h
  obtain ⟨a, b, e⟩ := list2 h1 h2
  exact ⟨(a, b), e⟩
set_option maxRecDepth 100000 in
theorem trod_pt {fuel : Nat} {cs : List Value} {x : DataW H × List MemPlace} (h : DataW.trod enc Tryz.prog w 0 spare held fuel 44 cs = some x) : ∃ p : P4, cs = p4C p := by
  obtain ⟨y0, y1, n, _, hl, g0, g1⟩ := trod_struct2 Tryz.underlying44 h
  have hl4 : cs.length = 4 := hl.trans (by kernel_rfl)
  have c0 : Tryz.prog.cellsOf 31 = 2 := by kernel_rfl
  obtain ⟨a, b, c, d, rfl⟩ : ∃ a b c d, cs = [a, b, c, d] := by
    match cs, hl4 with
    | [a, b, c, d], _ => exact ⟨a, b, c, d, rfl⟩
  obtain ⟨f, hf⟩ := trod_frac g0
  obtain ⟨e, he⟩ := trod_frac g1
  rw [c0] at hf he
  simp at hf he
  refine ⟨(f, e), ?_⟩
  unfold p4C
  rw [hf.1, hf.2, he.1, he.2]
set_option maxRecDepth 100000 in
/-- A fraction as an argument. -/
theorem open_frac {base : Nat} {v : Value} {d : DataW H} {ps : List MemPlace} (hok : Value.okWide Tryz.prog w .any base 31 v) (h : DataW.Trod enc Tryz.prog w 0 spare held 31 v d ps) :
    ∃ n m : Int, v = .agg #[.int .i64 n, .int .i64 m] := by
  obtain ⟨cs, rfl, _⟩ := okWide_struct Tryz.underlying31 hok
  obtain ⟨fuel, hf⟩ := h
  obtain ⟨f, hf⟩ := trod_frac hf
  refine ⟨f.1, f.2, ?_⟩
  have : cs.toList = _ := hf
  exact congrArg Value.agg (Array.ext' this)
set_option maxRecDepth 100000 in
/-- A slice of points as an argument. -/
theorem open_pts {base : Nat} {v : Value} {d : DataW H} {ps : List MemPlace} (hok : Value.okWide Tryz.prog w .any base 22 v) (h : DataW.Trod enc Tryz.prog w 0 spare held 22 v d ps) :
    ∃ l : List P4, P4R 0 w v l := by
  obtain ⟨a, len, cap, rfl⟩ := okWide_slice Tryz.underlying22 hok
  obtain ⟨fuel, hf⟩ := h
  obtain ⟨v', l, he, hl⟩ := open_rows (N := 4) p4C (fun _ => rfl) (by decide) Tryz.underlying22 (by kernel_rfl) (fun _ _ _ h => trod_pt h) hf
  have : [Value.slice a len cap] = [v'] := he
  simp only [List.cons.injEq, and_true] at this
  rw [this]
  exact ⟨l, hl⟩
end

theorem gZero : Tryz.prog.globalNamed "trank/curve.zero" = some 0 := by kernel_rfl
theorem tZero : (Tryz.prog.globals[0]?).map (·.type) = some 31 := by kernel_rfl
abbrev laidZ : List (String × DataW Unit) := [("trank/curve.zero", Rows.laid_trank_curve_zero)]
theorem zero_met (os : Os) (args : Array Value) : laidMetH Tryz.prog laidZ ((World.doorLaid Tryz.prog 400 os).forCall (fun _ _ => 0) ⟨#[], args, []⟩).memory :=
  laidMetH_of_parts3 (fuel := 8) (laidMet_of_run' 8 (by kernel_rfl) (by kernel_rfl)) (by kernel_rfl) (by kernel_rfl)
theorem zero_of_laid {W : World} (h : laidMetH Tryz.prog laidZ W) : Z0 W := by
  rw [MakeChecks.laidMetH_plain _ _ _ (by kernel_rfl)] at h
  obtain ⟨ps, ⟨g0, t0, cs0, f0, p0, q0, hg0, ht0, hv0, hd0, _, _⟩, _, _⟩ := h
  obtain rfl := Option.some.inj (gZero.symm.trans hg0)
  obtain rfl := Option.some.inj (tZero.symm.trans ht0)
  have hx := hd0
  obtain ⟨y0, y1, n, hxe, hl, g0, g1⟩ := trod_struct2 Tryz.underlying31 hd0
  have hl2 : cs0.toList.length = 2 := hl.trans (by kernel_rfl)
  have c0 : Tryz.prog.cellsOf 3 = 1 := by kernel_rfl
  obtain ⟨a, b, hab⟩ : ∃ a b, cs0.toList = [a, b] := by
    match cs0.toList, hl2 with
    | [a, b], _ => exact ⟨a, b, rfl⟩
  rw [hab] at g0 g1
  obtain ⟨z0, e0, r0, _⟩ := DataW.trod_int Tryz.underlying3 g0
  obtain ⟨z1, e1, r1, _⟩ := DataW.trod_int Tryz.underlying3 g1
  rw [r0, r1] at hxe
  have h2 := congrArg Prod.fst hxe
  have h3 : ([DataW.lit (.int .i64 0), DataW.lit (.int .i64 1)] : List (DataW Unit)) = [DataW.lit (.int .i64 z0), DataW.lit (.int .i64 z1)] := by
    exact DataW.agg.inj h2
  have h4 : z0 = 0 ∧ z1 = 1 := by simpa [eq_comm] using h3
  obtain ⟨rfl, rfl⟩ := h4
  rw [c0] at e0 e1
  have e0' : a = .int .i64 0 := by simpa using e0
  have e1' : b = .int .i64 1 := by simpa using e1
  subst e0' e1'
  have hc : cs0 = #[.int .i64 0, .int .i64 1] := Array.ext' hab
  subst hc
  have k0 := World.var?_cell hg0 hv0 0
  have k1 := World.var?_cell hg0 hv0 1
  refine ⟨?_, k0, k1⟩
  apply Decidable.byContradiction
  intro hlt
  have h0 : W.heap[0]? = none := by simpa using hlt
  have : W.cell? ⟨0, 0, none⟩ = none := by
    unfold World.cell?
    rw [show W.heap[(⟨0, 0, none⟩ : Addr).block]? = none from h0]
  rw [this] at k0
  cases k0

end Go.Proofs.YtfkclcoipadhmaaGreatDoor
