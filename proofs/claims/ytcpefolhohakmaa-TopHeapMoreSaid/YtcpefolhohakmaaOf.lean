/- Arguments of the laws on gloves opened. -/
import Derived.Test.YtcpefolhohakmaaRows
import Derived.Test.YtcpefolhohakmaaQ1
import Derived.ProofKit
import Derived.Deep.SlicePairs
namespace Go.Proofs.Ytcpefolhohakmaa
open Go.ChangeShapes Go.WideShapes Go.RowKit Go.Deep

section
variable {H : Type} {enc : TypeId × Value → H} {P : Program} {w : World} {spare : Nat → Bool} {held : Bool}

/-- A struct of whole numbers. -/
theorem struct_ints {t : TypeId} {fs : Array Field} {cs : List Value} {x : DataW H × List MemPlace} {fuel N : Nat} (ht : P.underlying t = some (.struct fs)) (hN : P.cellsOf t = N)
    (hf : ∀ i, i < N → ∃ f, fs[i]? = some f ∧ f.offset = i ∧ P.underlying f.type = some (.int .i64) ∧ P.cellsOf f.type = 1) (h : DataW.trod enc P w 0 spare held fuel t cs = some x) :
    cs.length = N ∧ ∀ i, i < N → ∃ z : Int, cs[i]? = some (.int .i64 z) := by
  obtain ⟨xs, n, _, _, hl, _, hk⟩ := DataW.trod_struct ht h
  rw [hN] at hl
  refine ⟨hl, fun i hi => ?_⟩
  obtain ⟨f, h1, h2, h3, h4⟩ := hf i hi
  have hg := hk i f h1
  rw [h2, h4] at hg
  have hlt : i < fs.size := (Array.getElem?_eq_some_iff.1 h1).1
  cases hx : xs[i]? with
  | none => rw [List.getElem?_eq_none_iff] at hx; omega
  | some y =>
    rw [hx] at hg
    obtain ⟨z, hz, _⟩ := DataW.trod_int h3 hg
    refine ⟨z, ?_⟩
    have h5 := congrArg (fun l => l[0]?) hz
    simpa [List.getElem?_take, List.getElem?_drop] using h5

theorem flat_get {α : Type} {f : α → List Value} {N : Nat} (hfN : ∀ a, (f a).length = N) : ∀ (l : List α) (i k : Nat) (a : α), l[i]? = some a → k < N → (l.flatMap f)[i * N + k]? = (f a)[k]?
  | [], i, k, a, h, _ => by simp at h
  | x :: l, 0, k, a, h, hk => by
    obtain rfl : x = a := by simpa using h
    rw [List.flatMap_cons, Nat.zero_mul, Nat.zero_add, List.getElem?_append_left (by rw [hfN]; exact hk)]
  | x :: l, i + 1, k, a, h, hk => by
    rw [List.flatMap_cons, List.getElem?_append_right (by rw [hfN, Nat.succ_mul]; omega), hfN, Nat.succ_mul, show i * N + N + k - N = i * N + k by omega]
    exact flat_get hfN l i k a (by simpa using h) hk
theorem flat_len {α : Type} {f : α → List Value} {N : Nat} (hfN : ∀ a, (f a).length = N) (l : List α) : (l.flatMap f).length = l.length * N := by
  induction l with
  | nil => simp
  | cons x l ih => rw [List.flatMap_cons, List.length_append, hfN, ih, List.length_cons, Nat.succ_mul]; omega

/-- A slice whose elements are of N cells each. -/
theorem open_rows {α : Type} [Inhabited α] {t e : TypeId} {fuel N : Nat} {cs : List Value} {x : DataW H × List MemPlace} (f : α → List Value) (hfN : ∀ a, (f a).length = N) (hN : 0 < N) (ht : P.underlying t = some (.slice e)) (hc : P.cellsOf e = N)
    (hel : ∀ (n : Nat) (cs : List Value) (y : DataW H × List MemPlace), DataW.trod enc P w 0 spare held n e cs = some y → ∃ a, cs = f a) (h : DataW.trod enc P w 0 spare held fuel t cs = some x) :
    ∃ (v : Value) (l : List α), cs = [v] ∧ SlR 0 w v l.length (l.flatMap f) := by
  rcases open_slice ht h with ⟨rfl, _⟩ | ⟨a, len, cap, m, n, D, Pl, rfl, _, hl, hm, hmm, _, hx⟩
  · exact ⟨_, [], rfl, SlR.nil _ _⟩
  have hlm : len ≤ m := by rw [hmm]; split <;> omega
  have each : ∀ i, i < len → ∃ y : α, w.cells? 0 (a.add (i * N)) N = some (f y) := by
    intro i hi
    obtain ⟨cs', h1, h2⟩ := hx i (by omega)
    obtain ⟨y, rfl⟩ := hel _ _ _ h2
    exact ⟨y, by rw [hc] at h1; exact h1⟩
  obtain ⟨A, hA⟩ := choose_lt each
  refine ⟨_, (List.range len).map A, rfl, ?_⟩
  rw [List.length_map, List.length_range]
  refine ⟨_, cap, rfl, hl, hm, fun hne => ?_⟩
  have hlen0 : 0 < len := by
    cases len with
    | zero => exact absurd rfl hne
    | succ k => omega
  have hcell : ∀ i k, i < len → k < N → w.cell? (a.add (i * N + k)) = (f (A i))[k]? := by
    intro i k hi hk
    obtain ⟨_, _, h3⟩ := World.cells?_some (hA i hi)
    rw [← Go.Deep.add_add]
    exact h3 k hk
  obtain ⟨b, off, spot⟩ := a
  have hs0 : (f (A 0))[0]? ≠ none := by
    rw [Ne, List.getElem?_eq_none_iff, hfN]; omega
  have hspot : spot = none := by
    have h0 := hcell 0 0 hlen0 hN
    cases hv : (f (A 0))[0]? with
    | none => exact absurd hv hs0
    | some v =>
      rw [hv] at h0
      simpa [Addr.add] using World.cell?_spot h0
  subst hspot
  have hb : b < w.heap.size := by
    have h0 := hcell 0 0 hlen0 hN
    apply Decidable.byContradiction
    intro hlt
    have : w.cell? ((⟨b, off, none⟩ : Addr).add (0 * N + 0)) = none := by
      unfold World.cell?
      have : w.heap[((⟨b, off, none⟩ : Addr).add (0 * N + 0)).block]? = none := by
        rw [add_plain]
        simp only [Nat.not_lt] at hlt
        simpa using hlt
      rw [this]
    rw [this] at h0
    exact hs0 h0.symm
  refine ⟨b, off, rfl, Nat.zero_le _, hb, fun j hj => ?_⟩
  rw [flat_len hfN, List.length_map, List.length_range] at hj
  have hi : j / N < len := Nat.div_lt_of_lt_mul (by rw [Nat.mul_comm]; exact hj)
  have hk : j % N < N := Nat.mod_lt _ hN
  have hjj : j / N * N + j % N = j := by rw [Nat.mul_comm]; exact Nat.div_add_mod j N
  have h1 := hcell (j / N) (j % N) hi hk
  have h2 := flat_get hfN ((List.range len).map A) (j / N) (j % N) (A (j / N)) (by rw [List.getElem?_map, List.getElem?_range hi]; rfl) hk
  rw [hjj, add_plain] at h1
  rw [hjj] at h2
  rw [h1, ← h2, List.getD_eq_getElem?_getD]
  have h3 : j < (((List.range len).map A).flatMap f).length := by rw [flat_len hfN, List.length_map, List.length_range]; exact hj
  rw [List.getElem?_eq_getElem h3]
  rfl
end

section
variable {H : Type} {enc : TypeId × Value → H} {w : World} {spare : Nat → Bool} {held : Bool}

theorem list4 {cs : List Value} (h : cs.length = 4) (hk : ∀ i, i < 4 → ∃ z : Int, cs[i]? = some (.int .i64 z)) : ∃ a b c d : Int, cs = [.int .i64 a, .int .i64 b, .int .i64 c, .int .i64 d] := by
  obtain ⟨a, ha⟩ := hk 0 (by decide)
  obtain ⟨b, hb⟩ := hk 1 (by decide)
  obtain ⟨c, hc⟩ := hk 2 (by decide)
  obtain ⟨d, hd⟩ := hk 3 (by decide)
  match cs, h with
  | [x, y, z, u], _ => exact ⟨a, b, c, d, by simp at ha hb hc hd; rw [ha, hb, hc, hd]⟩

theorem trod_glove {fuel : Nat} {cs : List Value} {x : DataW H × List MemPlace} (h : DataW.trod enc Try.prog w 0 spare held fuel 24 cs = some x) : ∃ g : Gv, cs = gC g := by
  obtain ⟨h1, h2⟩ := struct_ints (N := 4) Try.underlying24 (by kernel_rfl) (fun i hi => match i, hi with
    | 0, _ => ⟨_, rfl, rfl, Try.underlying3, by kernel_rfl⟩
    | 1, _ => ⟨_, rfl, rfl, Try.underlying3, by kernel_rfl⟩
    | 2, _ => ⟨_, rfl, rfl, Try.underlying3, by kernel_rfl⟩
    | 3, _ => ⟨_, rfl, rfl, Try.underlying3, by kernel_rfl⟩) h
  obtain ⟨a, b, c, d, e⟩ := list4 h1 h2
  exact ⟨⟨a, b, c, d⟩, e⟩
instance : Inhabited Gv := ⟨⟨0, 0, 0, 0⟩⟩
set_option maxRecDepth 100000 in
theorem trod_rule6 {fuel : Nat} {cs : List Value} {x : DataW H × List MemPlace} (h : DataW.trod enc Try.prog w 0 spare held fuel 26 cs = some x) : ∃ u : Ru, cs = gC u.wt ++ gC u.lim := by
  obtain ⟨y0, y1, n, _, hl, g0, g1⟩ := trod_struct2 Try.underlying26 h
  have hl8 : cs.length = 8 := hl.trans (by kernel_rfl)
  have c0 : Try.prog.cellsOf 24 = 4 := by kernel_rfl
  obtain ⟨a, b, c, d, e, f, g, i, rfl⟩ : ∃ a b c d e f g i, cs = [a, b, c, d, e, f, g, i] := by
    match cs, hl8 with
    | [a, b, c, d, e, f, g, i], _ => exact ⟨a, b, c, d, e, f, g, i, rfl⟩
  obtain ⟨p, hp⟩ := trod_glove g0
  obtain ⟨q, hq⟩ := trod_glove g1
  rw [c0] at hp hq
  simp [gC] at hp hq
  refine ⟨⟨p, q⟩, ?_⟩
  simp [gC, hp, hq]

set_option maxRecDepth 100000 in
/-- A rule as an argument. -/
theorem open_rule {base : Nat} {v : Value} {d : DataW H} {ps : List MemPlace} (hok : Value.okWide Try.prog w .any base 26 v) (h : DataW.Trod enc Try.prog w 0 spare held 26 v d ps) :
    ∃ u : Ru, v = ruV u := by
  obtain ⟨cs, rfl, _⟩ := okWide_struct Try.underlying26 hok
  obtain ⟨fuel, hf⟩ := h
  obtain ⟨u, hf⟩ := trod_rule6 hf
  refine ⟨u, ?_⟩
  have : cs.toList = _ := hf
  exact congrArg Value.agg (Array.ext' this)
set_option maxRecDepth 100000 in
/-- A slice of gloves as an argument. -/
theorem open_gloves {base : Nat} {v : Value} {d : DataW H} {ps : List MemPlace} (hok : Value.okWide Try.prog w .any base 22 v) (h : DataW.Trod enc Try.prog w 0 spare held 22 v d ps) :
    ∃ l : List Gv, GsR 0 w v l := by
  obtain ⟨a, len, cap, rfl⟩ := okWide_slice Try.underlying22 hok
  obtain ⟨fuel, hf⟩ := h
  obtain ⟨v', l, he, hl⟩ := open_rows (N := 4) gC (fun _ => rfl) (by decide) Try.underlying22 (by kernel_rfl) (fun _ _ _ h => trod_glove h) hf
  have : [Value.slice a len cap] = [v'] := he
  simp only [List.cons.injEq, and_true] at this
  rw [this]
  exact ⟨l, hl⟩
end
end Go.Proofs.Ytcpefolhohakmaa
