/- Arguments of the law on the ledger opened. -/
import Derived.Test.YtcpefolhohakmaaRows
import Derived.Test.YtcpefolhohakmaaW7
import Derived.ProofKit
import Derived.Deep.SlicePairs
namespace Go.Proofs.Ytcpefolhohakmaa
open Go.ChangeShapes Go.WideShapes Go.RowKit Go.Deep

section
variable {H : Type} {enc : TypeId × Value → H} {P : Program} {w : World} {spare : Nat → Bool} {held : Bool}

/-- A struct of whole numbers. -/
theorem struct_ints {t : TypeId} {fs : Array Field} {cs : List Value} {x : DataW H × List MemPlace} {fuel N : Nat} (ht : P.underlying t = some (.struct fs)) (hN : P.cellsOf t = N)
    (hf : ∀ i, i < N → ∃ f, fs[i]? = some f ∧ f.offset = i ∧ P.underlying f.type = some (.int .i64) ∧ P.cellsOf f.type = 1) (h : DataW.trod enc P w 0 spare held fuel t cs = some x) :
    cs.length = N ∧ ∀ i, i < N → ∃ z : Int, cs[i]? = some (.int .i64 z) := by
  obtain ⟨xs, n, _, _, hl, _, hk⟩ := DataW.trod_struct ht h
  rw [hN] at hl
  refine ⟨hl, fun i hi => ?_⟩
  obtain ⟨f, h1, h2, h3, h4⟩ := hf i hi
  have hg := hk i f h1
  rw [h2, h4] at hg
  have hlt : i < fs.size := (Array.getElem?_eq_some_iff.1 h1).1
  cases hx : xs[i]? with
  | none => rw [List.getElem?_eq_none_iff] at hx; omega
  | some y =>
    rw [hx] at hg
    obtain ⟨z, hz, _⟩ := DataW.trod_int h3 hg
    refine ⟨z, ?_⟩
    have h5 := congrArg (fun l => l[0]?) hz
    simpa [List.getElem?_take, List.getElem?_drop] using h5

theorem flatG_get {α : Type} {f : α → List Value} {N : Nat} (hfN : ∀ a, (f a).length = N) : ∀ (l : List α) (i k : Nat) (a : α), l[i]? = some a → k < N → (l.flatMap f)[i * N + k]? = (f a)[k]?
  | [], i, k, a, h, _ => by simp at h
  | x :: l, 0, k, a, h, hk => by
    obtain rfl : x = a := by simpa using h
    rw [List.flatMap_cons, Nat.zero_mul, Nat.zero_add, List.getElem?_append_left (by rw [hfN]; exact hk)]
  | x :: l, i + 1, k, a, h, hk => by
    rw [List.flatMap_cons, List.getElem?_append_right (by rw [hfN, Nat.succ_mul]; omega), hfN, Nat.succ_mul, show i * N + N + k - N = i * N + k by omega]
    exact flatG_get hfN l i k a (by simpa using h) hk
theorem flatG_len {α : Type} {f : α → List Value} {N : Nat} (hfN : ∀ a, (f a).length = N) (l : List α) : (l.flatMap f).length = l.length * N := by
  induction l with
  | nil => simp
  | cons x l ih => rw [List.flatMap_cons, List.length_append, hfN, ih, List.length_cons, Nat.succ_mul]; omega

/-- A slice whose elements are of N cells each. -/
theorem open_rows {α : Type} [Inhabited α] {t e : TypeId} {fuel N : Nat} {cs : List Value} {x : DataW H × List MemPlace} (f : α → List Value) (hfN : ∀ a, (f a).length = N) (hN : 0 < N) (ht : P.underlying t = some (.slice e)) (hc : P.cellsOf e = N)
    (hel : ∀ (n : Nat) (cs : List Value) (y : DataW H × List MemPlace), DataW.trod enc P w 0 spare held n e cs = some y → ∃ a, cs = f a) (h : DataW.trod enc P w 0 spare held fuel t cs = some x) :
    ∃ (v : Value) (l : List α), cs = [v] ∧ SlR 0 w v l.length (l.flatMap f) := by
  rcases open_slice ht h with ⟨rfl, _⟩ | ⟨a, len, cap, m, n, D, Pl, rfl, _, hl, hm, hmm, _, hx⟩
  · exact ⟨_, [], rfl, SlR.nil _ _⟩
  have hlm : len ≤ m := by rw [hmm]; split <;> omega
  have each : ∀ i, i < len → ∃ y : α, w.cells? 0 (a.add (i * N)) N = some (f y) := by
    intro i hi
    obtain ⟨cs', h1, h2⟩ := hx i (by omega)
    obtain ⟨y, rfl⟩ := hel _ _ _ h2
    exact ⟨y, by rw [hc] at h1; exact h1⟩
  obtain ⟨A, hA⟩ := choose_lt each
  refine ⟨_, (List.range len).map A, rfl, ?_⟩
  rw [List.length_map, List.length_range]
  refine ⟨_, cap, rfl, hl, hm, fun hne => ?_⟩
  have hlen0 : 0 < len := by
    cases len with
    | zero => exact absurd rfl hne
    | succ k => omega
  have hcell : ∀ i k, i < len → k < N → w.cell? (a.add (i * N + k)) = (f (A i))[k]? := by
    intro i k hi hk
    obtain ⟨_, _, h3⟩ := World.cells?_some (hA i hi)
    rw [← Go.Deep.add_add]
    exact h3 k hk
  obtain ⟨b, off, spot⟩ := a
  have hs0 : (f (A 0))[0]? ≠ none := by
    rw [Ne, List.getElem?_eq_none_iff, hfN]; omega
  have hspot : spot = none := by
    have h0 := hcell 0 0 hlen0 hN
    cases hv : (f (A 0))[0]? with
    | none => exact absurd hv hs0
    | some v =>
      rw [hv] at h0
      simpa [Addr.add] using World.cell?_spot h0
  subst hspot
  have hb : b < w.heap.size := by
    have h0 := hcell 0 0 hlen0 hN
    apply Decidable.byContradiction
    intro hlt
    have : w.cell? ((⟨b, off, none⟩ : Addr).add (0 * N + 0)) = none := by
      unfold World.cell?
      have : w.heap[((⟨b, off, none⟩ : Addr).add (0 * N + 0)).block]? = none := by
        rw [Go.WideShapes.add_plain]
        simp only [Nat.not_lt] at hlt
        simpa using hlt
      rw [this]
    rw [this] at h0
    exact hs0 h0.symm
  refine ⟨b, off, rfl, Nat.zero_le _, hb, fun j hj => ?_⟩
  rw [flatG_len hfN, List.length_map, List.length_range] at hj
  have hi : j / N < len := Nat.div_lt_of_lt_mul (by rw [Nat.mul_comm]; exact hj)
  have hk : j % N < N := Nat.mod_lt _ hN
  have hjj : j / N * N + j % N = j := by rw [Nat.mul_comm]; exact Nat.div_add_mod j N
  have h1 := hcell (j / N) (j % N) hi hk
  have h2 := flatG_get hfN ((List.range len).map A) (j / N) (j % N) (A (j / N)) (by rw [List.getElem?_map, List.getElem?_range hi]; rfl) hk
  rw [hjj, Go.WideShapes.add_plain] at h1
  rw [hjj] at h2
  rw [h1, ← h2, List.getD_eq_getElem?_getD]
  have h3 : j < (((List.range len).map A).flatMap f).length := by rw [flatG_len hfN, List.length_map, List.length_range]; exact hj
  rw [List.getElem?_eq_getElem h3]
  rfl
end

section
variable {H : Type} {enc : TypeId × Value → H} {w : World} {spare : Nat → Bool} {held : Bool}

theorem list4 {cs : List Value} (h : cs.length = 4) (hk : ∀ i, i < 4 → ∃ z : Int, cs[i]? = some (.int .i64 z)) : ∃ a b c d : Int, cs = [.int .i64 a, .int .i64 b, .int .i64 c, .int .i64 d] := by
  obtain ⟨a, ha⟩ := hk 0 (by decide)
  obtain ⟨b, hb⟩ := hk 1 (by decide)
  obtain ⟨c, hc⟩ := hk 2 (by decide)
  obtain ⟨d, hd⟩ := hk 3 (by decide)
  match cs, h with
  | [x, y, z, u], _ => exact ⟨a, b, c, d, by simp at ha hb hc hd; rw [ha, hb, hc, hd]⟩

theorem trod_tr {fuel : Nat} {cs : List Value} {x : DataW H × List MemPlace} (h : DataW.trod enc Try.prog w 0 spare held fuel 111 cs = some x) : ∃ t : Tr, cs = trC t := by
  obtain ⟨h1, h2⟩ := struct_ints (N := 4) Try.underlying111 (by kernel_rfl) (fun i hi => match i, hi with
    | 0, _ => ⟨_, rfl, rfl, Try.underlying3, by kernel_rfl⟩
    | 1, _ => ⟨_, rfl, rfl, Try.underlying3, by kernel_rfl⟩
    | 2, _ => ⟨_, rfl, rfl, Try.underlying3, by kernel_rfl⟩
    | 3, _ => ⟨_, rfl, rfl, Try.underlying3, by kernel_rfl⟩) h
  obtain ⟨a, b, c, d, e⟩ := list4 h1 h2
  exact ⟨⟨a, b, c, d⟩, e⟩
instance : Inhabited Tr := ⟨⟨0, 0, 0, 0⟩⟩
theorem trod_ts {fuel : Nat} {cs : List Value} {x : DataW H × List MemPlace} (h : DataW.trod enc Try.prog w 0 spare held fuel 60 cs = some x) : ∃ (v : Value) (l : List Tr), cs = [v] ∧ TsR 0 w v l :=
  open_rows (N := 4) trC (fun _ => rfl) (by decide) Try.underlying60 (by kernel_rfl) (fun _ _ _ h => trod_tr h) h
instance instTs (w : World) : Inhabited {x : Value × List Tr // TsR 0 w x.1 x.2} := ⟨⟨(.slice none 0 0, []), SlR.nil _ _⟩⟩
theorem trod_tss {fuel : Nat} {cs : List Value} {x : DataW H × List MemPlace} (h : DataW.trod enc Try.prog w 0 spare held fuel 49 cs = some x) : ∃ (v : Value) (ls : List (Value × List Tr)), cs = [v] ∧ TssR w v ls := by
  obtain ⟨v, l, he, hl⟩ := open_rows (α := {x : Value × List Tr // TsR 0 w x.1 x.2}) (N := 1) (fun a => [a.1.1]) (fun _ => rfl) (by decide) Try.underlying49 (by kernel_rfl) (fun _ _ _ h => by
    obtain ⟨v, l, he, hl⟩ := trod_ts h
    exact ⟨⟨(v, l), hl⟩, he⟩) h
  refine ⟨v, l.map (·.1), he, ?_, fun x hx => ?_⟩
  · have e : (l.map (·.1)).map (·.1) = l.flatMap (fun a => [a.1.1]) := by
      clear hl
      induction l with
      | nil => rfl
      | cons a l ih => simp only [List.map_cons, List.flatMap_cons, ih]; rfl
    rw [List.length_map, e]; exact hl
  · obtain ⟨a, -, rfl⟩ := List.mem_map.1 hx
    exact a.2
theorem list5 {cs : List Value} (h : cs.length = 5) {v : Value} {a b c d : Int} (h0 : (cs.drop 0).take 1 = [v]) (ha : (cs.drop 1).take 1 = [.int .i64 a]) (hb : (cs.drop 2).take 1 = [.int .i64 b]) (hc : (cs.drop 3).take 1 = [.int .i64 c]) (hd : (cs.drop 4).take 1 = [.int .i64 d]) : cs = [v, .int .i64 a, .int .i64 b, .int .i64 c, .int .i64 d] := by
  match cs, h with
  | [u, x, y, z, t], _ => simp at h0 ha hb hc hd; rw [h0, ha, hb, hc, hd]
set_option maxRecDepth 100000 in
theorem trod_rd {fuel : Nat} {cs : List Value} {x : DataW H × List MemPlace} (h : DataW.trod enc Try.prog w 0 spare held fuel 51 cs = some x) : ∃ r : Rd, cs = rdC r ∧ TssR w r.v r.ls := by
  obtain ⟨xs, n, _, hn, hl, hxl, hk⟩ := DataW.trod_struct Try.underlying51 h
  have hl5 : cs.length = 5 := hl.trans (by kernel_rfl)
  have c1 : Try.prog.cellsOf 3 = 1 := by kernel_rfl
  have c2 : Try.prog.cellsOf 49 = 1 := by kernel_rfl
  have hx5 : xs.length = 5 := hxl.trans rfl
  have hy : ∀ i, i < 5 → ∃ y, xs[i]? = some y := fun i hi => ⟨_, List.getElem?_eq_getElem (by omega)⟩
  obtain ⟨y0, e0⟩ := hy 0 (by decide)
  obtain ⟨y1, e1⟩ := hy 1 (by decide)
  obtain ⟨y2, e2⟩ := hy 2 (by decide)
  obtain ⟨y3, e3⟩ := hy 3 (by decide)
  obtain ⟨y4, e4⟩ := hy 4 (by decide)
  have g0 : DataW.trod enc Try.prog w 0 spare held n 49 ((cs.drop 0).take (Try.prog.cellsOf 49)) = xs[0]? := hk 0 _ rfl
  have g1 : DataW.trod enc Try.prog w 0 spare held n 3 ((cs.drop 1).take (Try.prog.cellsOf 3)) = xs[1]? := hk 1 _ rfl
  have g2 : DataW.trod enc Try.prog w 0 spare held n 3 ((cs.drop 2).take (Try.prog.cellsOf 3)) = xs[2]? := hk 2 _ rfl
  have g3 : DataW.trod enc Try.prog w 0 spare held n 3 ((cs.drop 3).take (Try.prog.cellsOf 3)) = xs[3]? := hk 3 _ rfl
  have g4 : DataW.trod enc Try.prog w 0 spare held n 3 ((cs.drop 4).take (Try.prog.cellsOf 3)) = xs[4]? := hk 4 _ rfl
  rw [c2, e0] at g0
  rw [c1, e1] at g1
  rw [c1, e2] at g2
  rw [c1, e3] at g3
  rw [c1, e4] at g4
  obtain ⟨v, ls, k0, hts⟩ := trod_tss g0
  obtain ⟨a, k1, -⟩ := DataW.trod_int Try.underlying3 g1
  obtain ⟨b, k2, -⟩ := DataW.trod_int Try.underlying3 g2
  obtain ⟨c, k3, -⟩ := DataW.trod_int Try.underlying3 g3
  obtain ⟨d, k4, -⟩ := DataW.trod_int Try.underlying3 g4
  exact ⟨⟨v, ls, a, b, c, d⟩, list5 hl5 k0 k1 k2 k3 k4, hts⟩
set_option maxRecDepth 100000 in
/-- A whole number as an argument. -/
theorem open_num {base : Nat} {v : Value} {d : DataW H} {ps : List MemPlace} (hok : Value.okWide Try.prog w .any base 3 v) (h : DataW.Trod enc Try.prog w 0 spare held 3 v d ps) :
    ∃ z : Int, v = .int .i64 z := by
  obtain ⟨n, rfl⟩ := okWide_int Try.underlying3 hok
  exact ⟨n, rfl⟩
instance instRd (w : World) : Inhabited {r : Rd // TssR w r.v r.ls} := ⟨⟨⟨.slice none 0 0, [], 0, 0, 0, 0⟩, SlR.nil _ _, fun x hx => (by cases hx)⟩⟩
set_option maxRecDepth 100000 in
/-- A slice of rounds as an argument. -/
theorem open_rounds {base : Nat} {v : Value} {d : DataW H} {ps : List MemPlace} (hok : Value.okWide Try.prog w .any base 43 v) (h : DataW.Trod enc Try.prog w 0 spare held 43 v d ps) :
    ∃ l : List Rd, RdsR w v l := by
  obtain ⟨a, len, cap, rfl⟩ := okWide_slice Try.underlying43 hok
  obtain ⟨fuel, hf⟩ := h
  obtain ⟨v', l, he, hl⟩ := open_rows (α := {r : Rd // TssR w r.v r.ls}) (N := 5) (fun a => rdC a.1) (fun _ => rfl) (by decide) Try.underlying43 (by kernel_rfl) (fun _ _ _ h => by
    obtain ⟨r, he, hr⟩ := trod_rd h
    exact ⟨⟨r, hr⟩, he⟩) hf
  have : [Value.slice a len cap] = [v'] := he
  simp only [List.cons.injEq, and_true] at this
  rw [this]
  refine ⟨l.map (·.1), ?_, fun x hx => ?_⟩
  · have e : (l.map (·.1)).flatMap rdC = l.flatMap (fun a => rdC a.1) := by
      clear hl
      induction l with
      | nil => rfl
      | cons a l ih => simp only [List.map_cons, List.flatMap_cons, ih]
    rw [List.length_map, e]; exact hl
  · obtain ⟨a, -, rfl⟩ := List.mem_map.1 hx
    exact a.2
end
end Go.Proofs.Ytcpefolhohakmaa
