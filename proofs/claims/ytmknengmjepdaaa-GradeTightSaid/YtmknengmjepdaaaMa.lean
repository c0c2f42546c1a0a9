/- Matrices of whole numbers: their reading; the steps of trankref04.chains as plain functions. -/
import Derived.Test.YtmknengmjepdaaaPe
import Derived.Deep.OwnRows
namespace Go.Proofs.Ytmknengmjepdaaa
open Go.RowKit

/-- No chain. -/
def NONE : Int := -1152921504606846976
/-- A matrix with one element turned. -/
def upd (M : Nat → Nat → Int) (a b : Nat) (z : Int) : Nat → Nat → Int := fun x y => if x = a ∧ y = b then z else M x y
def rowArr (N : Nat) (f : Nat → Int) : Array Value := ((List.range N).map fun b => Value.int .i64 (f b)).toArray
theorem rowArr_get {N b : Nat} {f : Nat → Int} (h : b < N) : (rowArr N f)[b]? = some (.int .i64 (f b)) := by
  unfold rowArr
  rw [List.getElem?_toArray, List.getElem?_map, List.getElem?_range h]; rfl
theorem rowArr_set {N b : Nat} {f : Nat → Int} (z : Int) : (rowArr N f).setIfInBounds b (.int .i64 z) = rowArr N (fun x => if x = b then z else f x) := by
  apply Array.ext_getElem?
  intro i
  rw [Array.getElem?_setIfInBounds]
  unfold rowArr
  rw [List.getElem?_toArray, List.getElem?_map, List.getElem?_toArray, List.getElem?_map]
  by_cases hi : i < N
  · rw [List.getElem?_range hi]
    by_cases hb : b = i
    · subst hb; simp [hi]
    · rw [if_neg hb]; simp [Ne.symm hb]
  · rw [List.getElem?_eq_none (by rw [List.length_range]; omega)]
    by_cases hb : b = i
    · subst hb; simp [hi]
    · rw [if_neg hb]; rfl
theorem rowArr_congr {N : Nat} {f g : Nat → Int} (h : ∀ b, b < N → f b = g b) : rowArr N f = rowArr N g := by
  unfold rowArr
  congr 1
  exact List.map_congr_left (fun b hb => by rw [h b (List.mem_range.1 hb)])
/-- The rows of a matrix, one block a row from base on. -/
def MatR (w : World) (base N : Nat) (M : Nat → Nat → Int) (t : TypeId) : Prop := ∀ a, a < N → Blk w (base + a) (rowArr N (M a)) t
theorem MatR.below {w w' : World} {base N : Nat} {M : Nat → Nat → Int} {t : TypeId} (h : MatR w base N M t) (hb : Below w.heap.size w w') : MatR w' base N M t := fun a ha => (h a ha).below hb
theorem MatR.cell {w : World} {base N : Nat} {M : Nat → Nat → Int} {t : TypeId} (h : MatR w base N M t) {a b : Nat} (ha : a < N) (hb : b < N) : w.cell? ⟨base + a, b, none⟩ = some (.int .i64 (M a b)) := (h a ha).look b (rowArr_get hb)
theorem MatR.set {w : World} {base N : Nat} {M : Nat → Nat → Int} {t : TypeId} (h : MatR w base N M t) (a b : Nat) (z : Int) : MatR (w.setCell ⟨base + a, b, none⟩ (.int .i64 z)) base N (upd M a b z) t := by
  intro c hc
  by_cases hac : c = a
  · subst hac
    have := (h c hc).set b (.int .i64 z)
    rw [rowArr_set] at this
    have e : (fun x => if x = b then z else M c x) = upd M c b z c := by funext x; unfold upd; simp
    rw [e] at this
    exact this
  · have := (h c hc).other (p := ⟨base + a, b, none⟩) (by simp; omega) (.int .i64 z)
    have e : rowArr N (M c) = rowArr N (upd M a b z c) := rowArr_congr (fun x _ => by unfold upd; rw [if_neg (by intro hh; exact hac hh.1)])
    rw [e] at this
    exact this
/-- The outer slice: the first k rows are laid. -/
def outArr (base N k : Nat) : Array Value := ((List.range N).map fun a => if a < k then Value.slice (some ⟨base + a, 0, none⟩) N N else .slice none 0 0).toArray
theorem outArr_get {base N k a : Nat} (h : a < N) (hk : a < k) : (outArr base N k)[a]? = some (.slice (some ⟨base + a, 0, none⟩) N N) := by
  unfold outArr
  rw [List.getElem?_toArray, List.getElem?_map, List.getElem?_range h]; simp [hk]
theorem outArr_old {base N k a : Nat} (h : a < N) (hk : ¬ a < k) : (outArr base N k)[a]? = some (.slice none 0 0) := by
  unfold outArr
  rw [List.getElem?_toArray, List.getElem?_map, List.getElem?_range h]; simp [hk]
theorem outArr_set {base N k : Nat} : (outArr base N k).setIfInBounds k (.slice (some ⟨base + k, 0, none⟩) N N) = outArr base N (k + 1) := by
  apply Array.ext_getElem?
  intro i
  rw [Array.getElem?_setIfInBounds]
  unfold outArr
  rw [List.getElem?_toArray, List.getElem?_map, List.getElem?_toArray, List.getElem?_map]
  by_cases hi : i < N
  · rw [List.getElem?_range hi]
    by_cases hb : k = i
    · subst hb; simp [hi]
    · rw [if_neg hb]
      by_cases h1 : i < k
      · simp [h1, show i < k + 1 by omega]
      · simp [h1, show ¬ i < k + 1 by omega]
  · rw [List.getElem?_eq_none (by rw [List.length_range]; omega)]
    by_cases hb : k = i
    · subst hb; simp [hi]
    · rw [if_neg hb]; rfl
theorem made_out (base N : Nat) : madeCells #[Value.slice none 0 0] N = outArr base N 0 := by
  apply Array.ext'
  rw [toList_madeCells_one]
  unfold outArr
  simp [List.map_const']
theorem made_row (N : Nat) : madeCells #[Value.int .i64 0] N = rowArr N (fun _ => 0) := by
  apply Array.ext'
  rw [toList_madeCells_one]
  unfold rowArr
  simp [List.map_const']

/-- The start of chains. -/
def m0 : Nat → Nat → Int := fun a b => if a = b then 0 else NONE
/-- A rule is laid into the matrix. -/
def addR (n d : Int) (M : Nat → Nat → Int) (r : Rul) : Nat → Nat → Int := upd M r.a.toNat r.b.toNat (max (M r.a.toNat r.b.toNat) (wt r n d))
/-- One element's turn. -/
def fwC (m a : Nat) (M : Nat → Nat → Int) (b : Nat) : Nat → Nat → Int :=
  if M a m ≠ NONE ∧ M m b ≠ NONE then upd M a b (max (M a b) (wrap64 (M a m + M m b))) else M
def fwRow (N m : Nat) (M : Nat → Nat → Int) (a : Nat) : Nat → Nat → Int := (List.range N).foldl (fwC m a) M
def fwStep (N : Nat) (M : Nat → Nat → Int) (m : Nat) : Nat → Nat → Int := (List.range N).foldl (fwRow N m) M
/-- What chains comes to. -/
def fwAll (N : Nat) (M : Nat → Nat → Int) : Nat → Nat → Int := (List.range N).foldl (fwStep N) M
theorem foldl_snoc {α β : Type} (f : β → α → β) (b : β) (g : Nat → α) (k : Nat) : ((List.range (k + 1)).map g).foldl f b = f (((List.range k).map g).foldl f b) (g k) := by
  rw [range_snoc, List.foldl_append]; rfl
theorem foldl_range_succ {β : Type} (f : β → Nat → β) (b : β) (k : Nat) : (List.range (k + 1)).foldl f b = f ((List.range k).foldl f b) k := by
  rw [List.range_succ, List.foldl_append]; rfl
/-- The matrix of chains of a pattern at n/d. -/
def chainM (p : Pat) (n d : Int) : Nat → Nat → Int := fwAll p.n.toNat ((ext p).foldl (addR n d) m0)

end Go.Proofs.Ytmknengmjepdaaa
