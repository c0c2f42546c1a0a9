/- Several of my texts in one: Ma, Mb, Mc, Md. -/
import Derived.Test.YtmknengmjepdaaaPx
import Derived.Deep.OwnRows
import Derived.Test.YtmknengmjepdaaaRx
import Derived.Deep.RegionLaw
import Derived.BigRegion
import Derived.Deep.Cut
import Derived.Test.YtmknengmjepdaaaQx
import Derived.Deep.RegionHeld3
/- Matrices of whole numbers: their reading; the steps of trankref04.chains as plain functions. -/
namespace Go.Proofs.Ytmknengmjepdaaa
open Go.RowKit

/-- No chain. -/
def NONE : Int := -1152921504606846976
/-- A matrix with one element turned. -/
def upd (M : Nat → Nat → Int) (a b : Nat) (z : Int) : Nat → Nat → Int := fun x y => if x = a ∧ y = b then z else M x y
def rowArr (N : Nat) (f : Nat → Int) : Array Value := ((List.range N).map fun b => Value.int .i64 (f b)).toArray
theorem rowArr_get {N b : Nat} {f : Nat → Int} (h : b < N) : (rowArr N f)[b]? = some (.int .i64 (f b)) := by
  unfold rowArr
  rw [List.getElem?_toArray, List.getElem?_map, List.getElem?_range h]; rfl
theorem rowArr_set {N b : Nat} {f : Nat → Int} (z : Int) : (rowArr N f).setIfInBounds b (.int .i64 z) = rowArr N (fun x => if x = b then z else f x) := by
  apply Array.ext_getElem?
  intro i
  rw [Array.getElem?_setIfInBounds]
  unfold rowArr
  rw [List.getElem?_toArray, List.getElem?_map, List.getElem?_toArray, List.getElem?_map]
  by_cases hi : i < N
  · rw [List.getElem?_range hi]
    by_cases hb : b = i
    · subst hb; simp [hi]
    · rw [if_neg hb]; simp [Ne.symm hb]
  · rw [List.getElem?_eq_none (by rw [List.length_range]; omega)]
    by_cases hb : b = i
    · subst hb; simp [hi]
    · rw [if_neg hb]; rfl
theorem rowArr_congr {N : Nat} {f g : Nat → Int} (h : ∀ b, b < N → f b = g b) : rowArr N f = rowArr N g := by
  unfold rowArr
  congr 1
  exact List.map_congr_left (fun b hb => by rw [h b (List.mem_range.1 hb)])
/-- The rows of a matrix, one block a row from base on. -/
def MatR (w : World) (base N : Nat) (M : Nat → Nat → Int) (t : TypeId) : Prop := ∀ a, a < N → Blk w (base + a) (rowArr N (M a)) t
theorem MatR.below {w w' : World} {base N : Nat} {M : Nat → Nat → Int} {t : TypeId} (h : MatR w base N M t) (hb : Below w.heap.size w w') : MatR w' base N M t := fun a ha => (h a ha).below hb
theorem MatR.cell {w : World} {base N : Nat} {M : Nat → Nat → Int} {t : TypeId} (h : MatR w base N M t) {a b : Nat} (ha : a < N) (hb : b < N) : w.cell? ⟨base + a, b, none⟩ = some (.int .i64 (M a b)) := (h a ha).look b (rowArr_get hb)
theorem MatR.set {w : World} {base N : Nat} {M : Nat → Nat → Int} {t : TypeId} (h : MatR w base N M t) (a b : Nat) (z : Int) : MatR (w.setCell ⟨base + a, b, none⟩ (.int .i64 z)) base N (upd M a b z) t := by
  intro c hc
  by_cases hac : c = a
  · subst hac
    have := (h c hc).set b (.int .i64 z)
    rw [rowArr_set] at this
    have e : (fun x => if x = b then z else M c x) = upd M c b z c := by funext x; unfold upd; simp
    rw [e] at this
    exact this
  · have := (h c hc).other (p := ⟨base + a, b, none⟩) (by simp; omega) (.int .i64 z)
    have e : rowArr N (M c) = rowArr N (upd M a b z c) := rowArr_congr (fun x _ => by unfold upd; rw [if_neg (by intro hh; exact hac hh.1)])
    rw [e] at this
    exact this
/-- The outer slice: the first k rows are laid. -/
def outArr (base N k : Nat) : Array Value := ((List.range N).map fun a => if a < k then Value.slice (some ⟨base + a, 0, none⟩) N N else .slice none 0 0).toArray
theorem outArr_get {base N k a : Nat} (h : a < N) (hk : a < k) : (outArr base N k)[a]? = some (.slice (some ⟨base + a, 0, none⟩) N N) := by
  unfold outArr
  rw [List.getElem?_toArray, List.getElem?_map, List.getElem?_range h]; simp [hk]
theorem outArr_old {base N k a : Nat} (h : a < N) (hk : ¬ a < k) : (outArr base N k)[a]? = some (.slice none 0 0) := by
  unfold outArr
  rw [List.getElem?_toArray, List.getElem?_map, List.getElem?_range h]; simp [hk]
theorem outArr_set {base N k : Nat} : (outArr base N k).setIfInBounds k (.slice (some ⟨base + k, 0, none⟩) N N) = outArr base N (k + 1) := by
  apply Array.ext_getElem?
  intro i
  rw [Array.getElem?_setIfInBounds]
  unfold outArr
  rw [List.getElem?_toArray, List.getElem?_map, List.getElem?_toArray, List.getElem?_map]
  by_cases hi : i < N
  · rw [List.getElem?_range hi]
    by_cases hb : k = i
    · subst hb; simp [hi]
    · rw [if_neg hb]
      by_cases h1 : i < k
      · simp [h1, show i < k + 1 by omega]
      · simp [h1, show ¬ i < k + 1 by omega]
  · rw [List.getElem?_eq_none (by rw [List.length_range]; omega)]
    by_cases hb : k = i
    · subst hb; simp [hi]
    · rw [if_neg hb]; rfl
theorem made_out (base N : Nat) : madeCells #[Value.slice none 0 0] N = outArr base N 0 := by
  apply Array.ext'
  rw [toList_madeCells_one]
  unfold outArr
  simp [List.map_const']
theorem made_row (N : Nat) : madeCells #[Value.int .i64 0] N = rowArr N (fun _ => 0) := by
  apply Array.ext'
  rw [toList_madeCells_one]
  unfold rowArr
  simp [List.map_const']

/-- The start of chains. -/
def m0 : Nat → Nat → Int := fun a b => if a = b then 0 else NONE
/-- A rule is laid into the matrix. -/
def addR (n d : Int) (M : Nat → Nat → Int) (r : Rul) : Nat → Nat → Int := upd M r.a.toNat r.b.toNat (max (M r.a.toNat r.b.toNat) (wt r n d))
/-- One element's turn. -/
def fwC (m a : Nat) (M : Nat → Nat → Int) (b : Nat) : Nat → Nat → Int :=
  if M a m ≠ NONE ∧ M m b ≠ NONE then upd M a b (max (M a b) (wrap64 (M a m + M m b))) else M
def fwRow (N m : Nat) (M : Nat → Nat → Int) (a : Nat) : Nat → Nat → Int := (List.range N).foldl (fwC m a) M
def fwStep (N : Nat) (M : Nat → Nat → Int) (m : Nat) : Nat → Nat → Int := (List.range N).foldl (fwRow N m) M
/-- What chains comes to. -/
def fwAll (N : Nat) (M : Nat → Nat → Int) : Nat → Nat → Int := (List.range N).foldl (fwStep N) M
theorem foldl_snoc {α β : Type} (f : β → α → β) (b : β) (g : Nat → α) (k : Nat) : ((List.range (k + 1)).map g).foldl f b = f (((List.range k).map g).foldl f b) (g k) := by
  rw [range_snoc, List.foldl_append]; rfl
theorem foldl_range_succ {β : Type} (f : β → Nat → β) (b : β) (k : Nat) : (List.range (k + 1)).foldl f b = f ((List.range k).foldl f b) k := by
  rw [List.range_succ, List.foldl_append]; rfl
/-- The matrix of chains of a pattern at n/d. -/
def chainM (p : Pat) (n d : Int) : Nat → Nat → Int := fwAll p.n.toNat ((ext p).foldl (addR n d) m0)

end Go.Proofs.Ytmknengmjepdaaa

/- Walks of trankref04.chains. -/
namespace Go.Proofs.Ytmknengmjepdaaa
open Go.RowKit

theorem infoInts : (Try.prog.info? 49).map (fun i => (i.zero, i.size, i.bytes)) = some (some (.slice none 0 0), 1, 24) := by kernel_rfl
theorem wpList_mkr {P : Program} {w : World} {ops : Array Oper} {rest : List Oper} {o : Oper} {a : Act} {Q : Exit → Act → World → Prop} (hgd : o.guard = none) (l c : Operand) (t : TypeId) (ho : o.op = Op.makeSlice t l c)
    (e : TypeId) (z : Value) (bytes : Nat) (ht : P.underlying t = some (.slice e)) (hi : (P.info? e).map (fun i => (i.zero, i.size, i.bytes)) = some (some z, 1, bytes)) (hz : z.cells = #[z])
    (kl kc : IntKind) (n : Nat) (hl : a.eval l = .int kl (n : Int)) (hc : a.eval c = .int kc (n : Int)) (b2 : bytes * n ≤ 281474976710656) (b3 : n ≤ 9223372036854775807)
    (hK : wpList P ops Q rest (a.put o.dst (.slice (some ⟨w.heap.size, 0, none⟩) n n)) (w.alloc (.cells (madeCells #[z] n) e))) : wpList P ops Q (o :: rest) a w := by
  obtain ⟨i, hi0, hz0, hsize, hby⟩ := info_parts hi
  exact wpList_make_row w hgd l c t ho e i z ht hi0 hz0 hsize hz kl kc n hl hc (by rw [hby]; exact b2) b3 hK

/-- The memory of chains: the boxed pattern and size, the outer slice, the rows. -/
structure Ch (wr : World) (S N k : Nat) (pa : Array Value) (n d : Int) (M : Nat → Nat → Int) : Prop where
  kp : Blk wr S pa 24
  ks : Blk wr (S + 1) #[.int .i64 n, .int .i64 d] 26
  ko : Blk wr (S + 1 + 1) (outArr (S + 1 + 1 + 1) N k) 49
  km : ∀ a, a < k → Blk wr (S + 1 + 1 + 1 + a) (rowArr N (M a)) 3
theorem Ch.below {w w' : World} {S N k : Nat} {pa : Array Value} {n d : Int} {M : Nat → Nat → Int} (h : Ch w S N k pa n d M) (hb : Below w.heap.size w w') : Ch w' S N k pa n d M :=
  ⟨h.kp.below hb, h.ks.below hb, h.ko.below hb, fun a ha => (h.km a ha).below hb⟩

theorem Ch.set {w : World} {S N k : Nat} {pa : Array Value} {n d : Int} {M : Nat → Nat → Int} (h : Ch w S N k pa n d M) (a b : Nat) (z : Int) : Ch (w.setCell ⟨S + 1 + 1 + 1 + a, b, none⟩ (.int .i64 z)) S N k pa n d (upd M a b z) := by
  refine ⟨h.kp.other (by simp; omega) _, h.ks.other (by simp; omega) _, h.ko.other (by simp; omega) _, fun c hc => ?_⟩
  by_cases hac : c = a
  · subst hac
    have := (h.km c hc).set b (.int .i64 z)
    rw [rowArr_set] at this
    have e : (fun x => if x = b then z else M c x) = upd M c b z c := by funext x; unfold upd; simp
    rw [e] at this
    exact this
  · have := (h.km c hc).other (p := ⟨S + 1 + 1 + 1 + a, b, none⟩) (by simp; omega) (.int .i64 z)
    have e : rowArr N (M c) = rowArr N (upd M a b z c) := rowArr_congr (fun x _ => by unfold upd; rw [if_neg (by intro hh; exact hac hh.1)])
    rw [e] at this
    exact this
theorem Ch.congr {w : World} {S N k : Nat} {pa : Array Value} {n d : Int} {M M' : Nat → Nat → Int} (h : Ch w S N k pa n d M) (he : ∀ a, a < k → ∀ b, b < N → M a b = M' a b) : Ch w S N k pa n d M' :=
  ⟨h.kp, h.ks, h.ko, fun a ha => by rw [← rowArr_congr (he a ha)]; exact h.km a ha⟩
/-- A new row is laid. -/
theorem Ch.grow {w : World} {S N k : Nat} {pa : Array Value} {n d : Int} {M : Nat → Nat → Int} (h : Ch w S N k pa n d M) (hz : w.heap.size = S + 1 + 1 + 1 + k) (f : Nat → Int) :
    Ch ((w.setCell ⟨S + 1 + 1, k, none⟩ (.slice (some ⟨S + 1 + 1 + 1 + k, 0, none⟩) N N)).alloc (.cells (rowArr N f) 3)) S N (k + 1) pa n d (fun a => if a = k then f else M a) := by
  refine ⟨(h.kp.other (by simp; omega) _).alloc _, (h.ks.other (by simp) _).alloc _, ?_, fun c hc => ?_⟩
  · have := (h.ko.set k (.slice (some ⟨S + 1 + 1 + 1 + k, 0, none⟩) N N)).alloc (.cells (rowArr N f) 3)
    rw [outArr_set] at this
    exact this
  · by_cases hck : c = k
    · subst hck
      have := Blk.new (w.setCell ⟨S + 1 + 1, c, none⟩ (.slice (some ⟨S + 1 + 1 + 1 + c, 0, none⟩) N N)) (rowArr N f) 3
      have e : (w.setCell ⟨S + 1 + 1, c, none⟩ (.slice (some ⟨S + 1 + 1 + 1 + c, 0, none⟩) N N)).heap.size = S + 1 + 1 + 1 + c := by simp [World.setCell]; exact hz
      rw [e] at this
      simpa using this
    · have := ((h.km c (by omega)).other (p := ⟨S + 1 + 1, k, none⟩) (by simp; omega) (.slice (some ⟨S + 1 + 1 + 1 + k, 0, none⟩) N N)).alloc (.cells (rowArr N f) 3)
      simpa [hck] using this

/-- A square matrix: a slice of slices, in blocks from lo on. -/
def MatF (lo : Nat) (w : World) (v : Value) (N : Nat) (M : Nat → Nat → Int) : Prop :=
  ∃ o base, v = .slice (some ⟨o, 0, none⟩) N N ∧ lo ≤ o ∧ lo ≤ base ∧ Blk w o (outArr base N N) 49 ∧ ∀ a, a < N → Blk w (base + a) (rowArr N (M a)) 3
theorem MatF.below {lo : Nat} {w w' : World} {v : Value} {N : Nat} {M : Nat → Nat → Int} (h : MatF lo w v N M) (hb : Below w.heap.size w w') : MatF lo w' v N M := by
  obtain ⟨o, base, rfl, h1, h2, h3, h4⟩ := h
  exact ⟨o, base, rfl, h1, h2, h3.below hb, fun a ha => (h4 a ha).below hb⟩

theorem ext_rv {p : Pat} (h1 : 1 ≤ p.n) (h : ∀ r ∈ p.rules, RV p.n r) : ∀ r ∈ ext p, RV p.n r := by
  intro r hr
  unfold ext at hr
  rcases List.mem_append.1 hr with hr | hr
  · exact h r hr
  · obtain ⟨i, hi, rfl⟩ := List.mem_map.1 hr
    have := List.mem_range.1 hi
    unfold RV ground
    dsimp only
    omega

theorem keep17 {W w' : World} {S N A X : Nat} {pa : Array Value} {n d : Int} {M : Nat → Nat → Int} {x0 x1 x2 x3 : Value} {t : TypeId} (kr : Blk W X #[x0, x1, x2, x3] t) (h : Ch W S N N pa n d M) (hA : A < N) (hb : Below W.heap.size W w') :
    w'.cell? ⟨X, 0, none⟩ = some x0 ∧ w'.cell? ⟨X, 1, none⟩ = some x1 ∧ w'.cell? ⟨X, 2, none⟩ = some x2 ∧ w'.cell? ⟨X, 3, none⟩ = some x3 ∧
    w'.cell? ⟨S + 1, 0, none⟩ = some (.int .i64 n) ∧ w'.cell? ⟨S + 1, 1, none⟩ = some (.int .i64 d) ∧ w'.cell? ⟨S + 1 + 1, A, none⟩ = some (.slice (some ⟨S + 1 + 1 + 1 + A, 0, none⟩) N N) :=
  ⟨(kr.below hb).look 0 rfl, (kr.below hb).look 1 rfl, (kr.below hb).look 2 rfl, (kr.below hb).look 3 rfl, (h.ks.below hb).look 0 rfl, (h.ks.below hb).look 1 rfl, (h.ko.below hb).look A (outArr_get hA hA)⟩
theorem keep17s {W w' : World} {S N A B X : Nat} {pa : Array Value} {n d : Int} {M : Nat → Nat → Int} {x0 x1 x2 x3 u : Value} {t : TypeId} (kr : Blk W X #[x0, x1, x2, x3] t) (h : Ch W S N N pa n d M) (hA : A < N) (hX : X ≠ S + 1 + 1 + 1 + A) (hb : Below W.heap.size W w') :
    (w'.setCell ⟨S + 1 + 1 + 1 + A, B, none⟩ u).cell? ⟨X, 0, none⟩ = some x0 ∧ (w'.setCell ⟨S + 1 + 1 + 1 + A, B, none⟩ u).cell? ⟨X, 1, none⟩ = some x1 ∧ (w'.setCell ⟨S + 1 + 1 + 1 + A, B, none⟩ u).cell? ⟨X, 2, none⟩ = some x2 ∧ (w'.setCell ⟨S + 1 + 1 + 1 + A, B, none⟩ u).cell? ⟨X, 3, none⟩ = some x3 ∧
    (w'.setCell ⟨S + 1 + 1 + 1 + A, B, none⟩ u).cell? ⟨S + 1, 0, none⟩ = some (.int .i64 n) ∧ (w'.setCell ⟨S + 1 + 1 + 1 + A, B, none⟩ u).cell? ⟨S + 1, 1, none⟩ = some (.int .i64 d) ∧ (w'.setCell ⟨S + 1 + 1 + 1 + A, B, none⟩ u).cell? ⟨S + 1 + 1, A, none⟩ = some (.slice (some ⟨S + 1 + 1 + 1 + A, 0, none⟩) N N) := by
  have k1 := (kr.below hb).other (p := ⟨S + 1 + 1 + 1 + A, B, none⟩) hX u
  have k2 := (h.ks.below hb).other (p := ⟨S + 1 + 1 + 1 + A, B, none⟩) (by simp; omega) u
  have k3 := (h.ko.below hb).other (p := ⟨S + 1 + 1 + 1 + A, B, none⟩) (by simp; omega) u
  exact ⟨k1.look 0 rfl, k1.look 1 rfl, k1.look 2 rfl, k1.look 3 rfl, k2.look 0 rfl, k2.look 1 rfl, k3.look A (outArr_get hA hA)⟩

set_option maxHeartbeats 4000000 in
set_option maxRecDepth 100000 in
theorem chains_any (p : Pat) (n d : Int) (v : Value) (w : World) (h : PatF 0 w v p) (hp : PValid p) (hs : FSize n d) :
    Calls Try.prog 72 #[v, .agg #[.int .i64 n, .int .i64 d]] w fun e w' => (∃ vm ok, e = .returned (.tuple #[vm, .bool ok]) ∧
      ((ok = false ∧ vm = .slice none 0 0 ∧ ∃ a, a < p.n.toNat ∧ 0 < chainM p n d a a) ∨ (ok = true ∧ (∀ a, a < p.n.toNat → chainM p n d a a ≤ 0) ∧ MatF w.heap.size w' vm p.n.toNat (chainM p n d)))) ∧ Below w.heap.size w w' := by
  have h00 := h
  obtain ⟨ao, cap, rfl, hcap, hmax, hc⟩ := h.shape
  unfold maxLen at hmax
  clear h
  obtain ⟨N, hN⟩ : ∃ N : Nat, p.n = N := ⟨p.n.toNat, by have := hp.1; omega⟩
  obtain ⟨hp1, hp2, hp3, hp4⟩ := hp
  rw [hN] at hp1 hp2
  obtain ⟨L, hL⟩ : ∃ L, p.rules.length = L := ⟨_, rfl⟩
  have HL := hid hL
  have HN := hid hN
  have HP4 := hid hp4
  have HS := hid hs
  rw [hL] at hcap hp3 h00 ⊢
  rw [hN] at h00 ⊢
  clear hL hN hp4 hs hc
  go_enter Try.func72, Try.ntmps72
  go_wp2_with (at_make; refine wpList_mkr rfl (.tmp 18) (.tmp 18) 77 rfl 49 (.slice none 0 0) 24 Try.underlying77 infoInts rfl _ _ N rfl rfl (by omega) (by omega) ?_)
  rw [made_out (w.heap.size + 1 + 1 + 1)]
  obtain ⟨w0, hw0, k0, k1, k2, hB, hsz⟩ := three_new w #[.int .i64 (N : Int), .slice ao L cap] #[.int .i64 n, .int .i64 d] (outArr (w.heap.size + 1 + 1 + 1) N 0) 24 26 49
  rw [hw0]
  clear hw0
  obtain ⟨S, hS⟩ : ∃ S, w.heap.size = S := ⟨_, rfl⟩
  rw [hS] at k0 k1 k2 hB hsz ⊢
  have hch : Ch w0 S N 0 #[.int .i64 (N : Int), .slice ao L cap] n d m0 := ⟨k0, k1, k2, fun a ha => absurd ha (Nat.not_lt_zero a)⟩
  have HSS := hid hS
  clear hS k0 k1 k2
  go_loopw [22] (fun x wr => ∃ k : Nat, x = .int .i64 k ∧ k ≤ N ∧ Ch wr S N k #[.int .i64 (N : Int), .slice ao L cap] n d m0 ∧ wr.heap.size = S + 1 + 1 + 1 + k ∧ Below S w wr) (fun x _ => N - (intOf x).toNat)
  case atStart => exact ⟨0, rfl, Nat.zero_le _, hch, by omega, hB⟩
  case round =>
    obtain ⟨k, rfl, hk, hch', hsz', hbel⟩ := hrel
    have HZ := hid hsz'
    clear hsz' hch
    by_cases hkN : k < N
    · have c0 := hch'.kp.look 0 rfl
      have f0 := hch'.ko.frozen
      have cO := hch'.ko.look k (outArr_old hkN (Nat.lt_irrefl k))
      have l1 := hch'.kp.lt
      have l2 := hch'.ko.lt
      go_wp2_with (at_make; refine wpList_mkr rfl (.tmp 28) (.tmp 28) 49 rfl 3 (.int .i64 0) 8 Try.underlying49 infoInt rfl _ _ N rfl rfl (by omega) (by omega) ?_)
      rw [HZ.out, made_row]
      have hg := hch'.grow HZ.out (fun _ => 0)
      have hbg : Below S w ((wr.setCell ⟨S + 1 + 1, k, none⟩ (.slice (some ⟨S + 1 + 1 + 1 + k, 0, none⟩) N N)).alloc (.cells (rowArr N (fun _ => 0)) 3)) := (hbel.setCell (Nat.le_add_right S 2) _).alloc (by simp [World.setCell]; omega) _
      have hzg : ((wr.setCell ⟨S + 1 + 1, k, none⟩ (.slice (some ⟨S + 1 + 1 + 1 + k, 0, none⟩) N N)).alloc (.cells (rowArr N (fun _ => 0)) 3)).heap.size = S + 1 + 1 + 1 + (k + 1) := by simp [World.setCell, HZ.out]; omega
      obtain ⟨wg, hwg⟩ : ∃ wg, (wr.setCell ⟨S + 1 + 1, k, none⟩ (.slice (some ⟨S + 1 + 1 + 1 + k, 0, none⟩) N N)).alloc (.cells (rowArr N (fun _ => 0)) 3) = wg := ⟨_, rfl⟩
      rw [hwg] at hg hbg hzg ⊢
      have HZG := hid hzg
      clear hwg hzg hch' c0 f0 cO l1 l2 hbel HZ
      go_loopw [36] (fun x wr => ∃ b : Nat, x = .int .i64 b ∧ b ≤ N ∧ Ch wr S N (k + 1) #[.int .i64 (N : Int), .slice ao L cap] n d (fun a => if a = k then (fun x => if x < b then NONE else 0) else m0 a) ∧ wr.heap.size = S + 1 + 1 + 1 + (k + 1) ∧ Below S w wr) (fun x _ => N - (intOf x).toNat)
      case atStart => exact ⟨0, rfl, Nat.zero_le _, by simpa using hg, HZG.out, hbg⟩
      case round =>
        obtain ⟨b, rfl, hb, hc2, hz2, hbel2⟩ := hrel
        have HZ2 := hid hz2
        clear hz2 hg hbg
        have cO := hc2.ko.look k (outArr_get hkN (Nat.lt_succ_self k))
        have hrow := hc2.km k (Nat.lt_succ_self k)
        have fr := hrow.frozen
        by_cases hbN : b < N
        · have cb := hrow.look b (rowArr_get hbN)
          simp only [if_true] at cb
          rw [if_neg (Nat.lt_irrefl b)] at cb
          go_wp2
          go_roundw
          case rel =>
            refine ⟨b + 1, by go_num, by omega, (hc2.set k b NONE).congr (fun a _ x _ => ?_), by simpa [World.setCell] using HZ2.out, hbel2.setCell (by show S ≤ S + 1 + 1 + 1 + k; omega) _⟩
            unfold upd
            by_cases hak : a = k
            · subst hak
              by_cases hxb : x = b
              · subst hxb; simp
              · simp only [true_and, hxb, if_false, if_true]
                by_cases h1 : x < b
                · rw [if_pos h1, if_pos (by omega)]
                · rw [if_neg h1, if_neg (by omega)]
            · simp [hak]
          case measure => simp [intOf]; omega
        · obtain rfl : b = N := by omega
          have cb := hrow.look k (rowArr_get hkN)
          simp only [if_true] at cb
          go_wp2
          go_roundw
          case rel =>
            refine ⟨k + 1, by go_num, by omega, (hc2.set k k 0).congr (fun a ha x hx => ?_), by simpa [World.setCell] using HZ2.out, hbel2.setCell (by show S ≤ S + 1 + 1 + 1 + k; omega) _⟩
            unfold upd m0
            by_cases hak : a = k
            · subst hak
              by_cases hxb : x = a
              · subst hxb; simp
              · simp [hxb, hx, Ne.symm hxb]
            · simp [hak]
          case measure => simp [intOf]; omega
    · obtain rfl : k = N := by omega
      have c0 := hch'.kp.look 0 rfl
      have c1 := hch'.kp.look 1 rfl
      have hB1 : Below w.heap.size w wr := by rw [HSS.out]; exact hbel
      go_wp2_with fail
      refine (All4_any p _ _ (h00.below hB1) (by rw [HN.out]; omega) (by rw [HN.out]; omega) (by rw [HL.out]; omega)).mono ?_
      rintro e w1 ⟨v1, v2, rfl, hr1, hr2, hb1⟩
      have hch1 := hch'.below hb1
      have hbel1 := hbel.trans (hb1.mono (by have := HZ.out; omega))
      have hlt1 : S + 1 + 1 + 1 + k ≤ w1.heap.size := by have := hb1.size; have := HZ.out; omega
      obtain ⟨ro, rcap, rfl, hrc, hrm, hrcells⟩ := hr1
      unfold maxLen at hrm
      rw [HZ.out] at hrcells
      clear hch' hr2 hb1 hbel hB1 c0 c1
      obtain ⟨E, hE⟩ : ∃ E, (ext p).length = E := ⟨_, rfl⟩
      have HE := hid hE
      have hE80 : E ≤ 80 := by rw [← hE]; unfold ext; rw [List.length_append, List.length_map, List.length_range, HL.out, HN.out]; omega
      have HRV : Hid (∀ r ∈ ext p, RV (k : Int) r) := by have := ext_rv (p := p) (by rw [HN.out]; omega) HP4.out; rw [HN.out] at this; exact this
      rw [hE] at hrc ⊢
      clear hE
      go_wp2_with fail
      go_loopw [60] (fun x wr => ∃ j : Nat, x = .int .i64 j ∧ j ≤ E ∧ Ch wr S k k #[.int .i64 (k : Int), .slice ao L cap] n d (((ext p).take j).foldl (addR n d) m0) ∧ CellsOf (S + 1 + 1 + 1 + k) wr ro (ruCells (ext p)) ∧ S + 1 + 1 + 1 + k ≤ wr.heap.size ∧ Below S w wr) (fun x _ => E - (intOf x).toNat)
      case atStart => exact ⟨0, rfl, Nat.zero_le _, by simpa using hch1, hrcells, hlt1, hbel1⟩
      case round =>
        obtain ⟨j, rfl, hj, hc3, hrcs, hlt3, hbel3⟩ := hrel
        clear hch1 hrcells hlt1 hbel1
        by_cases hjE : j < E
        · obtain ⟨r, hr⟩ := ex_rule (l := ext p) (i := j) (by rw [HE.out]; exact hjE)
          obtain ⟨b, off, rfl, hb, d0, d1, d2, d3⟩ := ru_cell hrcs hr
          have hrv := HRV.out r (rule_mem hr)
          have hfold : ((ext p).take (j + 1)).foldl (addR n d) m0 = addR n d (((ext p).take j).foldl (addR n d) m0) r := by
            rw [List.take_succ_eq_append_getElem (by rw [HE.out]; exact hjE), List.foldl_append]
            have : (ext p)[j]'(by rw [HE.out]; exact hjE) = r := (List.getElem?_eq_some_iff.1 hr).2
            rw [this]; rfl
          generalize ((ext p).take j).foldl (addR n d) m0 = M at hc3 hfold
          have HRV2 := hid hrv
          have HFO := hid hfold
          clear hr hfold
          obtain ⟨A, hA⟩ : ∃ A : Nat, r.a = A := ⟨r.a.toNat, by have := hrv.1; omega⟩
          obtain ⟨B, hBB⟩ : ∃ A : Nat, r.b = A := ⟨r.b.toNat, by have := hrv.2.2.1; omega⟩
          have hAk : A < k := by have := hrv.2.1; omega
          have hBk : B < k := by have := hrv.2.2.2.1; omega
          rw [hA] at d0
          rw [hBB] at d1
          have HA := hid hA
          have HBB := hid hBB
          clear hA hBB hrv
          obtain ⟨rc, hrcc⟩ : ∃ x, r.c = x := ⟨_, rfl⟩
          obtain ⟨rd, hrdd⟩ : ∃ x, r.d = x := ⟨_, rfl⟩
          rw [hrcc] at d2
          rw [hrdd] at d3
          have WT : Hid (∀ w, Calls Try.prog 81 #[.agg #[.int .i64 (A : Int), .int .i64 (B : Int), .int .i64 rc, .int .i64 rd], .agg #[.int .i64 n, .int .i64 d]] w fun e w' => e = .returned (.int .i64 (wt r n d)) ∧ Below w.heap.size w w') := by
            rw [← HA.out, ← HBB.out, ← hrcc, ← hrdd]; exact fun w => weight_any k r n d w HRV2.out HS.out
          clear hrcc hrdd
          go_upto_region 17 with fail
          have kr := Blk.new wr #[.int .i64 (A : Int), .int .i64 (B : Int), .int .i64 rc, .int .i64 rd] 46
          have hbW : Below wr.heap.size wr (wr.alloc (.cells #[.int .i64 (A : Int), .int .i64 (B : Int), .int .i64 rc, .int .i64 rd] 46)) := (Below.refl _ _).alloc (Nat.le_refl _) _
          have hzW : (wr.alloc (.cells #[.int .i64 (A : Int), .int .i64 (B : Int), .int .i64 rc, .int .i64 rd] 46)).heap.size = wr.heap.size + 1 := World.size_alloc _ _
          obtain ⟨W0, hW0⟩ : ∃ W0, wr.alloc (.cells #[.int .i64 (A : Int), .int .i64 (B : Int), .int .i64 rc, .int .i64 rd] 46) = W0 := ⟨_, rfl⟩
          rw [hW0] at kr hbW hzW ⊢
          have hcW := hc3.below hbW
          have hrW := hrcs.below hbW
          have hBW := hbel3.trans (hbW.mono (by omega))
          obtain ⟨X, hX⟩ : ∃ X, wr.heap.size = X := ⟨_, rfl⟩
          rw [hX] at kr hzW hlt3 ⊢
          clear hW0 hX hbW hc3 hrcs hbel3 d0 d1 d2 d3 hb
          have hXA : X ≠ S + 1 + 1 + 1 + A := by omega
          have hWd := (Below.refl W0.heap.size W0).drew
          have z0 := fun x : Sub W0 => (keep17 kr hcW hAk x.b).1
          have z1 := fun x : Sub W0 => (keep17 kr hcW hAk x.b).2.1
          have z2 := fun x : Sub W0 => (keep17 kr hcW hAk x.b).2.2.1
          have z3 := fun x : Sub W0 => (keep17 kr hcW hAk x.b).2.2.2.1
          have z4 := fun x : Sub W0 => (keep17 kr hcW hAk x.b).2.2.2.2.1
          have z5 := fun x : Sub W0 => (keep17 kr hcW hAk x.b).2.2.2.2.2.1
          have z6 := fun x : Sub W0 => (keep17 kr hcW hAk x.b).2.2.2.2.2.2
          have z7 := fun x : Sub W0 => ((hcW.below x.b).km A hAk).look B (rowArr_get hBk)
          have z8 := fun x : Sub W0 => ((hcW.below x.b).km A hAk).frozen
          refine wp_region_snoc' (C := fun w' => ∃ x : Sub _, w' = x.w) (l := [_, _, _, _, _, _, _, _, _, _, _, _, _, _, _, _, _, _, _, _, _]) rfl (by kernel_rfl) (by kernel_rfl) (by kernel_rfl) (Sub.first _) ?_
          repeat (quiet_step ((go_at_call 81; refine sub_call (WT.out _))))
          refine wpQuiet_nil ?_
          intro _ hw'
          obtain ⟨xq, hw''⟩ := hw'
          subst hw''
          have hz := hcW.below xq.b
          have hcs := (hrW.below xq.b).setCell (p := ⟨S + 1 + 1 + 1 + A, B, none⟩) (by simp; omega) (.int .i64 (if M A B < wt r n d then wt r n d else M A B))
          have hset := hz.set A B (if M A B < wt r n d then wt r n d else M A B)
          have hbx : Below S w xq.w := hBW.trans (xq.b.mono (by omega))
          have hsx : X + 1 ≤ xq.w.heap.size := by have := xq.b.size; omega
          go_wp2
          go_roundw
          case rel =>
            refine ⟨j + 1, by go_num, by omega, ?_, hcs, by simp [World.setCell]; omega, hbx.setCell (by show S ≤ S + 1 + 1 + 1 + A; omega) _⟩
            rw [HFO.out]
            have e : addR n d M r = upd M A B (if M A B < wt r n d then wt r n d else M A B) := by
              unfold addR
              rw [HA.out, HBB.out, Int.toNat_natCast, Int.toNat_natCast]
              congr 1
              split <;> omega
            rw [e]
            exact hset
          case measure => simp [intOf]; omega
        · obtain rfl : j = E := by omega
          have htk : (ext p).take j = ext p := List.take_of_length_le (by rw [HE.out]; exact Nat.le_refl _)
          rw [htk] at hc3
          obtain ⟨M0, hM0⟩ : ∃ M0, (ext p).foldl (addR n d) m0 = M0 := ⟨_, rfl⟩
          rw [hM0] at hc3
          have HM0 := hid hM0
          clear hM0 htk hrcs hlt3
          have c0 := hc3.kp.look 0 rfl
          go_wp2_with fail
          clear c0
          generalize wr = w4 at *
          go_loopw [88] (fun x wr => ∃ m : Nat, x = .int .i64 m ∧ m ≤ k ∧ Ch wr S k k #[.int .i64 (k : Int), .slice ao L cap] n d ((List.range m).foldl (fwStep k) M0) ∧ Below S w wr) (fun x _ => k - (intOf x).toNat)
          case atStart => exact ⟨0, rfl, Nat.zero_le _, hc3, hbel3⟩
          case round =>
            obtain ⟨m, rfl, hm, hc4, hbel4⟩ := hrel
            clear hc3 hbel3
            have c0 := hc4.kp.look 0 rfl
            by_cases hmk : m < k
            · go_wp2_with fail
              clear c0
              obtain ⟨M1, hM1⟩ : ∃ M1, (List.range m).foldl (fwStep k) M0 = M1 := ⟨_, rfl⟩
              rw [hM1] at hc4
              have HM1 := hid hM1
              clear hM1
              generalize wr = w5 at *
              go_loopw [93] (fun x wr => ∃ a : Nat, x = .int .i64 a ∧ a ≤ k ∧ Ch wr S k k #[.int .i64 (k : Int), .slice ao L cap] n d ((List.range a).foldl (fwRow k m) M1) ∧ Below S w wr) (fun x _ => k - (intOf x).toNat)
              case atStart => exact ⟨0, rfl, Nat.zero_le _, hc4, hbel4⟩
              case round =>
                obtain ⟨a, rfl, ha, hc5, hbel5⟩ := hrel
                clear hc4 hbel4
                have c0 := hc5.kp.look 0 rfl
                by_cases hak : a < k
                · go_wp2_with fail
                  clear c0
                  obtain ⟨M2, hM2⟩ : ∃ M2, (List.range a).foldl (fwRow k m) M1 = M2 := ⟨_, rfl⟩
                  rw [hM2] at hc5
                  have HM2 := hid hM2
                  clear hM2
                  generalize wr = w6 at *
                  go_loopw [98] (fun x wr => ∃ b : Nat, x = .int .i64 b ∧ b ≤ k ∧ Ch wr S k k #[.int .i64 (k : Int), .slice ao L cap] n d ((List.range b).foldl (fwC m a) M2) ∧ Below S w wr) (fun x _ => k - (intOf x).toNat)
                  case atStart => exact ⟨0, rfl, Nat.zero_le _, hc5, hbel5⟩
                  case round =>
                    obtain ⟨b, rfl, hb, hc6, hbel6⟩ := hrel
                    clear hc5 hbel5
                    by_cases hbk : b < k
                    · obtain ⟨M3, hM3⟩ : ∃ M3, (List.range b).foldl (fwC m a) M2 = M3 := ⟨_, rfl⟩
                      rw [hM3] at hc6
                      have hfo : (List.range (b + 1)).foldl (fwC m a) M2 = fwC m a M3 b := by rw [foldl_range_succ, hM3]
                      have HFO := hid hfo
                      clear hM3 hfo
                      have oa := hc6.ko.look a (outArr_get hak hak)
                      have om := hc6.ko.look m (outArr_get hmk hmk)
                      have cam := (hc6.km a hak).look m (rowArr_get hmk)
                      have cmb := (hc6.km m hmk).look b (rowArr_get hbk)
                      obtain ⟨xam, hxam⟩ : ∃ x, M3 a m = x := ⟨_, rfl⟩
                      obtain ⟨xmb, hxmb⟩ : ∃ x, M3 m b = x := ⟨_, rfl⟩
                      rw [hxam] at cam
                      rw [hxmb] at cmb
                      by_cases h1 : xam = -1152921504606846976
                      · have hst : fwC m a M3 b = M3 := by unfold fwC NONE; rw [if_neg (by rw [hxam]; intro hh; exact hh.1 h1)]
                        have HXA := hid hxam
                        have HXB := hid hxmb
                        have HST := hid hst
                        clear hxam hxmb hst
                        subst h1
                        go_wp2
                        go_roundw
                        case rel => exact ⟨b + 1, by go_num, by omega, by rw [HFO.out, HST.out]; exact hc6, hbel6⟩
                        case measure => simp [intOf]; omega
                      · by_cases h2 : xmb = -1152921504606846976
                        · have hst : fwC m a M3 b = M3 := by unfold fwC NONE; rw [if_neg (by rw [hxmb]; intro hh; exact hh.2 h2)]
                          have HXA := hid hxam
                          have HXB := hid hxmb
                          have HST := hid hst
                          clear hxam hxmb hst
                          subst h2
                          go_wp2
                          go_roundw
                          case rel => exact ⟨b + 1, by go_num, by omega, by rw [HFO.out, HST.out]; exact hc6, hbel6⟩
                          case measure => simp [intOf]; omega
                        · have hst : fwC m a M3 b = upd M3 a b (max (M3 a b) (wrap64 (xam + xmb))) := by
                            unfold fwC NONE
                            rw [hxam, hxmb, if_pos ⟨h1, h2⟩]
                          have HXA := hid hxam
                          have HXB := hid hxmb
                          have HST := hid hst
                          clear hxam hxmb hst
                          have hn1 : (xam != -1152921504606846976) = true := by simpa using h1
                          have hn2 : (xmb != -1152921504606846976) = true := by simpa using h2
                          go_wp2_with fail
                          have z0 := fun x : Sub wr => ((hc6.below x.b).ko).look a (outArr_get hak hak)
                          have z1 := fun x : Sub wr => ((hc6.below x.b).ko).look m (outArr_get hmk hmk)
                          have z2 := fun x : Sub wr => (((hc6.below x.b).km a hak).look m (rowArr_get hmk)).trans (congrArg (fun y => some (Value.int .i64 y)) HXA.out)
                          have z3 := fun x : Sub wr => (((hc6.below x.b).km m hmk).look b (rowArr_get hbk)).trans (congrArg (fun y => some (Value.int .i64 y)) HXB.out)
                          have z4 := fun x : Sub wr => ((hc6.below x.b).km a hak).look b (rowArr_get hbk)
                          have z5 := fun x : Sub wr => ((hc6.below x.b).km a hak).frozen
                          clear oa om cam cmb hn1 hn2
                          refine wp_region_snoc' (C := fun w' => ∃ x : Sub _, w' = x.w) (l := [_, _, _, _, _, _, _, _, _, _, _, _, _, _, _, _, _, _, _, _, _, _, _, _, _, _, _, _, _]) rfl (by kernel_rfl) (by kernel_rfl) (by kernel_rfl) (Sub.first _) ?_
                          repeat (quiet_step ((fail)))
                          refine wpQuiet_nil ?_
                          intro _ hw'
                          obtain ⟨xq, hw''⟩ := hw'
                          subst hw''
                          have hz := (hc6.below xq.b)
                          have hbx : Below S w xq.w := hbel6.trans (xq.b.mono (by have := hc6.ko.lt; omega))
                          have hset := hz.set a b (if M3 a b < wrap64 (xam + xmb) then wrap64 (xam + xmb) else M3 a b)
                          go_wp2
                          go_roundw
                          case rel =>
                            refine ⟨b + 1, by go_num, by omega, ?_, hbx.setCell (by show S ≤ S + 1 + 1 + 1 + a; omega) _⟩
                            rw [HFO.out, HST.out]
                            have e : upd M3 a b (max (M3 a b) (wrap64 (xam + xmb))) = upd M3 a b (if M3 a b < wrap64 (xam + xmb) then wrap64 (xam + xmb) else M3 a b) := by
                              congr 1
                              generalize wrap64 (xam + xmb) = y
                              split <;> omega
                            rw [e]
                            exact hset
                          case measure => simp [intOf]; omega
                    · obtain rfl : b = k := by omega
                      go_wp2
                      go_roundw
                      case rel =>
                        refine ⟨a + 1, by go_num, by omega, ?_, hbel6⟩
                        rw [foldl_range_succ, HM2.out]
                        exact hc6
                      case measure => simp [intOf]; omega
                · obtain rfl : a = k := by omega
                  go_wp2
                  go_roundw
                  case rel =>
                    refine ⟨m + 1, by go_num, by omega, ?_, hbel5⟩
                    rw [foldl_range_succ, HM1.out]
                    exact hc5
                  case measure => simp [intOf]; omega
            · obtain rfl : m = k := by omega
              go_wp2_with fail
              clear c0
              obtain ⟨F, hF⟩ : ∃ F, chainM p n d = F := ⟨_, rfl⟩
              have hF2 : (List.range m).foldl (fwStep m) M0 = F := by
                rw [← hF, ← HM0.out]
                unfold chainM fwAll
                rw [HN.out, Int.toNat_natCast]
              rw [hF2] at hc4
              have HF := hid hF
              clear hF hF2
              generalize wr = w5 at *
              go_loopw [153] (fun x wr => ∃ i : Nat, x = .int .i64 i ∧ i ≤ m ∧ (∀ a, a < i → F a a ≤ 0) ∧ Ch wr S m m #[.int .i64 (m : Int), .slice ao L cap] n d F ∧ Below S w wr) (fun x _ => m - (intOf x).toNat)
              case atStart => exact ⟨0, rfl, Nat.zero_le _, fun a ha => absurd ha (Nat.not_lt_zero a), hc4, hbel4⟩
              case round =>
                obtain ⟨i, rfl, hi, hdia, hc5, hbel5⟩ := hrel
                clear hc4 hbel4
                by_cases him : i < m
                · have o1 := hc5.ko.look i (outArr_get him him)
                  have c1 := (hc5.km i him).look i (rowArr_get him)
                  obtain ⟨y, hy⟩ : ∃ y, F i i = y := ⟨_, rfl⟩
                  rw [hy] at c1
                  have HY := hid hy
                  clear hy
                  by_cases hpos : 0 < y
                  · go_wp2
                    refine bodyPost_ret (v := .tuple #[.slice none 0 0, .bool false]) (by simp [results, Try.results72, go_sem]) rfl ⟨⟨_, _, rfl, .inl ⟨rfl, rfl, i, ?_, ?_⟩⟩, by rw [HSS.out]; exact hbel5⟩
                    · rw [Int.toNat_natCast]; exact him
                    · rw [HF.out, HY.out]; exact hpos
                  · go_wp2
                    go_roundw
                    case rel =>
                      refine ⟨i + 1, by go_num, by omega, fun a ha => ?_, hc5, hbel5⟩
                      by_cases hai : a = i
                      · subst hai; rw [HY.out]; omega
                      · exact hdia a (by omega)
                    case measure => simp [intOf]; omega
                · obtain rfl : i = m := by omega
                  go_wp2
                  refine bodyPost_ret (v := .tuple #[.slice (some ⟨S + 1 + 1, 0, none⟩) i i, .bool true]) (by simp [results, Try.results72, go_sem]) rfl ⟨⟨_, _, rfl, .inr ⟨rfl, ?_, ?_⟩⟩, by rw [HSS.out]; exact hbel5⟩
                  · rw [Int.toNat_natCast, HF.out]; exact hdia
                  · rw [Int.toNat_natCast, HF.out, HSS.out]
                    exact ⟨S + 1 + 1, S + 1 + 1 + 1, rfl, by omega, by omega, hc5.ko, hc5.km⟩

end Go.Proofs.Ytmknengmjepdaaa

/- Walk of trankref04.Least. -/
namespace Go.Proofs.Ytmknengmjepdaaa
open Go.RowKit

def I64 (z : Int) : Prop := -9223372036854775808 ≤ z ∧ z ≤ 9223372036854775807
theorem wrap64_I64 (z : Int) : I64 (wrap64 z) := by unfold I64 wrap64; omega
theorem upd_I64 {M : Nat → Nat → Int} (h : ∀ a b, I64 (M a b)) (x y : Nat) {z : Int} (hz : I64 z) : ∀ a b, I64 (upd M x y z a b) := by
  intro a b; unfold upd; split
  · exact hz
  · exact h a b
theorem max_I64 {x y : Int} (hx : I64 x) (hy : I64 y) : I64 (max x y) := by unfold I64 at *; omega
theorem fwC_I64 {m a : Nat} {M : Nat → Nat → Int} (h : ∀ a b, I64 (M a b)) (b : Nat) : ∀ x y, I64 (fwC m a M b x y) := by
  intro x y; unfold fwC; split
  · exact upd_I64 h _ _ (max_I64 (h _ _) (wrap64_I64 _)) x y
  · exact h x y
theorem foldl_inv {α β : Type} {P : β → Prop} {f : β → α → β} (hf : ∀ b a, P b → P (f b a)) (l : List α) (b : β) (h : P b) : P (l.foldl f b) := by
  induction l generalizing b with
  | nil => exact h
  | cons x xs ih => exact ih _ (hf b x h)
theorem foldl_inv_mem {α β : Type} {P : β → Prop} {f : β → α → β} (l : List α) (hf : ∀ b a, a ∈ l → P b → P (f b a)) (b : β) (h : P b) : P (l.foldl f b) := by
  induction l generalizing b with
  | nil => exact h
  | cons x xs ih => exact ih (fun b a ha => hf b a (List.mem_cons_of_mem _ ha)) _ (hf b x (List.mem_cons_self ..) h)
theorem chainM_I64 {p : Pat} {n d : Int} (hp : PValid p) (hs : FSize n d) : ∀ a b, I64 (chainM p n d a b) := by
  unfold chainM fwAll
  refine foldl_inv (P := fun M : Nat → Nat → Int => ∀ a b, I64 (M a b)) (fun M m hM => ?_) _ _ ?_
  · unfold fwStep
    refine foldl_inv (P := fun M : Nat → Nat → Int => ∀ a b, I64 (M a b)) (fun M a hM => ?_) _ _ hM
    unfold fwRow
    exact foldl_inv (P := fun M : Nat → Nat → Int => ∀ a b, I64 (M a b)) (fun M b hM => fwC_I64 hM b) _ _ hM
  · refine foldl_inv_mem (P := fun M : Nat → Nat → Int => ∀ a b, I64 (M a b)) _ (fun M r hr hM => ?_) _ ?_
    · have hrv := ext_rv hp.1 hp.2.2.2 r hr
      have hw := wt_le hrv hs
      exact upd_I64 hM _ _ (max_I64 (hM _ _) ⟨by omega, by omega⟩)
    · intro a b; unfold m0 NONE I64; split <;> omega

/-- Whether some loop's weight is above 0. -/
def chBad (p : Pat) (n d : Int) : Bool := (List.range p.n.toNat).any fun a => decide (0 < chainM p n d a a)
/-- One element of Least. -/
def leastF (p : Pat) (n d : Int) (i : Nat) : Int × Int := (newN (chainM p n d i 0) d, newD (chainM p n d i 0) d)

def rLeastE (p : Pat) (n d : Int) : Int := if (decide (PValid p) && decide (FSize n d)) = false then 2 else if chBad p n d then 10 else 0
def leastL (p : Pat) (n d : Int) : List (Int × Int) := (List.range p.n.toNat).map (leastF p n d)
def rLeastL (p : Pat) (n d : Int) : List (Int × Int) := if rLeastE p n d = 0 then leastL p n d else []

theorem infoFrac : (Try.prog.info? 26).map (fun i => (i.zero, i.size, i.bytes)) = some (some (frV 0 0), 2, 16) := by kernel_rfl

theorem keepL {W w' : World} {a b c i N : Nat} {n d : Int} {base : Nat} {f : Nat → Int} {s t u : TypeId} (k1 : Blk W a #[.int .i64 n, .int .i64 d] s) (ko : Blk W b (outArr base N N) t) (km : Blk W c (rowArr N f) u) (hi : i < N) (hb : Below W.heap.size W w') :
    w'.cell? ⟨a, 1, none⟩ = some (.int .i64 d) ∧ w'.cell? ⟨b, i, none⟩ = some (.slice (some ⟨base + i, 0, none⟩) N N) ∧ w'.cell? ⟨c, 0, none⟩ = some (.int .i64 (f 0)) :=
  ⟨(k1.below hb).look 1 rfl, (ko.below hb).look i (outArr_get hi hi), (km.below hb).look 0 (rowArr_get (by omega))⟩
set_option maxHeartbeats 4000000 in
theorem rLeast_any (p : Pat) (n d : Int) (v : Value) (w : World) (h : PatF 0 w v p) :
    Calls Try.prog 24 #[v, .agg #[.int .i64 n, .int .i64 d]] w fun e w' => (∃ vm, e = .returned (.tuple #[vm, .int .i64 (rLeastE p n d)]) ∧ FrsR w.heap.size w' vm (rLeastL p n d)) ∧ Below w.heap.size w w' := by
  obtain ⟨sv, rfl, -⟩ := id h
  go_enter Try.func24, Try.ntmps24
  go_wp2_with fail
  obtain ⟨w0, hw0, k0, k1, hB, hsz⟩ := one_new w #[.int .i64 p.n, sv] #[.int .i64 n, .int .i64 d] 24 26
  rw [hw0]
  clear hw0
  have hB0 := hB
  refine (Good_any p n d _ _ (h.below hB)).mono ?_
  rintro e w1 ⟨rfl, hb1⟩
  obtain ⟨S, hS⟩ : ∃ S, w.heap.size = S := ⟨_, rfl⟩
  rw [hS] at k0 k1 hB hsz ⊢
  have HS := hid hS
  replace k0 := k0.below hb1
  replace k1 := k1.below hb1
  have hB1 := hB.trans (hb1.mono (by omega))
  have hs1 := hb1.size
  have hsz1 : S + 1 + 1 ≤ w1.heap.size := by omega
  clear hB hb1 hs1 hsz hB0 hS
  by_cases hg : (decide (PValid p) && decide (FSize n d)) = true
  · rw [hg]
    have hpv : PValid p := by simp only [Bool.and_eq_true, decide_eq_true_eq] at hg; exact hg.1
    have hfs : FSize n d := by simp only [Bool.and_eq_true, decide_eq_true_eq] at hg; exact hg.2
    have HG := hid hg
    have HP := hid hpv
    have HF := hid hfs
    have HI := hid (chainM_I64 hpv hfs)
    clear hg hpv hfs
    have c0 := k0.look 0 rfl
    have c1 := k0.look 1 rfl
    have c2 := k1.look 0 rfl
    have c3 := k1.look 1 rfl
    go_wp2_with fail
    refine (chains_any p n d _ _ (h.below (by rw [HS.out]; exact hB1)) HP.out HF.out).mono ?_
    rintro e w2 ⟨⟨vm, ok, rfl, hcase⟩, hb2⟩
    replace k0 := k0.below hb2
    replace k1 := k1.below hb2
    have hB2 := hB1.trans (hb2.mono (by omega))
    have hs2 := hb2.size
    have hsz2 : S + 1 + 1 ≤ w2.heap.size := by omega
    clear c0 c1 c2 c3 hB1 hb2 hs2
    rcases hcase with ⟨rfl, rfl, hbad⟩ | ⟨rfl, hgood, hmat⟩
    · have HBAD := hid hbad
      clear hbad
      go_wp2
      have hE : rLeastE p n d = 10 := by
        unfold rLeastE
        rw [HG.out, if_neg (by decide), if_pos]
        unfold chBad
        obtain ⟨a, ha, hpos⟩ := HBAD.out
        exact List.any_eq_true.2 ⟨a, List.mem_range.2 ha, by simpa using hpos⟩
      have hL : rLeastL p n d = [] := by
        unfold rLeastL
        rw [hE]; rfl
      refine bodyPost_ret (v := .tuple #[.slice none 0 0, .int .i64 10]) (by simp [results, Try.results24, go_sem]) rfl ⟨⟨_, by rw [hE], ?_⟩, by rw [HS.out]; exact hB2⟩
      rw [hL]
      exact SlR.nil _ _
    · have HGOOD := hid hgood
      clear hgood
      obtain ⟨N, hN⟩ : ∃ N : Nat, p.n = N := ⟨p.n.toNat, by have := HP.out.1; omega⟩
      have hN16 : N ≤ 16 := by have := HP.out.2.1; omega
      rw [hN] at k0
      have HN := hid hN
      clear hN
      have hN1 : 1 ≤ N := by have := HP.out.1; have := HN.out; omega
      obtain ⟨o, base, rfl, hlo, hlb, ko, km⟩ := hmat
      rw [HN.out, Int.toNat_natCast] at ko km ⊢
      have c0 := k0.look 0 rfl
      go_wp2_with fail
      clear c0
      go_loopw [8, 26] (fun y x wr => ∃ i : Nat, x = .int .i64 i ∧ i ≤ N ∧ wr.ownsRow w2.heap.size 26 2 y i (frCells ((List.range i).map (leastF p n d))) ∧ Below w2.heap.size w2 wr) (fun _ x _ => N - (intOf x).toNat)
      case atStart => exact ⟨0, rfl, Nat.zero_le _, World.ownsRow_nil _ _ _ _, Below.refl _ _⟩
      case round =>
        obtain ⟨i, rfl, hi, ho, hbel⟩ := hrel
        by_cases hiN : i < N
        · have kb := km i hiN
          have hIi := HI.out i 0
          obtain ⟨z, hz⟩ : ∃ z, chainM p n d i 0 = z := ⟨_, rfl⟩
          have NEW : Hid (∀ w, Calls Try.prog 73 #[.int .i64 z, .int .i64 d] w fun e w' => e = .returned (.tuple #[frV (leastF p n d i).1 (leastF p n d i).2, .int .i64 (newE z d)]) ∧ Below w.heap.size w w') := by
            refine hid (fun w => ?_)
            have := New_any z d w (by rw [← hz]; exact hIi.1) (by rw [← hz]; exact hIi.2) (by have := HF.out.1.1; omega) (by have := HF.out.1.2.1; omega)
            unfold leastF
            rw [hz]
            exact this
          have hsnoc : frCells ((List.range (i + 1)).map (leastF p n d)) = frCells ((List.range i).map (leastF p n d)) ++ [.int .i64 (leastF p n d i).1, .int .i64 (leastF p n d i).2] := by
            rw [range_snoc, frCells_append]; rfl
          have HSN := hid hsnoc
          obtain ⟨xn, hxn⟩ : ∃ z, (leastF p n d i).1 = z := ⟨_, rfl⟩
          obtain ⟨xd, hxd⟩ : ∃ z, (leastF p n d i).2 = z := ⟨_, rfl⟩
          rw [hxn, hxd] at NEW HSN
          obtain ⟨xe, hxe⟩ : ∃ e, newE z d = e := ⟨_, rfl⟩
          rw [hxe] at NEW
          obtain ⟨g, hg⟩ : ∃ g : Nat → Int, chainM p n d i = g := ⟨_, rfl⟩
          rw [hg] at kb hz
          subst hz
          clear hIi hsnoc hxn hxd hxe hg
          go_wp2_with fail
          have hd0 := hbel.drew
          have hN0 : (0 : Int) < (N : Int) := by omega
          have hN00 : 0 < N := by omega
          have hd1 := (hbel.alloc hbel.size (.cells #[.int .i64 0, .int .i64 0] 26)).drew
          go_region_held3 (fun w' => w'.cell? ⟨S + 1, 1, none⟩ = some (.int .i64 d) ∧ w'.cell? ⟨o, i, none⟩ = some (.slice (some ⟨base + i, 0, none⟩) N N) ∧ w'.cell? ⟨base + i, 0, none⟩ = some (.int .i64 (g 0)))
            (first | (refine keepL k1 ko kb hiN ?_; assumption) | (refine keepL k1 ko kb hiN ?_; exact hW3.alloc hW3.size _) | (refine keepL k1 ko kb hiN ?_; exact ((hW3.alloc hW3.size _).setCell hW3.size _).setCell hW3.size _) | (refine keepL k1 ko kb hiN ?_; exact (hW3.setCell hbel.size _).setCell hbel.size _))
            (first
              | (go_at_call 73; refine (NEW.out _).mono ?_; rintro e w3 ⟨rfl, hb3⟩; have hW3 : Below w2.heap.size w2 w3 := hd0.trans (hb3.mono hd0.size))
              | (go_at_call 73; refine (NEW.out _).mono ?_; rintro e w3 ⟨rfl, hb3⟩; have hW3 : Below w2.heap.size w2 w3 := hd1.trans (hb3.mono hd1.size); have kv := ((Blk.new wr #[.int .i64 0, .int .i64 0] 26).drew).below hb3; have v0 := kv.look 0 rfl; have v1 := kv.look 1 rfl; have vf := kv.frozen))
          · have B4 : Below wr.heap.size wr (w3.alloc (.cells #[.int .i64 xn, .int .i64 xd] 26)) := ((Below.refl wr.heap.size wr).drew.trans hb3).alloc hb3.size _
            have kv4 := Blk.new w3 #[.int .i64 xn, .int .i64 xd] 26
            have ho4 := owns_below ho B4
            have hbel4 := hbel.trans (B4.mono hbel.size)
            have c0 := kv4.look 0 rfl
            have c1 := kv4.look 1 rfl
            obtain ⟨w4, hw4⟩ : ∃ w4, w3.alloc (.cells #[.int .i64 xn, .int .i64 xd] 26) = w4 := ⟨_, rfl⟩
            rw [hw4] at ho4 hbel4 c0 c1 ⊢
            clear hw4 B4 kv4
            obtain ⟨A, hA⟩ : ∃ A, w3.heap.size = A := ⟨_, rfl⟩
            rw [hA] at c0 c1 ⊢
            clear hA
            have hs4 := hbel4.size
            go_wp2_with (first
              | (at_builtin; refine wpList_app rfl (.tmp 41) (.tmp 43) _ rfl w2.heap.size 26 (frV 0 0) 2 16 Try.underlying27 infoFrac rfl (by decide) 26 _ _ _ rfl ho4 [.int .i64 xn, .int .i64 xd] rfl rfl (by simp [Value.oneCell']) (by unfold maxLen; omega) (by omega) (by omega) ?_; intro g5 gcap w5 ho5 hb5 _ _ _))
            go_roundw
            case rel => exact ⟨i + 1, by go_num, by omega, by rw [HSN.out]; exact ho5, hbel4.trans hb5⟩
            case measure => simp [intOf]; omega
          · have B3 : Below wr.heap.size wr w3 := ((Below.refl wr.heap.size wr).alloc (Nat.le_refl _) _).drew.trans (hb3.mono (by show wr.heap.size ≤ (wr.alloc _).heap.size; simp))
            have B4 := (B3.setCell (p := ⟨wr.heap.size, 0, none⟩) (Nat.le_refl _) (.int .i64 xn)).setCell (p := ⟨wr.heap.size, 1, none⟩) (Nat.le_refl _) (.int .i64 xd)
            have kv4 : Blk ((w3.setCell ⟨wr.heap.size, 0, none⟩ (.int .i64 xn)).setCell ⟨wr.heap.size, 1, none⟩ (.int .i64 xd)) wr.heap.size #[.int .i64 xn, .int .i64 xd] 26 := (kv.set 0 _).set 1 _
            clear kv v0 v1 vf B3
            have ho4 := owns_below ho B4
            have hbel4 := hbel.trans (B4.mono hbel.size)
            have c0 := kv4.look 0 rfl
            have c1 := kv4.look 1 rfl
            obtain ⟨w4, hw4⟩ : ∃ w4, (w3.setCell ⟨wr.heap.size, 0, none⟩ (.int .i64 xn)).setCell ⟨wr.heap.size, 1, none⟩ (.int .i64 xd) = w4 := ⟨_, rfl⟩
            rw [hw4] at ho4 hbel4 c0 c1 ⊢
            clear hw4 B4 kv4
            obtain ⟨A, hA⟩ : ∃ A, wr.heap.size = A := ⟨_, rfl⟩
            rw [hA] at c0 c1 ⊢
            clear hA
            have hs4 := hbel4.size
            go_wp2_with (first
              | (at_builtin; refine wpList_app rfl (.tmp 41) (.tmp 43) _ rfl w2.heap.size 26 (frV 0 0) 2 16 Try.underlying27 infoFrac rfl (by decide) 26 _ _ _ rfl ho4 [.int .i64 xn, .int .i64 xd] rfl rfl (by simp [Value.oneCell']) (by unfold maxLen; omega) (by omega) (by omega) ?_; intro g5 gcap w5 ho5 hb5 _ _ _))
            go_roundw
            case rel => exact ⟨i + 1, by go_num, by omega, by rw [HSN.out]; exact ho5, hbel4.trans hb5⟩
            case measure => simp [intOf]; omega
        · obtain rfl : i = N := by omega
          have hE : rLeastE p n d = 0 := by
            unfold rLeastE
            rw [HG.out, if_neg (by decide), if_neg]
            unfold chBad
            intro hb
            obtain ⟨a, ha, hpos⟩ := List.any_eq_true.1 hb
            have := HGOOD.out a (List.mem_range.1 ha)
            simp only [decide_eq_true_eq] at hpos
            omega
          have hL : rLeastL p n d = (List.range i).map (leastF p n d) := by
            unfold rLeastL leastL
            rw [if_pos hE, HN.out, Int.toNat_natCast]
          have HE := hid hE
          have HLL := hid hL
          clear hE hL
          go_wp2
          refine bodyPost_ret (v := .tuple #[u8, .int .i64 0]) (by simp [results, Try.results24, go_sem]) rfl ⟨⟨_, by rw [HE.out], ?_⟩, by rw [HS.out]; exact hB2.trans (hbel.mono (by omega))⟩
          rw [HLL.out]
          unfold FrsR
          rw [List.length_map, List.length_range]
          exact (SlR.of_owns ho).mono (by rw [HS.out]; omega)
  · have hg' : (decide (PValid p) && decide (FSize n d)) = false := by simpa using hg
    rw [hg']
    have HG := hid hg'
    clear hg hg'
    go_wp2
    have hE : rLeastE p n d = 2 := by
      unfold rLeastE
      rw [HG.out]; rfl
    have hL : rLeastL p n d = [] := by
      unfold rLeastL
      rw [hE]; rfl
    refine bodyPost_ret (v := .tuple #[.slice none 0 0, .int .i64 2]) (by simp [results, Try.results24, go_sem]) rfl ⟨⟨_, by rw [hE], ?_⟩, by rw [HS.out]; exact hB1⟩
    rw [hL]
    exact SlR.nil _ _

end Go.Proofs.Ytmknengmjepdaaa

/- Walk of slices.Equal over fractions. -/
namespace Go.Proofs.Ytmknengmjepdaaa
open Go.RowKit

set_option maxHeartbeats 1000000 in
theorem EqFr_any (l m : List (Int × Int)) (v u : Value) (w : World) (h : FrsR 0 w v l) (h2 : FrsR 0 w u m) :
    Calls Try.prog 25 #[v, u] w fun e w' => e = .returned (.bool (decide (l = m))) ∧ Below w.heap.size w w' := by
  obtain ⟨ao, cap, rfl, hcap, hmax, hc⟩ := h
  obtain ⟨ao2, cap2, rfl, hcap2, hmax2, hc2⟩ := h2
  unfold maxLen at hmax hmax2
  obtain ⟨L, hL⟩ : ∃ L, l.length = L := ⟨_, rfl⟩
  obtain ⟨M, hM⟩ : ∃ L, m.length = L := ⟨_, rfl⟩
  obtain ⟨res, hres⟩ : ∃ b, decide (l = m) = b := ⟨_, rfl⟩
  rw [hres]
  have HR := hid hres
  have HL := hid hL
  have HM := hid hM
  rw [hL] at hcap ⊢
  rw [hM] at hcap2 ⊢
  clear hres hL hM
  by_cases hLM : L = M
  · subst hLM
    go_enter Try.func25, Try.ntmps25
    go_wp2
    go_loopw [13] (fun x wr => ∃ i : Nat, x = .int .i64 i ∧ i ≤ L ∧ l.take i = m.take i ∧ Below w.heap.size w wr) (fun x _ => L - (intOf x).toNat)
    case atStart => exact ⟨0, rfl, Nat.zero_le _, by simp, Below.refl _ _⟩
    case round =>
      obtain ⟨i, rfl, hi, htk, hbel⟩ := hrel
      have HT := hid htk
      clear htk
      by_cases h1 : i < L
      · obtain ⟨b, off, rfl, hb, c0, c1⟩ := fr_cell hc (by rw [HL.out]; exact h1)
        obtain ⟨b2, off2, rfl, hb2, d0, d1⟩ := fr_cell hc2 (i := i) (by rw [HM.out]; exact h1)
        have e0 := (hbel.cell (p := ⟨b, off + i * 2, none⟩) hb).trans c0
        have e1 := (hbel.cell (p := ⟨b, off + i * 2 + 1, none⟩) hb).trans c1
        have f0 := (hbel.cell (p := ⟨b2, off2 + i * 2, none⟩) hb2).trans d0
        have f1 := (hbel.cell (p := ⟨b2, off2 + i * 2 + 1, none⟩) hb2).trans d1
        obtain ⟨n, hn⟩ : ∃ n, (l.getD i (0, 0)).1 = n := ⟨_, rfl⟩
        obtain ⟨d, hd⟩ : ∃ n, (l.getD i (0, 0)).2 = n := ⟨_, rfl⟩
        obtain ⟨n2, hn2⟩ : ∃ n, (m.getD i (0, 0)).1 = n := ⟨_, rfl⟩
        obtain ⟨d2, hd2⟩ : ∃ n, (m.getD i (0, 0)).2 = n := ⟨_, rfl⟩
        rw [hn] at e0
        rw [hd] at e1
        rw [hn2] at f0
        rw [hd2] at f1
        have HN := hid hn
        have HD := hid hd
        have HN2 := hid hn2
        have HD2 := hid hd2
        clear hn hd c0 c1 hn2 hd2 d0 d1
        have hne : ¬ (n = n2 ∧ d = d2) → l ≠ m := by
          intro hh he
          rw [he] at HN HD
          exact hh ⟨HN.out.symm.trans HN2.out, HD.out.symm.trans HD2.out⟩
        by_cases hn : n = n2
        · by_cases hd : d = d2
          · have HEN := hid hn
            have HED := hid hd
            subst hn hd
            clear hne
            go_wp2_with fail
            go_region
            go_wp2
            go_roundw
            case rel =>
              refine ⟨i + 1, by go_num, by omega, ?_, hbel.drew⟩
              have g1 := HL.out
              have g2 := HM.out
              rw [List.take_succ_eq_append_getElem (by omega), List.take_succ_eq_append_getElem (by omega), HT.out]
              have x1 : l[i]'(by omega) = l.getD i (0, 0) := by rw [List.getD_eq_getElem?_getD, List.getElem?_eq_getElem (by omega)]; rfl
              have x2 : m[i]'(by omega) = m.getD i (0, 0) := by rw [List.getD_eq_getElem?_getD, List.getElem?_eq_getElem (by omega)]; rfl
              rw [x1, x2, Prod.ext (HN.out.trans HN2.out.symm) (HD.out.trans HD2.out.symm)]
            case measure => simp [intOf]; omega
          · have hlm := hid (hne (fun hh => hd hh.2))
            have HED := hid hn
            subst hn
            clear hne
            go_wp2_with fail
            go_region
            go_wp2
            refine bodyPost_ret (v := .bool false) (by simp [results, Try.results25, go_sem]) rfl ⟨?_, hbel.drew⟩
            rw [← HR.out, decide_eq_false hlm.out]
        · have hlm := hid (hne (fun hh => hn hh.1))
          clear hne
          go_wp2_with fail
          go_region
          go_wp2
          refine bodyPost_ret (v := .bool false) (by simp [results, Try.results25, go_sem]) rfl ⟨?_, hbel.drew⟩
          rw [← HR.out, decide_eq_false hlm.out]
      · obtain rfl : i = L := by omega
        go_wp2
        refine bodyPost_ret (v := .bool true) (by simp [results, Try.results25, go_sem]) rfl ⟨?_, hbel⟩
        have g1 := HT.out
        rw [List.take_of_length_le (by rw [HL.out]; omega), List.take_of_length_le (by rw [HM.out]; omega)] at g1
        rw [← HR.out, decide_eq_true g1]
  · have hlm : l ≠ m := by
      intro he
      apply hLM
      rw [← HL.out, ← HM.out, he]
    have HLM := hid hlm
    clear hlm
    go_enter Try.func25, Try.ntmps25
    go_wp2
    refine bodyPost_ret (v := .bool false) (by simp [results, Try.results25, go_sem]) rfl ⟨?_, Below.refl _ _⟩
    rw [← HR.out, decide_eq_false HLM.out]

end Go.Proofs.Ytmknengmjepdaaa
