/- append in a region that draws its order, and where the new row lies. -/
import Derived.Test.YtcpefolhohakmaaRv
import Derived.Deep.AppendSrc
import Derived.Deep.Upon
import Derived.Maps.OwnIn
namespace Go.Proofs.Ytcpefolhohakmaa
open Go.RowKit

/-- Two worlds: the cells' blocks, but those of M, are as they were. -/
structure CellsKept (M : List Nat) (W W' : World) : Prop where
  size : W.heap.size ≤ W'.heap.size
  cells : ∀ b cs t f, b ∉ M → W.heap[b]? = some (.cells cs t f) → W'.heap[b]? = some (.cells cs t f)
theorem CellsKept.of_below {W W' : World} (h : Below W.heap.size W W') (M : List Nat) : CellsKept M W W' := ⟨h.size, fun b _ _ _ _ hb => (h.block b (Array.getElem?_eq_some_iff.1 hb).1).trans hb⟩
theorem CellsKept.grown {W W' : World} {g : Nat} (h : W.grownBy W' (some g)) : CellsKept [g] W W' := ⟨h.size, fun b _ _ _ hM hb => (h.block b (Array.getElem?_eq_some_iff.1 hb).1 (fun e => hM (by cases e; simp))).trans hb⟩
theorem CellsKept.grownN {W W' : World} (h : W.grownBy W' none) (M : List Nat) : CellsKept M W W' := ⟨h.size, fun b _ _ _ _ hb => (h.block b (Array.getElem?_eq_some_iff.1 hb).1 (fun e => by cases e)).trans hb⟩
theorem CellsKept.ranged {W W' : World} {row : Option Nat} (hg : W.grownBy W' row) (hr : ∀ r, row = some r → ∃ o : Obj, W.heap[r]? = some o ∧ o.isCells = false) (M : List Nat) : CellsKept M W W' := by
  refine ⟨hg.size, fun b cs t f _ hb => (hg.block b (Array.getElem?_eq_some_iff.1 hb).1 (fun e => ?_)).trans hb⟩
  obtain ⟨o, ho, hc⟩ := hr b e.symm
  rw [hb] at ho
  cases ho
  cases hc
theorem CellsKept.set (W : World) (p : Addr) (u : Value) : CellsKept [p.block] W (W.setCell p u) :=
  ⟨by simp [World.setCell], fun b _ _ _ hM hb => (Below.heap_setCell W p u b (fun e => hM (by rw [e]; simp))).trans hb⟩
theorem CellsKept.alloc (W : World) (o : Obj) (M : List Nat) : CellsKept M W (W.alloc o) := ⟨by simp, fun b _ _ _ _ hb => (Below.heap_alloc W o b (Array.getElem?_eq_some_iff.1 hb).1).trans hb⟩
theorem CellsKept.drew (W : World) (M : List Nat) : CellsKept M W W.drew := ⟨Nat.le_refl _, fun _ _ _ _ _ hb => hb⟩
theorem CellsKept.blk {M : List Nat} {W W' : World} (h : CellsKept M W W') {b : Nat} {cs : Array Value} {t : TypeId} (hM : b ∉ M) (k : Blk W b cs t) : Blk W' b cs t := h.cells b _ _ _ hM k
theorem CellsKept.owns {M : List Nat} {W W' : World} (h : CellsKept M W W') {base : Nat} {e : TypeId} {size g n cap : Nat} {xs : List Value} (hM : g ∉ M) (k : W.ownsRow base e size (.slice (some ⟨g, 0, none⟩) n cap) n xs) : W'.ownsRow base e size (.slice (some ⟨g, 0, none⟩) n cap) n xs := by
  obtain ⟨hl, ⟨hv, _⟩ | ⟨g', cap', cur, hv, hg, hh, hr⟩⟩ := k
  · cases hv
  · obtain ⟨rfl, rfl⟩ : g' = g ∧ cap' = cap := by cases hv; exact ⟨rfl, rfl⟩
    exact ⟨hl, .inr ⟨g', cap', cur, rfl, hg, h.cells _ _ _ _ hM hh, hr⟩⟩
theorem CellsKept.sl {M : List Nat} {W W' : World} (h : CellsKept M W W') {lo : Nat} {v : Value} {n : Nat} {xs : List Value} (k : SlR lo W v n xs) (hM : ∀ ao cap b off, v = .slice ao n cap → ao = some ⟨b, off, none⟩ → xs ≠ [] → b ∉ M ∧ ∃ cs t f, W.heap[b]? = some (.cells cs t f)) : SlR lo W' v n xs := by
  obtain ⟨ao, cap, rfl, h1, h2, h3⟩ := k
  refine ⟨ao, cap, rfl, h1, h2, fun hx => ?_⟩
  obtain ⟨b, off, rfl, hlo, hlt, hc⟩ := h3 hx
  obtain ⟨hb, cs, t, f, hcs⟩ := hM _ _ b off rfl rfl hx
  refine ⟨b, off, rfl, hlo, Nat.lt_of_lt_of_le hlt h.size, fun j hj => ?_⟩
  have e : W'.heap[b]? = W.heap[b]? := by rw [h.cells b cs t f hb hcs, hcs]
  rw [World.cell?_of_block (w := W) (a := ⟨b, off + j, none⟩) e]
  exact hc j hj
theorem keeps_grown {W W' : World} {g : Nat} (hg : W.grownBy W' (some g)) {cs : Array Value} {t : TypeId} {f : Nat × Nat} (hc : W.heap[g]? = some (.cells cs t f)) : KeepsOthers W W' := by
  refine ⟨hg.size, fun k o hk ho => (hg.block k (Array.getElem?_eq_some_iff.1 hk).1 (fun e => ?_)).trans hk⟩
  have e2 := Option.some.inj e
  rw [e2, hc] at hk
  cases hk
  cases ho
theorem owns_block {W : World} {base : Nat} {e : TypeId} {size g n cap : Nat} {xs : List Value} (k : W.ownsRow base e size (.slice (some ⟨g, 0, none⟩) n cap) n xs) : ∃ cur, W.heap[g]? = some (.cells cur e (0, 0)) ∧ base ≤ g ∧ g < W.heap.size := by
  obtain ⟨hl, ⟨hv, _⟩ | ⟨g', cap', cur, hv, hg, hh, hr⟩⟩ := k
  · cases hv
  · obtain ⟨rfl, rfl⟩ : g' = g ∧ cap' = cap := by cases hv; exact ⟨rfl, rfl⟩
    exact ⟨cur, hh, hg, (Array.getElem?_eq_some_iff.1 hh).1⟩
theorem owns_empty {w : World} {g base : Nat} {e : TypeId} (size : Nat) (h : Blk w g #[] e) (hb : base ≤ g) : w.ownsRow base e size (.slice (some ⟨g, 0, none⟩) 0 0) 0 [] :=
  ⟨by simp, .inr ⟨g, 0, #[], rfl, hb, h, Nat.le_refl _, Nat.zero_le _, by simp, by simp⟩⟩
theorem owns_one {w : World} {g base : Nat} {e : TypeId} {x : Value} (h : Blk w g #[x] e) (hb : base ≤ g) : w.ownsRow base e 1 (.slice (some ⟨g, 0, none⟩) 1 1) 1 [x] :=
  ⟨by simp, .inr ⟨g, 1, #[x], rfl, hb, h, Nat.le_refl _, by unfold maxLen; omega, by simp, by simp⟩⟩

theorem below_eq {a b : Nat} {W W' : World} (h : Below a W W') (he : a = b) : Below b W W' := by rw [← he]; exact h
theorem blk_one_news {w : World} {g : Nat} {x : Value} {e : TypeId} (h : Blk w g #[x] e) : ∀ j u, [x][j]? = some u → w.cell? ((⟨g, 0, none⟩ : Addr).add j) = some u := by
  intro j u hj
  match j, hj with
  | 0, hj =>
    simp at hj
    subst hj
    simpa [Addr.add] using h.look 0 rfl
  | j + 1, hj => simp at hj
/-- What append does, as a mover. -/
theorem gives_append {P : Program} {o : Oper} {a : Act} {w : World} {K : Value → World → Prop} (s x : Operand) (t : TypeId) (ho : o.op = .call { callee := .builtin .append, args := #[s, x], argTypes := #[t, t] })
    {v : Value} {w' : World} (hr : (Builtin.append_ #[t, t] o.type #[a.eval s, a.eval x]).run P w = .ok v w') (hK : K v w') : gives P o a w K := by
  unfold gives execOp
  simp only [ho, resolve, invoke, builtin, Sem.run_bind, Sem.run_pure, Result.andThen_ok, List.map_toArray, List.map_cons, List.map_nil, hr, givesUpon]
  exact hK
theorem gives_append2 {P : Program} {o : Oper} {a : Act} {w : World} {K : Value → World → Prop} (s x : Operand) (t : TypeId) (ho : o.op = .call { callee := .builtin .append, args := #[s, x], argTypes := #[t, t] }) {ty : TypeId} (hty : o.type = ty)
    {vs vx : Value} (hs : a.eval s = vs) (hx : a.eval x = vx) {v : Value} {w' : World} (hr : (Builtin.append_ #[t, t] ty #[vs, vx]).run P w = .ok v w') (hK : K v w') : gives P o a w K :=
  gives_append s x t ho (by rw [hty, hs, hx]; exact hr) hK
/-- The slices that append hands back: where they lie. -/
theorem app_at {P : Program} (w : World) (base : Nat) (t ty e : TypeId) (z : Value) (size bytes : Nat) (ht : P.underlying t = some (.slice e)) (hi : (P.info? e).map (fun i => (i.zero, i.size, i.bytes)) = some (some z, size, bytes))
    (hzs : z.cells.size = size) (hsz : 0 < size) {g n cap : Nat} {xs : List Value} (hown : w.ownsRow base e size (.slice (some ⟨g, 0, none⟩) n cap) n xs)
    (a : Addr) (m c : Nat) (news : List Value) (hl : news.length = m * size) (hnews : ∀ j u, news[j]? = some u → w.cell? (a.add j) = some u) (h1 : ∀ u ∈ news, u.oneCell' = true)
    (h63 : n + m ≤ maxLen) (hbytes : (n + m) * bytes ≤ 140737488355328) (hbase : base ≤ w.heap.size) :
    ∃ g' cap' w', (Builtin.append_ #[t, t] ty #[.slice (some ⟨g, 0, none⟩) n cap, .slice (some a) m c]).run P w = .ok (.slice (some ⟨g', 0, none⟩) (n + m) cap') w' ∧
      w'.ownsRow base e size (.slice (some ⟨g', 0, none⟩) (n + m) cap') (n + m) (xs ++ news) ∧ w.grownBy w' (some g) ∧ (g' = g ∨ g' = w.heap.size) ∧ g' < w'.heap.size := by
  obtain ⟨i, hi0, hz, hsize, hby⟩ := info_parts hi
  obtain ⟨v', w', hr, h2, h3, h4, h5⟩ := run_append_own_at (P := P) w base t ty e i z size bytes ht hi0 hz hsize hby hzs hsz _ n xs hown a m c news hl hnews h1 h63 hbytes hbase
  have h0 := h2
  obtain ⟨hl', ⟨rfl, hn⟩ | ⟨g', cap', cur, rfl, hg, hh, _⟩⟩ := h2
  · have := h4.1 rfl
    cases this.1
  · refine ⟨g', cap', w', hr, h0, h3, ?_, (Array.getElem?_eq_some_iff.1 hh).1⟩
    simp only [Value.ownBlock, Option.some.injEq] at h5
    exact h5
/-- 'append([]T{}, l...)' of elements of one cell: l read in w. -/
theorem app_copy {P : Program} (w : World) (base : Nat) (t ty e : TypeId) (z : Value) (bytes : Nat) (ht : P.underlying t = some (.slice e)) (hi : (P.info? e).map (fun i => (i.zero, i.size, i.bytes)) = some (some z, 1, bytes))
    (hzs : z.cells.size = 1) {g : Nat} (hg : Blk w g #[] e) (hbg : base ≤ g) {v : Value} {lo n : Nat} {xs : List Value} (hv : SlR lo w v n xs) (hn : xs.length = n) (h1 : ∀ u ∈ xs, u.oneCell' = true)
    (h63 : n ≤ maxLen) (hbytes : n * bytes ≤ 140737488355328) (hbase : base ≤ w.heap.size) :
    ∃ g' cap' w', (Builtin.append_ #[t, t] ty #[.slice (some ⟨g, 0, none⟩) 0 0, v]).run P w = .ok (.slice (some ⟨g', 0, none⟩) n cap') w' ∧
      w'.ownsRow base e 1 (.slice (some ⟨g', 0, none⟩) n cap') n xs ∧ w.grownBy w' (some g) ∧ (g' = g ∨ g' = w.heap.size) ∧ g' < w'.heap.size := by
  obtain ⟨ao, cap, rfl, hcap, hmax, hc⟩ := hv
  cases ao with
  | none =>
    have hx : xs = [] := by
      apply Decidable.byContradiction
      intro hne
      obtain ⟨b, off, h0, _⟩ := hc hne
      cases h0
    subst hx
    obtain rfl : n = 0 := by simpa using hn.symm
    obtain ⟨i, hi0, hz, hsize, hby⟩ := info_parts hi
    refine ⟨g, 0, w, ?_, owns_empty 1 hg hbg, ⟨rfl, rfl, rfl, Nat.le_refl _, fun _ _ _ => rfl⟩, .inl rfl, hg.lt⟩
    exact run_append_nothing w t t ty e i ht hi0 _ 0 0 (Nat.le_refl _) _ (Src.ofNil w ht cap)
  | some ad =>
    have hcell : ∀ j u, xs[j]? = some u → w.cell? (ad.add j) = some u := by
      intro j u hj
      have hjl := (List.getElem?_eq_some_iff.1 hj).1
      obtain ⟨b, off, h0, _, _, h3⟩ := hc (by rintro rfl; simp at hjl)
      cases h0
      have := h3 j hjl
      rw [List.getD_eq_getElem?_getD, hj] at this
      simpa [Addr.add_lit] using this
    have := app_at w base t ty e z 1 bytes ht hi hzs (by decide) (owns_empty 1 hg hbg) ad n cap xs (by omega) hcell h1 (by omega) (by rwa [Nat.zero_add]) hbase
    rw [Nat.zero_add, List.nil_append] at this
    exact this

/-- One element more, onto a row of the call's own: where the new row lies. -/
theorem wpListIn_app2 {F : Fence} {nF : Nat} {P : Program} {w0 : World} {ops : Array Oper} {rest : List Oper} {o : Oper} {a : Act} {Q : Exit → Act → World → Prop} (hgd : o.guard = none) (s x : Operand) (t : TypeId)
    (ho : o.op = .call { callee := .builtin .append, args := #[s, x], argTypes := #[t, t] })
    (base : Nat) (e : TypeId) (z : Value) (bytes : Nat) (ht : P.underlying t = some (.slice e)) (hi : (P.info? e).map (fun i => (i.zero, i.size, i.bytes)) = some (some z, 1, bytes)) (hzs : z.cells.size = 1) (te : TypeId)
    {g n cap : Nat} {xs : List Value} (hs : a.eval s = .slice (some ⟨g, 0, none⟩) n cap) (hown : w0.ownsRow base e 1 (.slice (some ⟨g, 0, none⟩) n cap) n xs)
    (u : Value) (hx : a.eval x = .slice (some ⟨w0.heap.size, 0, none⟩) 1 1) (h1 : u.oneCell' = true) (h63 : n + 1 ≤ maxLen) (hbytes : (n + 1) * bytes ≤ 140737488355328) (hbase : base ≤ w0.heap.size)
    (h : ∀ g' cap' w', w'.ownsRow base e 1 (.slice (some ⟨g', 0, none⟩) (n + 1) cap') (n + 1) (xs ++ [u]) → w0.grownBy w' (some g) → (g' = g ∨ w0.heap.size ≤ g') → wpListIn F nF P ops Q rest (a.put o.dst (.slice (some ⟨g', 0, none⟩) (n + 1) cap')) w') :
    wpListIn F nF P ops Q (o :: rest) a (w0.alloc (.cells #[u] te)) := by
  refine wpListIn_plain hgd fun K hK => ?_
  obtain ⟨g', cap', w', hr, h2, h3, h4, _⟩ := app_at (P := P) (w0.alloc (.cells #[u] te)) base t o.type e z 1 bytes ht hi hzs (by decide) (hown.alloc _) ⟨w0.heap.size, 0, none⟩ 1 1 [u] (by simp) (cell_one_new _ _ _) (by intro y hy; simp at hy; rw [hy]; exact h1) h63 hbytes (by simp; omega)
  unfold Oper.wpIn
  refine ⟨by simp [Oper.about, ho, resolve, Target.leads, Sem.run_pure], ?_⟩
  rw [Oper.semAt_plain F _ _ (by rw [ho]; intro c hc'; cases hc')]
  simp [execOp, ho, resolve, invoke, builtin, hs, hx, hr, Result.andThen]
  exact hK _ _ (h g' cap' w' h2 ((World.grownBy_alloc w0 _ _).trans h3) (by rcases h4 with h4 | h4; exact .inl h4; right; rw [h4]; simp))
theorem wpList_app2 {P : Program} {w0 : World} {ops : Array Oper} {rest : List Oper} {o : Oper} {a : Act} {Q : Exit → Act → World → Prop} (hgd : o.guard = none) (s x : Operand) (t : TypeId)
    (ho : o.op = .call { callee := .builtin .append, args := #[s, x], argTypes := #[t, t] })
    (base : Nat) (e : TypeId) (z : Value) (bytes : Nat) (ht : P.underlying t = some (.slice e)) (hi : (P.info? e).map (fun i => (i.zero, i.size, i.bytes)) = some (some z, 1, bytes)) (hzs : z.cells.size = 1) (te : TypeId)
    {g n cap : Nat} {xs : List Value} (hs : a.eval s = .slice (some ⟨g, 0, none⟩) n cap) (hown : w0.ownsRow base e 1 (.slice (some ⟨g, 0, none⟩) n cap) n xs)
    (u : Value) (hx : a.eval x = .slice (some ⟨w0.heap.size, 0, none⟩) 1 1) (h1 : u.oneCell' = true) (h63 : n + 1 ≤ maxLen) (hbytes : (n + 1) * bytes ≤ 140737488355328) (hbase : base ≤ w0.heap.size)
    (h : ∀ g' cap' w', w'.ownsRow base e 1 (.slice (some ⟨g', 0, none⟩) (n + 1) cap') (n + 1) (xs ++ [u]) → w0.grownBy w' (some g) → (g' = g ∨ w0.heap.size ≤ g') → wpList P ops Q rest (a.put o.dst (.slice (some ⟨g', 0, none⟩) (n + 1) cap')) w') :
    wpList P ops Q (o :: rest) a (w0.alloc (.cells #[u] te)) := by
  refine wpList_plain hgd fun K hK => ?_
  obtain ⟨g', cap', w', hr, h2, h3, h4, _⟩ := app_at (P := P) (w0.alloc (.cells #[u] te)) base t o.type e z 1 bytes ht hi hzs (by decide) (hown.alloc _) ⟨w0.heap.size, 0, none⟩ 1 1 [u] (by simp) (cell_one_new _ _ _) (by intro y hy; simp at hy; rw [hy]; exact h1) h63 hbytes (by simp; omega)
  unfold Oper.wp execOp
  simp only [ho, resolve, invoke, builtin, Sem.run_bind, Sem.run_pure, Result.andThen_ok, List.map_toArray, List.map_cons, List.map_nil, hs, hx, hr]
  exact hK _ _ (h g' cap' w' h2 ((World.grownBy_alloc w0 _ _).trans h3) (by rcases h4 with h4 | h4; exact .inl h4; right; rw [h4]; simp))

end Go.Proofs.Ytcpefolhohakmaa
