/- Appends: laws that say where the new row lies (for seats without curves). -/
import Derived.Test.YtcpefolhohakmaaRw
import Derived.Test.YtcpefolhohakmaaRj
import Derived.Test.YtcpefolhohakmaaRy
import Derived.Deep.AppendSrc
namespace Go.Proofs.Ytcpefolhohakmaa
open Go.RowKit

theorem cells_news {w : World} {H : Nat} {news : List Value} {te : TypeId} (h : Blk w H news.toArray te) : ∀ j u, news[j]? = some u → w.cell? ((⟨H, 0, none⟩ : Addr).add j) = some u := by
  intro j u hj
  have := h.cell j
  rw [List.getElem?_toArray, hj] at this
  by_cases h0 : j = 0
  · subst h0
    simpa [Addr.add] using this
  · simpa [Addr.add, h0] using this

theorem gives_app {P : Program} {o : Oper} {a : Act} {w : World} {K : Value → World → Prop} (s x : Operand) (t ty : TypeId) (ho : o.op = .call { callee := .builtin .append, args := #[s, x], argTypes := #[t, t] }) (hty : o.type = ty)
    (base : Nat) (e : TypeId) (z : Value) (size bytes : Nat) (ht : P.underlying t = some (.slice e)) (hi : (P.info? e).map (fun i => (i.zero, i.size, i.bytes)) = some (some z, size, bytes))
    (hzs : z.cells.size = size) (hsz : 0 < size) {v : Value} {n : Nat} {xs : List Value} (hs : a.eval s = v) (hown : w.ownsRow base e size v n xs)
    (news : List Value) (H : Nat) {te : TypeId} (hk : Blk w H news.toArray te) (hx : a.eval x = .slice (some ⟨H, 0, none⟩) 1 1) (hl : news.length = size) (h1 : ∀ u ∈ news, u.oneCell' = true)
    (h63 : n + 1 ≤ maxLen) (hbytes : (n + 1) * bytes ≤ 140737488355328) (hbase : base ≤ w.heap.size)
    (h : ∀ g cap w', w'.ownsRow base e size (.slice (some ⟨g, 0, none⟩) (n + 1) cap) (n + 1) (xs ++ news) → w.grownBy w' v.ownBlock → base ≤ g → K (.slice (some ⟨g, 0, none⟩) (n + 1) cap) w') : gives P o a w K := by
  obtain ⟨i, hi0, hz, hsize, hby⟩ := info_parts hi
  obtain ⟨v', w', hr, h2, h3, h4, h5⟩ := run_append_own_at (P := P) w base t ty e i z size bytes ht hi0 hz hsize hby hzs hsz v n xs hown ⟨H, 0, none⟩ 1 1 news (by omega) (cells_news hk) h1 h63 hbytes hbase
  have h0 := h2
  obtain ⟨hl', ⟨rfl, hn⟩ | ⟨g', cap', cur, rfl, hg, hh, _⟩⟩ := h2
  · omega
  · exact gives_append2 s x t ho hty hs hx hr (h g' cap' w' h0 h3 hg)

theorem wpList_appH {P : Program} {w0 : World} {ops : Array Oper} {rest : List Oper} {o : Oper} {a : Act} {Q : Exit → Act → World → Prop} (hgd : o.guard = none) (s x : Operand) (t : TypeId)
    (ho : o.op = .call { callee := .builtin .append, args := #[s, x], argTypes := #[t, t] })
    (base : Nat) (e : TypeId) (z : Value) (size bytes : Nat) (ht : P.underlying t = some (.slice e)) (hi : (P.info? e).map (fun i => (i.zero, i.size, i.bytes)) = some (some z, size, bytes))
    (hzs : z.cells.size = size) (hsz : 0 < size) (te : TypeId)
    (v : Value) (n : Nat) (xs : List Value) (hs : a.eval s = v) (hown : w0.ownsRow base e size v n xs)
    (news : List Value) (H : Nat) (hH : w0.heap.size = H) (hx : a.eval x = .slice (some ⟨H, 0, none⟩) 1 1) (hl : news.length = size) (h1 : ∀ u ∈ news, u.oneCell' = true)
    (h63 : n + 1 ≤ maxLen) (hbytes : (n + 1) * bytes ≤ 140737488355328) (hbase : base ≤ w0.heap.size)
    (h : ∀ g cap w', w'.ownsRow base e size (.slice (some ⟨g, 0, none⟩) (n + 1) cap) (n + 1) (xs ++ news) → Below base w0 w' → w0.grownBy w' v.ownBlock → base ≤ g → g < w'.heap.size →
      wpList P ops Q rest (a.put o.dst (.slice (some ⟨g, 0, none⟩) (n + 1) cap)) w') :
    wpList P ops Q (o :: rest) a (w0.alloc (.cells news.toArray te)) := by
  subst hH
  exact wpList_app hgd s x t ho base e z size bytes ht hi hzs hsz te v n xs hs hown news hx hl h1 h63 hbytes hbase h

theorem wpList_appO {P : Program} {w0 : World} {ops : Array Oper} {rest : List Oper} {o : Oper} {a : Act} {Q : Exit → Act → World → Prop} (hgd : o.guard = none) (s x : Operand) (t : TypeId)
    (ho : o.op = .call { callee := .builtin .append, args := #[s, x], argTypes := #[t, t] })
    (base : Nat) (e : TypeId) (z : Value) (size bytes : Nat) (ht : P.underlying t = some (.slice e)) (hi : (P.info? e).map (fun i => (i.zero, i.size, i.bytes)) = some (some z, size, bytes))
    (hzs : z.cells.size = size) (hsz : 0 < size) (te : TypeId)
    (v : Value) (n : Nat) (xs : List Value) (hs : a.eval s = v) (hown : w0.ownsRow base e size v n xs)
    (news : List Value) (H : Nat) (hH : w0.heap.size = H) (hx : a.eval x = .slice (some ⟨H, 0, none⟩) 1 1) (hl : news.length = size) (h1 : ∀ u ∈ news, u.oneCell' = true)
    (h63 : n + 1 ≤ maxLen) (hbytes : (n + 1) * bytes ≤ 140737488355328) (hbase : base ≤ w0.heap.size)
    (h : ∀ g cap w', w'.ownsRow base e size (.slice (some ⟨g, 0, none⟩) (n + 1) cap) (n + 1) (xs ++ news) → Below base w0 w' → w0.grownBy w' v.ownBlock → base ≤ g → g < w'.heap.size → (v.ownBlock = some g ∨ H < g) →
      wpList P ops Q rest (a.put o.dst (.slice (some ⟨g, 0, none⟩) (n + 1) cap)) w') :
    wpList P ops Q (o :: rest) a (w0.alloc (.cells news.toArray te)) := by
  subst hH
  obtain ⟨i, hi0, hz, hsize, hby⟩ := info_parts hi
  refine wpList_plain hgd fun K hK => ?_
  obtain ⟨v', w', hr, h2, h3, h4, h5⟩ := run_append_own_at (P := P) (w0.alloc (.cells news.toArray te)) base t o.type e i z size bytes ht hi0 hz hsize hby hzs hsz v n xs (hown.alloc _) ⟨w0.heap.size, 0, none⟩ 1 1 news (by omega) (cells_news (Blk.new w0 news.toArray te)) h1 h63 hbytes (by simp; omega)
  have h0 := h2
  obtain ⟨hl', ⟨rfl, hn⟩ | ⟨g', cap', cur, rfl, hg, hh, _⟩⟩ := h2
  · omega
  unfold Oper.wp execOp
  simp only [ho, resolve, invoke, builtin, Sem.run_bind, Sem.run_pure, Result.andThen_ok, List.map_toArray, List.map_cons, List.map_nil, hs, hx, hr]
  have hb : Below base w0 w' := ((Below.refl base w0).alloc hbase (.cells news.toArray te)).grown h3 (by simp; omega) (fun k hk => (hown.lt k hk).1)
  refine hK _ _ (h g' cap' w' h0 hb ((World.grownBy_alloc w0 _ _).trans h3) hg (Array.getElem?_eq_some_iff.1 hh).1 ?_)
  rcases h5 with h5 | h5
  · exact .inl h5.symm
  · right
    have := Option.some.inj h5
    simp at this
    omega

theorem gives_appO {P : Program} {o : Oper} {a : Act} {w : World} {K : Value → World → Prop} (s x : Operand) (t ty : TypeId) (ho : o.op = .call { callee := .builtin .append, args := #[s, x], argTypes := #[t, t] }) (hty : o.type = ty)
    (base : Nat) (e : TypeId) (z : Value) (size bytes : Nat) (ht : P.underlying t = some (.slice e)) (hi : (P.info? e).map (fun i => (i.zero, i.size, i.bytes)) = some (some z, size, bytes))
    (hzs : z.cells.size = size) (hsz : 0 < size) {v : Value} {n : Nat} {xs : List Value} (hs : a.eval s = v) (hown : w.ownsRow base e size v n xs)
    (news : List Value) (H : Nat) {te : TypeId} (hk : Blk w H news.toArray te) (hx : a.eval x = .slice (some ⟨H, 0, none⟩) 1 1) (hl : news.length = size) (h1 : ∀ u ∈ news, u.oneCell' = true)
    (h63 : n + 1 ≤ maxLen) (hbytes : (n + 1) * bytes ≤ 140737488355328) (hbase : base ≤ w.heap.size)
    (h : ∀ g cap w', w'.ownsRow base e size (.slice (some ⟨g, 0, none⟩) (n + 1) cap) (n + 1) (xs ++ news) → w.grownBy w' v.ownBlock → base ≤ g → g < w'.heap.size → (v.ownBlock = some g ∨ w.heap.size ≤ g) → K (.slice (some ⟨g, 0, none⟩) (n + 1) cap) w') : gives P o a w K := by
  obtain ⟨i, hi0, hz, hsize, hby⟩ := info_parts hi
  obtain ⟨v', w', hr, h2, h3, h4, h5⟩ := run_append_own_at (P := P) w base t ty e i z size bytes ht hi0 hz hsize hby hzs hsz v n xs hown ⟨H, 0, none⟩ 1 1 news (by omega) (cells_news hk) h1 h63 hbytes hbase
  have h0 := h2
  obtain ⟨hl', ⟨rfl, hn⟩ | ⟨g', cap', cur, rfl, hg, hh, _⟩⟩ := h2
  · omega
  · refine gives_append2 s x t ho hty hs hx hr (h g' cap' w' h0 h3 hg (Array.getElem?_eq_some_iff.1 hh).1 ?_)
    rcases h5 with h5 | h5
    · exact .inl h5.symm
    · right
      have := Option.some.inj h5
      simp at this
      omega

end Go.Proofs.Ytcpefolhohakmaa
