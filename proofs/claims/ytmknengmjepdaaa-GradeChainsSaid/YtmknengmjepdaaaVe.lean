/- The memory of grade.Chain. -/
import Derived.Test.YtmknengmjepdaaaVb
import Derived.Test.YtmknengmjepdaaaVd
import Derived.Test.YtmknengmjepdaaaRw
namespace Go.Proofs.Ytmknengmjepdaaa
open Go.RowKit

/-- A slice of whole numbers in a block that none of the search's stores reaches. -/
def IntsAv (B c ga gw : Nat) (W : World) (v : Value) (l : List Int) : Prop :=
  SlR B W v l.length (intCells l) ∧ ∀ ao cap b off, v = .slice ao l.length cap → ao = some ⟨b, off, none⟩ → l ≠ [] → (b ≠ B + 1 ∧ b ≠ B + 4 ∧ b ≠ B + 6 ∧ b ≠ ga ∧ b ≠ gw ∧ b ≠ c) ∧ ∃ cs t f, W.heap[b]? = some (.cells cs t f)
theorem IntsAv.keep {B c ga gw : Nat} {M : List Nat} {W W' : World} {v : Value} {l : List Int} (h : IntsAv B c ga gw W v l) (hk : CellsKept M W W') (hM : ∀ x ∈ M, x = B + 1 ∨ x = B + 4 ∨ x = B + 6 ∨ x = ga ∨ x = gw ∨ x = c ∨ W.heap.size ≤ x) {c' ga' gw' : Nat}
    (h1 : c' = c ∨ W.heap.size ≤ c') (h2 : ga' = ga ∨ W.heap.size ≤ ga') (h3 : gw' = gw ∨ W.heap.size ≤ gw') : IntsAv B c' ga' gw' W' v l := by
  obtain ⟨a, b⟩ := h
  have hne : ∀ {x : Nat} {cs : Array Value} {t : TypeId} {f : Nat × Nat}, W.heap[x]? = some (.cells cs t f) → x < W.heap.size := fun hx => (Array.getElem?_eq_some_iff.1 hx).1
  refine ⟨hk.sl a (fun ao cap x off hv hao hx => ?_), fun ao cap x off hv hao hl => ?_⟩
  · have hl : l ≠ [] := fun e => by rw [e] at hx; exact hx rfl
    obtain ⟨⟨n1, n2, n3, n4, n5, n6⟩, cs, t, f, hcs⟩ := b ao cap x off hv hao hl
    refine ⟨fun hm => ?_, cs, t, f, hcs⟩
    have := hne hcs
    rcases hM x hm with hh | hh | hh | hh | hh | hh | hh <;> omega
  · obtain ⟨⟨n1, n2, n3, n4, n5, n6⟩, cs, t, f, hcs⟩ := b ao cap x off hv hao hl
    have := hne hcs
    refine ⟨⟨n1, n2, n3, by omega, by omega, by omega⟩, cs, t, f, hk.cells x cs t f (fun hm => ?_) hcs⟩
    rcases hM x hm with hh | hh | hh | hh | hh | hh | hh <;> omega
theorem intsAv_nil (B c ga gw : Nat) (W : World) : IntsAv B c ga gw W (.slice none 0 0) [] := ⟨SlR.nil _ _, fun _ _ _ _ _ _ h => absurd rfl h⟩

/-- The search's memory: c, the box of the counter; ga, the row of the unknowns met; gw, the row of the ways. -/
structure CSt (W : World) (S B N c ga gw : Nat) (pa : Array Value) (n d : Int) (vx : Value) (m : Nat) (sn : Nat → Bool) (al : List Nat) (wl : List (List Int)) (ca cw : Nat) (rows : List Value) : Prop where
  kp : Blk W S pa 33
  ks : Blk W (S + 1) #[.int .i64 n, .int .i64 d] 26
  kx : Blk W B #[vx] 49
  ksn : Blk W (B + 1) (vArr N (fun v => .bool (sn v))) 4
  kb : Blk W (B + 3) #[.slice (some ⟨B + 1, 0, none⟩) N N] 107
  kw : Blk W (B + 4) #[.slice (some ⟨gw, 0, none⟩) wl.length cw] 77
  ka : Blk W (B + 6) #[.slice (some ⟨ga, 0, none⟩) al.length ca] 49
  kc : Blk W c #[.int .i64 (m : Int)] 3
  oa : W.ownsRow B 3 1 (.slice (some ⟨ga, 0, none⟩) al.length ca) al.length (intCells (al.map fun (v : Nat) => (v : Int)))
  ow : W.ownsRow B 49 1 (.slice (some ⟨gw, 0, none⟩) wl.length cw) wl.length rows
  rws : ∀ (j : Nat) (l : List Int), wl[j]? = some l → ∃ v, rows[j]? = some v ∧ IntsAv B c ga gw W v l
  lo : S + 1 < B
  na : B < ga ∧ ga ≠ B + 1 ∧ ga ≠ B + 3 ∧ ga ≠ B + 4 ∧ ga ≠ B + 6
  nw : B < gw ∧ gw ≠ B + 1 ∧ gw ≠ B + 3 ∧ gw ≠ B + 4 ∧ gw ≠ B + 6
  nc : B + 6 < c
  nn : ga ≠ gw ∧ ga ≠ c ∧ gw ≠ c
section
variable {W W' : World} {S B N c ga gw : Nat} {pa : Array Value} {n d : Int} {vx : Value} {m : Nat} {sn : Nat → Bool} {al : List Nat} {wl : List (List Int)} {ca cw : Nat} {rows : List Value}
theorem CSt.keep (h : CSt W S B N c ga gw pa n d vx m sn al wl ca cw rows) (hk : CellsKept [] W W') : CSt W' S B N c ga gw pa n d vx m sn al wl ca cw rows :=
  ⟨hk.blk (by simp) h.kp, hk.blk (by simp) h.ks, hk.blk (by simp) h.kx, hk.blk (by simp) h.ksn, hk.blk (by simp) h.kb, hk.blk (by simp) h.kw, hk.blk (by simp) h.ka, hk.blk (by simp) h.kc, hk.owns (by simp) h.oa, hk.owns (by simp) h.ow,
    fun j l hl => by obtain ⟨v, h1, h2⟩ := h.rws j l hl; exact ⟨v, h1, h2.keep hk (fun x hx => by cases hx) (.inl rfl) (.inl rfl) (.inl rfl)⟩, h.lo, h.na, h.nw, h.nc, h.nn⟩
theorem CSt.below (h : CSt W S B N c ga gw pa n d vx m sn al wl ca cw rows) (hb : Below W.heap.size W W') : CSt W' S B N c ga gw pa n d vx m sn al wl ca cw rows := h.keep (.of_below hb _)
theorem CSt.lt (h : CSt W S B N c ga gw pa n d vx m sn al wl ca cw rows) : c < W.heap.size ∧ ga < W.heap.size ∧ gw < W.heap.size := by
  obtain ⟨_, _, _, h1⟩ := owns_block h.oa
  obtain ⟨_, _, _, h2⟩ := owns_block h.ow
  exact ⟨h.kc.lt, h1, h2⟩
/-- An unknown is marked. -/
theorem CSt.mark (h : CSt W S B N c ga gw pa n d vx m sn al wl ca cw rows) (b : Nat) : CSt (W.setCell ⟨B + 1, b, none⟩ (.bool true)) S B N c ga gw pa n d vx m (fun v => if v = b then true else sn v) al wl ca cw rows := by
  have hk := CellsKept.set W ⟨B + 1, b, none⟩ (.bool true)
  have hlo := h.lo
  have hna := h.na
  have hnw := h.nw
  have hnc := h.nc
  refine ⟨hk.blk (by simp; omega) h.kp, hk.blk (by simp; omega) h.ks, hk.blk (by simp) h.kx, ?_, hk.blk (by simp) h.kb, hk.blk (by simp) h.kw, hk.blk (by simp) h.ka, hk.blk (by simp; omega) h.kc, hk.owns (by simp; omega) h.oa, hk.owns (by simp; omega) h.ow,
    fun j l hl => ?_, h.lo, h.na, h.nw, h.nc, h.nn⟩
  · have := h.ksn.set b (.bool true)
    rw [vArr_set] at this
    have e : vArr N (fun v => if v = b then Value.bool true else .bool (sn v)) = vArr N (fun v => .bool (if v = b then true else sn v)) := vArr_congr fun v _ => by split <;> rfl
    rw [← e]
    exact this
  · obtain ⟨v, h1, h2⟩ := h.rws j l hl
    exact ⟨v, h1, h2.keep hk (fun x hx => by simp at hx; omega) (.inl rfl) (.inl rfl) (.inl rfl)⟩
/-- One more unknown has been met: the new row, and its slice in the box. -/
theorem CSt.meet (h : CSt W S B N c ga gw pa n d vx m sn al wl ca cw rows) {b ga' ca' : Nat} {W1 : World} (hg : W.grownBy W1 (some ga)) (ho : W1.ownsRow B 3 1 (.slice (some ⟨ga', 0, none⟩) (al.length + 1) ca') (al.length + 1) (intCells (al.map fun (v : Nat) => (v : Int)) ++ [.int .i64 (b : Int)]))
    (hga : ga' = ga ∨ W.heap.size ≤ ga') : CSt (W1.setCell ⟨B + 6, 0, none⟩ (.slice (some ⟨ga', 0, none⟩) (al.length + 1) ca')) S B N c ga' gw pa n d vx m sn (al ++ [b]) wl ca' cw rows := by
  have hk := CellsKept.grown hg
  have hk2 := CellsKept.set W1 ⟨B + 6, 0, none⟩ (.slice (some ⟨ga', 0, none⟩) (al.length + 1) ca')
  have hlo := h.lo
  have hna := h.na
  have hnw := h.nw
  have hnc := h.nc
  have hnn := h.nn
  have hlt := h.lt
  have hsz := hg.size
  obtain ⟨_, _, _, hga'⟩ := owns_block ho
  have e1 : (al ++ [b]).length = al.length + 1 := by simp
  have e2 : intCells ((al ++ [b]).map fun (v : Nat) => (v : Int)) = intCells (al.map fun (v : Nat) => (v : Int)) ++ [.int .i64 (b : Int)] := by simp [intCells]
  refine ⟨hk2.blk (by simp; omega) (hk.blk (by simp; omega) h.kp), hk2.blk (by simp; omega) (hk.blk (by simp; omega) h.ks), hk2.blk (by simp) (hk.blk (by simp; omega) h.kx), hk2.blk (by simp) (hk.blk (by simp; omega) h.ksn), hk2.blk (by simp) (hk.blk (by simp; omega) h.kb),
    hk2.blk (by simp) (hk.blk (by simp; omega) h.kw), ?_, hk2.blk (by simp; omega) (hk.blk (by simp; omega) h.kc), ?_, hk2.owns (by simp; omega) (hk.owns (by simp; omega) h.ow), fun j l hl => ?_, h.lo, ?_, h.nw, h.nc, ?_⟩
  · rw [e1]
    exact (hk.blk (by simp; omega) h.ka).set 0 _
  · rw [e1, e2]
    exact hk2.owns (by simp; omega) ho
  · obtain ⟨v, h1, h2⟩ := h.rws j l hl
    have h3 : IntsAv B c ga' gw W1 v l := h2.keep hk (fun x hx => by simp at hx; omega) (.inl rfl) hga (.inl rfl)
    exact ⟨v, h1, h3.keep hk2 (fun x hx => by simp at hx; omega) (.inl rfl) (.inl rfl) (.inl rfl)⟩
  · omega
  · omega
/-- One more way: the new row of ways, and its slice in the box; the new way lies in v. -/
theorem CSt.way (h : CSt W S B N c ga gw pa n d vx m sn al wl ca cw rows) {l : List Int} {v : Value} {gw' cw' : Nat} {W1 : World} (hg : W.grownBy W1 (some gw)) (ho : W1.ownsRow B 49 1 (.slice (some ⟨gw', 0, none⟩) (wl.length + 1) cw') (wl.length + 1) (rows ++ [v]))
    (hgw : gw' = gw ∨ W.heap.size ≤ gw') (hv : IntsAv B c ga gw W v l) : CSt (W1.setCell ⟨B + 4, 0, none⟩ (.slice (some ⟨gw', 0, none⟩) (wl.length + 1) cw')) S B N c ga gw' pa n d vx m sn al (wl ++ [l]) ca cw' (rows ++ [v]) := by
  have hk := CellsKept.grown hg
  have hk2 := CellsKept.set W1 ⟨B + 4, 0, none⟩ (.slice (some ⟨gw', 0, none⟩) (wl.length + 1) cw')
  have hlo := h.lo
  have hna := h.na
  have hnw := h.nw
  have hnc := h.nc
  have hnn := h.nn
  have hlt := h.lt
  have hsz := hg.size
  obtain ⟨_, _, _, hgw'⟩ := owns_block ho
  have e1 : (wl ++ [l]).length = wl.length + 1 := by simp
  have hrl : rows.length = wl.length := by have := h.ow.1; omega
  refine ⟨hk2.blk (by simp; omega) (hk.blk (by simp; omega) h.kp), hk2.blk (by simp; omega) (hk.blk (by simp; omega) h.ks), hk2.blk (by simp) (hk.blk (by simp; omega) h.kx), hk2.blk (by simp) (hk.blk (by simp; omega) h.ksn), hk2.blk (by simp) (hk.blk (by simp; omega) h.kb),
    ?_, hk2.blk (by simp) (hk.blk (by simp; omega) h.ka), hk2.blk (by simp; omega) (hk.blk (by simp; omega) h.kc), hk2.owns (by simp; omega) (hk.owns (by simp; omega) h.oa), ?_, fun j l' hl => ?_, h.lo, h.na, ?_, h.nc, ?_⟩
  · rw [e1]
    exact (hk.blk (by simp; omega) h.kw).set 0 _
  · rw [e1]
    exact hk2.owns (by simp; omega) ho
  · have key : ∀ {v l}, IntsAv B c ga gw W v l → IntsAv B c ga gw' (W1.setCell ⟨B + 4, 0, none⟩ (.slice (some ⟨gw', 0, none⟩) (wl.length + 1) cw')) v l := fun h2 => by
      have h3 : IntsAv B c ga gw' W1 _ _ := h2.keep hk (fun x hx => by simp at hx; omega) (.inl rfl) (.inl rfl) hgw
      exact h3.keep hk2 (fun x hx => by simp at hx; omega) (.inl rfl) (.inl rfl) (.inl rfl)
    by_cases hj : j < wl.length
    · rw [List.getElem?_append_left hj] at hl
      obtain ⟨v', h1, h2⟩ := h.rws j l' hl
      exact ⟨v', by rw [List.getElem?_append_left (by omega)]; exact h1, key h2⟩
    · rw [List.getElem?_append_right (by omega)] at hl
      have hj0 : j - wl.length = 0 := by
        have := (List.getElem?_eq_some_iff.1 hl).1
        simpa using this
      rw [hj0] at hl
      obtain rfl : l = l' := by simpa using hl
      refine ⟨v, ?_, key hv⟩
      rw [List.getElem?_append_right (by omega), show j - rows.length = 0 by omega]
      rfl
  · omega
  · omega
/-- The counter goes on, in a box of its own. -/
theorem CSt.next (h : CSt W S B N c ga gw pa n d vx m sn al wl ca cw rows) {z : Int} (hz : z = ((m + 1 : Nat) : Int)) : CSt (W.alloc (.cells #[.int .i64 z] 3)) S B N W.heap.size ga gw pa n d vx (m + 1) sn al wl ca cw rows := by
  subst hz
  have hk : CellsKept [] W (W.alloc (.cells #[.int .i64 ((m + 1 : Nat) : Int)] 3)) := CellsKept.alloc _ _ _
  have hlt := h.lt
  have hlo := h.lo
  have hna := h.na
  have hnw := h.nw
  have hnc := h.nc
  have hnn := h.nn
  refine ⟨hk.blk (by simp) h.kp, hk.blk (by simp) h.ks, hk.blk (by simp) h.kx, hk.blk (by simp) h.ksn, hk.blk (by simp) h.kb, hk.blk (by simp) h.kw, hk.blk (by simp) h.ka, Blk.new W _ _, hk.owns (by simp) h.oa, hk.owns (by simp) h.ow, fun j l hl => ?_, h.lo, h.na, h.nw, ?_, ?_⟩
  · obtain ⟨v, h1, h3⟩ := h.rws j l hl
    exact ⟨v, h1, h3.keep hk (fun x hx => by cases hx) (.inr (Nat.le_refl _)) (.inl rfl) (.inl rfl)⟩
  · omega
  · omega
end

theorem Shut.cells {Ds : List Nat} {W W' : World} (h : Shut Ds W W') (hm : Mks Ds W) : CellsKept [] W W' :=
  ⟨Nat.le_of_eq h.size.symm, fun b cs t f _ hb => (h.block b (fun hD => by have := hm.all b hD; rw [hb] at this; cases this)).trans hb⟩
theorem Mks.cells {Ds : List Nat} {W W' : World} {g : Nat} (h : Mks Ds W) (hg : W.grownBy W' (some g)) {cs : Array Value} {t : TypeId} {f : Nat × Nat} (hc : W.heap[g]? = some (.cells cs t f)) : Mks Ds W' :=
  h.of fun D hD => hg.block D (h.lt hD) (fun e => by have e2 := Option.some.inj e; have h9 := h.all D hD; rw [e2, hc] at h9; cases h9)

theorem cst_start {w3 : World} {S N I : Nat} {n d : Int} {pa : Array Value} {vx : Value} (kp : Blk w3 S pa 33) (ks : Blk w3 (S + 1) #[.int .i64 n, .int .i64 d] 26) :
    CSt ((((((((w3.alloc (.cells #[vx] 49)).alloc (.cells ((vArr N fun _ => .bool false).setIfInBounds I (.bool true)) 4)).alloc (.cells #[.slice none 0 0] 49)).alloc (.cells #[.slice (some ⟨w3.heap.size + 1, 0, none⟩) N N] 107)).alloc (.cells #[.slice (some ⟨w3.heap.size + 1 + 1, 0, none⟩) 1 1] 77)).alloc (.cells #[.int .i64 (I : Int)] 3)).alloc (.cells #[.slice (some ⟨w3.heap.size + 1 + 1 + 1 + 1 + 1, 0, none⟩) 1 1] 49)).alloc (.cells #[.int .i64 0] 3))
      S w3.heap.size N (w3.heap.size + 7) (w3.heap.size + 5) (w3.heap.size + 2) pa n d vx 0 (fun v => decide (v ∈ [I])) [I] [[]] 1 1 [.slice none 0 0] ∧
    Below w3.heap.size w3 ((((((((w3.alloc (.cells #[vx] 49)).alloc (.cells ((vArr N fun _ => .bool false).setIfInBounds I (.bool true)) 4)).alloc (.cells #[.slice none 0 0] 49)).alloc (.cells #[.slice (some ⟨w3.heap.size + 1, 0, none⟩) N N] 107)).alloc (.cells #[.slice (some ⟨w3.heap.size + 1 + 1, 0, none⟩) 1 1] 77)).alloc (.cells #[.int .i64 (I : Int)] 3)).alloc (.cells #[.slice (some ⟨w3.heap.size + 1 + 1 + 1 + 1 + 1, 0, none⟩) 1 1] 49)).alloc (.cells #[.int .i64 0] 3)) := by
  have e : ∀ (W : World) (m : Nat) (cs : Array Value) (t : TypeId), W.heap.size = m → Blk (W.alloc (.cells cs t)) m cs t := fun W m cs t hm => by rw [← hm]; exact Blk.new W cs t
  have hlo := ks.lt
  refine ⟨⟨?_, ?_, ?_, ?_, ?_, ?_, ?_, ?_, ?_, ?_, ?_, hlo, by omega, by omega, by omega, by omega⟩, ?_⟩
  · exact (((((((kp.alloc _).alloc _).alloc _).alloc _).alloc _).alloc _).alloc _).alloc _
  · exact (((((((ks.alloc _).alloc _).alloc _).alloc _).alloc _).alloc _).alloc _).alloc _
  · exact (((((((Blk.new w3 _ _).alloc _).alloc _).alloc _).alloc _).alloc _).alloc _).alloc _
  · have h1 := ((((((e (w3.alloc (.cells #[vx] 49)) (w3.heap.size + 1) ((vArr N fun _ => .bool false).setIfInBounds I (.bool true)) 4 (by simp)).alloc (.cells #[.slice none 0 0] 49)).alloc (.cells #[.slice (some ⟨w3.heap.size + 1, 0, none⟩) N N] 107)).alloc (.cells #[.slice (some ⟨w3.heap.size + 1 + 1, 0, none⟩) 1 1] 77)).alloc (.cells #[.int .i64 (I : Int)] 3)).alloc (.cells #[.slice (some ⟨w3.heap.size + 1 + 1 + 1 + 1 + 1, 0, none⟩) 1 1] 49)).alloc (.cells #[.int .i64 0] 3)
    have e2 : (vArr N fun _ => Value.bool false).setIfInBounds I (.bool true) = vArr N (fun v => .bool (decide (v ∈ [I]))) := by
      rw [vArr_set]
      refine vArr_congr fun v _ => ?_
      by_cases hv : v = I <;> simp [hv]
    rw [e2] at h1 ⊢
    exact h1
  · exact ((((e _ _ _ _ (by simp)).alloc _).alloc _).alloc _).alloc _
  · exact (((e _ _ _ _ (by simp)).alloc _).alloc _).alloc _
  · exact (e _ _ _ _ (by simp)).alloc _
  · exact e _ _ _ _ (by simp)
  · exact owns_one (((e _ _ _ _ (by simp)).alloc _).alloc _) (by omega)
  · exact owns_one ((((((e _ _ _ _ (by simp)).alloc _).alloc _).alloc _).alloc _).alloc _) (by omega)
  · intro j l hl
    cases j with
    | zero =>
      obtain rfl : [] = l := by simpa using hl
      exact ⟨.slice none 0 0, rfl, intsAv_nil _ _ _ _ _⟩
    | succ j => simp at hl
  · exact ((((((((Below.refl _ w3).alloc (Nat.le_refl _) _).alloc (by simp) _).alloc (by simp <;> omega) _).alloc (by simp <;> omega) _).alloc (by simp <;> omega) _).alloc (by simp <;> omega) _).alloc (by simp <;> omega) _).alloc (by simp <;> omega) _

theorem bstep_old {p : Pat} {n d : Int} {m : Nat} {s : BF} {e : Int × Rul} {j x : Nat} (h : s.at_[j]? = some x) : (bstep p n d m s e).at_[j]? = some x := by
  unfold bstep
  split
  · dsimp only
    rw [List.getElem?_append_left (List.getElem?_eq_some_iff.1 h).1]
    exact h
  · exact h
/-- What lies in memory while the rules come. -/
def ChI (p : Pat) (n d : Int) (I m S B N X c : Nat) (pa : Array Value) (vx : Value) (s0 : BF) (Ds : List Nat) (w3 W0 : World) (pre : List (Ent p)) (W : World) : Prop :=
  ∃ (st : BF) (ga gw ca cw : Nat) (rows : List Value), BOk p n d I m (pre.map (·.1)) st ∧ (∀ j x : Nat, s0.at_[j]? = some x → st.at_[j]? = some x) ∧ CSt W S B N c ga gw pa n d vx m (fun v => decide (v ∈ st.at_)) st.at_ (st.ways.map fun es => es.map (·.1)) ca cw rows ∧
    (Mks Ds W ∧ ∀ D ∈ Ds, D < W0.heap.size) ∧ Below B w3 W ∧ W0.heap.size ≤ W.heap.size ∧ ga ≠ X ∧ gw ≠ X
theorem ChI_own (p : Pat) (n d : Int) (I m S B N X c : Nat) (pa : Array Value) (vx : Value) (s0 : BF) (Ds : List Nat) (w3 W0 : World) (hB : B ≤ W0.heap.size) : OwnFrom W0.heap.size (ChI p n d I m S B N X c pa vx s0 Ds w3 W0) := by
  rintro pre W W' row ⟨st, ga, gw, ca, cw, rows, h1, h2, h3, ⟨h4, h4'⟩, h5, h6, h7, h8⟩ hg hr
  refine ⟨st, ga, gw, ca, cw, rows, h1, h2, h3.keep (CellsKept.ranged hg (fun r e => (hr r e).2) _), ⟨h4.of fun D hD => ?_, h4'⟩, ?_, Nat.le_trans h6 hg.size, h7, h8⟩
  · refine hg.block D (h4.lt hD) (fun e => ?_)
    have := (hr D e.symm).1
    have := h4' D hD
    omega
  · refine h5.trans ⟨hg.os, hg.tape, hg.output, hg.size, fun k hk => hg.block k (by have := h5.size; have := hg.size; omega) (fun e => ?_)⟩
    have := (hr k e.symm).1
    omega
theorem mark_new (l : List Nat) (C : Nat) : (fun v : Nat => if v = C then true else decide (v ∈ l)) = fun v => decide (v ∈ l ++ [C]) := by
  funext v
  by_cases hv : v = C <;> simp [hv]
/-- What a round of the range keeps. -/
structure Kp4 (S X B : Nat) (Ds : List Nat) (w3 W W' : World) : Prop where
  keep : KeepsOthers W W'
  kp : KpB S X W W'
  mks : Mks Ds W'
  bl : Below B w3 W'
  sz : W.heap.size ≤ W'.heap.size
section
variable {S X B : Nat} {Ds : List Nat} {w3 W W' W'' : World}
theorem Kp4.below (h : Kp4 S X B Ds w3 W W') (hb : Below W'.heap.size W' W'') (hS : S ≤ B) (hB : B ≤ W'.heap.size) (hX : X < W'.heap.size) : Kp4 S X B Ds w3 W W'' :=
  ⟨h.keep.trans (keeps_of_below hb), h.kp.trans ⟨hb.mono (by omega), hb.block X hX⟩, h.mks.below hb, h.bl.trans (hb.mono hB), Nat.le_trans h.sz hb.size⟩
theorem Kp4.set (h : Kp4 S X B Ds w3 W W') {b : Nat} {cs : Array Value} {t : TypeId} (k : Blk W' b cs t) (hS : S ≤ B) (hb : B ≤ b) (hX : b ≠ X) (j : Nat) (u : Value) : Kp4 S X B Ds w3 W (W'.setCell ⟨b, j, none⟩ u) :=
  ⟨h.keep.trans (KeepsOthers.setCell _ _ _), h.kp.trans ⟨(Below.refl _ _).setCell (by show S ≤ b; omega) _, Below.heap_setCell W' ⟨b, j, none⟩ u X (by show X ≠ b; omega)⟩, h.mks.set k j u, h.bl.setCell hb _, by rw [show (W'.setCell ⟨b, j, none⟩ u).heap.size = W'.heap.size by simp [World.setCell]]; exact h.sz⟩
theorem Kp4.grown (h : Kp4 S X B Ds w3 W W') {g : Nat} (hg : W'.grownBy W'' (some g)) {cs : Array Value} {t : TypeId} {f : Nat × Nat} (hc : W'.heap[g]? = some (.cells cs t f)) (hS : S ≤ B) (hB : B ≤ W'.heap.size) (hX : X < W'.heap.size) (hgB : B ≤ g) (hgX : g ≠ X) : Kp4 S X B Ds w3 W W'' :=
  ⟨h.keep.trans (keeps_grown hg hc), h.kp.trans ⟨(Below.refl _ _).grown hg (by omega) (fun k hk => by cases hk; omega), hg.block X hX (fun e => hgX (Option.some.inj e).symm)⟩, h.mks.cells hg hc, h.bl.grown hg hB (fun k hk => by cases hk; exact hgB), Nat.le_trans h.sz hg.size⟩
end
/-- The counter that a box holds. -/
def boxInt (W : World) : Value → Int
  | .pointer (some q) => match W.cell? q with
    | some v => intOf v
    | none => 0
  | _ => 0
theorem boxInt_of {W : World} {q : Addr} {z : Int} (h : W.cell? q = some (.int .i64 z)) : boxInt W (.pointer (some q)) = z := by simp [boxInt, h, intOf]

end Go.Proofs.Ytmknengmjepdaaa
