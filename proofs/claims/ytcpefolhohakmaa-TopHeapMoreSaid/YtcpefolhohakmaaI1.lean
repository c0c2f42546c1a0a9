/- A queue of indices at an offset: append and tail. -/
import Derived.Test.YtcpefolhohakmaaH9
import Derived.ArgAppend
namespace Go.Proofs.Ytcpefolhohakmaa
open Go.RowKit

/-- A queue: its indices lie from off on in a block of P. -/
def QuR (w : World) (P : Nat → Prop) (v : Value) (l : List Nat) : Prop :=
  ∃ gq off cap cur, v = .slice (some ⟨gq, off, none⟩) l.length cap ∧ P gq ∧ Blk w gq cur 3 ∧ off + cap ≤ cur.size ∧ l.length ≤ cap ∧ cap ≤ maxLen ∧ ∀ j u, (natI l)[j]? = some u → cur[off + j]? = some u
theorem QuR.keep {S : Nat → Prop} {w w' : World} {P : Nat → Prop} {v : Value} {l : List Nat} (h : QuR w P v l) (k : Keep S w w') (hs : ∀ g, P g → S g) : QuR w' P v l := by
  obtain ⟨gq, off, cap, cur, h1, h2, h3, h4⟩ := h
  exact ⟨gq, off, cap, cur, h1, h2, k.blk h3 (hs gq h2), h4⟩
theorem QuR.mono {w : World} {P P' : Nat → Prop} {v : Value} {l : List Nat} (h : QuR w P v l) (hp : ∀ g, g < w.heap.size → P g → P' g) : QuR w P' v l := by
  obtain ⟨gq, off, cap, cur, h1, h2, h3, h4⟩ := h
  exact ⟨gq, off, cap, cur, h1, hp gq h3.lt h2, h3, h4⟩
theorem QuR.below {w w' : World} {P : Nat → Prop} {v : Value} {l : List Nat} (h : QuR w P v l) (k : Below w.heap.size w w') : QuR w' P v l := by
  obtain ⟨gq, off, cap, cur, h1, h2, h3, h4⟩ := h
  exact ⟨gq, off, cap, cur, h1, h2, h3.below k, h4⟩
theorem QuR.cell {w : World} {P : Nat → Prop} {gq off n cap : Nat} {l : List Nat} (h : QuR w P (.slice (some ⟨gq, off, none⟩) n cap) l) {j : Nat} (hj : j < l.length) : w.cell? ⟨gq, off + j, none⟩ = some (.int .i64 ((l.getD j 0 : Nat) : Int)) := by
  obtain ⟨gq', off', cap', cur, h1, h2, h3, h4, h5, h6, h7⟩ := h
  cases h1
  exact (h3.cell _).trans (h7 j _ (natI_get hj))
theorem QuR.one {w : World} {P : Nat → Prop} {g x : Nat} (h : Blk w g #[.int .i64 (x : Int)] 3) (hB : P g) : QuR w P (.slice (some ⟨g, 0, none⟩) 1 1) [x] :=
  ⟨g, 0, 1, _, rfl, hB, h, by simp, by simp, by unfold maxLen; omega, fun j u hu => by
    match j, hu with
    | 0, hu => simpa [natI] using hu
    | j + 1, hu => simp [natI] at hu⟩
theorem QuR.tail {w : World} {P : Nat → Prop} {gq off cap x : Nat} {l : List Nat} (h : QuR w P (.slice (some ⟨gq, off, none⟩) (l.length + 1) cap) (x :: l)) (hc : 1 < cap) : QuR w P (.slice (some ⟨gq, off + 1, none⟩) l.length (cap - 1)) l := by
  obtain ⟨gq', off', cap', cur, h1, h2, h3, h4, h5, h6, h7⟩ := h
  cases h1
  refine ⟨gq, off + 1, cap - 1, cur, rfl, h2, h3, by omega, by simp at h5; omega, by omega, fun j u hu => ?_⟩
  have := h7 (j + 1) u (by simpa [natI] using hu)
  rw [show off + 1 + j = off + (j + 1) by omega]; exact this
theorem QuR.tail1 {w : World} {P : Nat → Prop} {gq off x : Nat} {l : List Nat} (h : QuR w P (.slice (some ⟨gq, off, none⟩) (l.length + 1) 1) (x :: l)) : l = [] ∧ QuR w P (.slice (some ⟨gq, off, none⟩) 0 0) [] := by
  obtain ⟨gq', off', cap', cur, h1, h2, h3, h4, h5, h6, h7⟩ := h
  cases h1
  have hl : l = [] := List.length_eq_zero_iff.1 (by rw [List.length_cons] at h5; omega)
  exact ⟨hl, gq, off, 0, cur, rfl, h2, h3, by omega, by simp, by omega, fun j u hu => by simp [natI] at hu⟩
theorem grown_weak {w w' : World} (h : w.grownBy w' none) (g : Nat) : w.grownBy w' (some g) := ⟨h.os, h.tape, h.output, h.size, fun k hk _ => h.block k hk (fun e => by cases e)⟩
/-- One index more. -/
theorem QuR.app {w : World} {P : Nat → Prop} {v : Value} {l : List Nat} (h : QuR w P v l) {H x : Nat} (hn : Blk w H #[.int .i64 (x : Int)] 3) (hB : ∀ g, w.heap.size ≤ g → P g) (hl : l.length ≤ 100000) (ty : TypeId) :
    ∃ v' w' gq, (Builtin.append_ #[37, 37] ty #[v, .slice (some ⟨H, 0, none⟩) 1 1]).run Try.prog w = .ok v' w' ∧ QuR w' P v' (l ++ [x]) ∧ w.grownBy w' (some gq) ∧ P gq := by
  obtain ⟨gq, off, cap, cur, rfl, h2, h3, h4, h5, h6, h7⟩ := h
  obtain ⟨i, hi0, hz, hsize, hby⟩ := info_parts infoInt
  have hnews : ∀ j u, [Value.int .i64 (x : Int)][j]? = some u → w.cell? ((⟨H, 0, none⟩ : Addr).add j) = some u := cells_news (news := [Value.int .i64 (x : Int)]) hn
  by_cases hroom : l.length + 1 ≤ cap
  · have hr := run_append_room_cells (P := Try.prog) w 37 ty 3 i Try.underlying37 hi0 gq off l.length cap ⟨H, 0, none⟩ 1 1 [.int .i64 (x : Int)] (by rw [hsize]; rfl) hnews (by intro u hu; rw [List.mem_singleton.1 hu]; rfl) hroom
      (fun j hj => by
        have hj0 : j = 0 := by simp at hj; omega
        subst hj0
        rw [hsize, Nat.mul_one, Nat.add_zero, h3.cell, Array.getElem?_eq_getElem (by omega)]; rfl)
      (fun j hj => h3.frozen _)
    rw [hsize, Nat.mul_one] at hr
    have hset : w.setCells gq (off + l.length) [Value.int .i64 (x : Int)] = w.setCell ⟨gq, off + l.length, none⟩ (.int .i64 (x : Int)) := rfl
    rw [hset] at hr
    refine ⟨_, _, gq, hr, ⟨gq, off, cap, _, by rw [List.length_append]; rfl, h2, h3.set (off + l.length) (.int .i64 (x : Int)), by rw [Array.size_setIfInBounds]; exact h4, by rw [List.length_append]; exact hroom, h6, fun j u hu => ?_⟩, ?_, h2⟩
    · rw [natI_append] at hu
      rw [Array.getElem?_setIfInBounds]
      by_cases hj : j < l.length
      · rw [if_neg (by omega)]
        rw [List.getElem?_append_left (by rw [natI_len]; exact hj)] at hu
        exact h7 j u hu
      · have hj2 : j = l.length := by
          have := (List.getElem?_eq_some_iff.1 hu).1
          rw [List.length_append, natI_len] at this
          simp [natI] at this; omega
        subst hj2
        rw [if_pos rfl, if_pos (by omega)]
        rw [List.getElem?_append_right (by rw [natI_len]; exact Nat.le_refl _), natI_len, Nat.sub_self] at hu
        simpa [natI] using hu
    · exact ⟨rfl, rfl, rfl, by simp [World.setCell], fun k _ hk => Below.heap_setCell w _ _ k (fun e => hk (by rw [e]))⟩
  · obtain ⟨v', w', hr, ho, hg⟩ := run_append_arg_grows (P := Try.prog) w 37 ty 3 i (.int .i64 0) 1 8 Try.underlying37 hi0 hz hsize hby rfl (by decide) ⟨gq, off, none⟩ l.length cap (natI l) (by rw [natI_len, Nat.mul_one])
      (fun j u hu => by rw [Addr.add_lit]; exact (h3.cell _).trans (h7 j u hu)) ⟨H, 0, none⟩ 1 1 [.int .i64 (x : Int)] rfl hnews (by omega) (by unfold maxLen; omega) (by omega)
    refine ⟨v', w', gq, hr, ?_, grown_weak hg gq, h2⟩
    obtain ⟨a1, ⟨_, h0⟩ | ⟨g, c, cur', rfl, b1, b2, b3, b4, b5, b6⟩⟩ := ho
    · omega
    · refine ⟨g, 0, c, cur', by rw [List.length_append]; rfl, hB g b1, b2, by omega, by rw [List.length_append]; exact b3, b4, fun j u hu => ?_⟩
      have e : natI l ++ [Value.int .i64 (x : Int)] = natI (l ++ [x]) := by rw [natI_append]; rfl
      rw [e] at b6
      rw [Nat.zero_add, ← Array.getElem?_toList]
      rw [← b6] at hu
      rw [List.getElem?_take] at hu
      split at hu
      · exact hu
      · cases hu

theorem wpList_appQ {w : World} {ops : Array Oper} {rest : List Oper} {o : Oper} {a : Act} {Q : Exit → Act → World → Prop} (hgd : o.guard = none) (s x : Operand) (ho : o.op = .call { callee := .builtin .append, args := #[s, x], argTypes := #[37, 37] })
    {P : Nat → Prop} {v : Value} {l : List Nat} (hs : a.eval s = v) (h : QuR w P v l) {H y : Nat} (hx : a.eval x = .slice (some ⟨H, 0, none⟩) 1 1) (hn : Blk w H #[.int .i64 (y : Int)] 3) (hB : ∀ g, w.heap.size ≤ g → P g) (hl : l.length ≤ 100000)
    (hk : ∀ v' w' gq, QuR w' P v' (l ++ [y]) → w.grownBy w' (some gq) → P gq → wpList Try.prog ops Q rest (a.put o.dst v') w') : wpList Try.prog ops Q (o :: rest) a w := by
  refine wpList_plain hgd fun K hK => ?_
  obtain ⟨v', w', gq, hr, h1, h2, h3⟩ := h.app hn hB hl o.type
  unfold Oper.wp execOp
  simp only [ho, resolve, invoke, builtin, Sem.run_bind, Sem.run_pure, Result.andThen_ok, List.map_toArray, List.map_cons, List.map_nil, hs, hx, hr]
  exact hK _ _ (hk v' w' gq h1 h2 h3)

end Go.Proofs.Ytcpefolhohakmaa
