/- append of gloves to gloves; pairs, the row's own example. -/
import Derived.Test.YtcpefolhohakmaaK7
import Derived.Test.YtcpefolhohakmaaK5
namespace Go.Proofs.Ytcpefolhohakmaa
open Go.RowKit
attribute [local irreducible] seqS seqST walkV walkJ

theorem infoRGlove : (Try.prog.info? 24).map (fun i => (i.zero, i.size, i.bytes)) = some (some (.agg #[.int .i64 0, .int .i64 0, .int .i64 0, .int .i64 0]), 4, 32) := by kernel_rfl
theorem gsC_one (l : List Gv) : ∀ u ∈ gsC l, u.oneCell' = true := by
  intro u hu
  obtain ⟨g, _, hg⟩ := List.mem_flatMap.1 hu
  simp only [gC, List.mem_cons, List.not_mem_nil, or_false] at hg
  rcases hg with rfl | rfl | rfl | rfl <;> rfl
theorem appG (w : World) (B : Nat) {g n cap : Nat} {xs : List Value} (hown : w.ownsRow B 24 4 (.slice (some ⟨g, 0, none⟩) n cap) n xs) {v2 : Value} {l : List Gv} (hv : GsR 0 w v2 l) (hsmall : n + l.length ≤ 1000) (hB : B ≤ w.heap.size) (ty : TypeId) :
    ∃ g' cap' w', (Builtin.append_ #[22, 22] ty #[.slice (some ⟨g, 0, none⟩) n cap, v2]).run Try.prog w = .ok (.slice (some ⟨g', 0, none⟩) (n + l.length) cap') w' ∧
      w'.ownsRow B 24 4 (.slice (some ⟨g', 0, none⟩) (n + l.length) cap') (n + l.length) (xs ++ gsC l) ∧ Below B w w' := by
  obtain ⟨ao, cp, rfl, -, -, hc⟩ := hv
  obtain ⟨-, -, hgB, -⟩ := owns_block hown
  cases ao with
  | none =>
    have hl : l = [] := by
      apply Decidable.byContradiction
      intro hne
      have h1 : gsC l ≠ [] := fun e => hne (List.length_eq_zero_iff.1 (by have := gsC_len l; rw [e] at this; simp at this; omega))
      obtain ⟨b, off, h0, _⟩ := hc h1
      cases h0
    subst hl
    obtain ⟨i, hi0, -, -, -⟩ := info_parts infoRGlove
    have hnc : n ≤ cap := by
      obtain ⟨-, ⟨h, -⟩ | ⟨g', cap', cur, hv, -, -, h1, -⟩⟩ := hown
      · cases h
      · cases hv; exact h1
    refine ⟨g, cap, w, ?_, by simpa [gsC] using hown, Below.refl _ _⟩
    exact run_append_nothing w 22 22 ty 24 i Try.underlying22 hi0 _ n cap hnc _ (Src.ofNil w Try.underlying22 cp)
  | some ad =>
    have hcell : ∀ j u, (gsC l)[j]? = some u → w.cell? (ad.add j) = some u := by
      intro j u hj
      have hjl := (List.getElem?_eq_some_iff.1 hj).1
      obtain ⟨b, off, h0, _, _, h3⟩ := hc (by intro e; rw [e] at hjl; simp at hjl)
      cases h0
      have := h3 j hjl
      rw [List.getD_eq_getElem?_getD, hj] at this
      simpa [Addr.add_lit] using this
    obtain ⟨g', cap', w', hr, ho, hg, -, -⟩ := app_at (P := Try.prog) w B 22 ty 24 (.agg #[.int .i64 0, .int .i64 0, .int .i64 0, .int .i64 0]) 4 32 Try.underlying22 infoRGlove rfl (by decide) hown ad l.length cp (gsC l) (gsC_len l) hcell (gsC_one l) (by unfold maxLen; omega) (by omega) hB
    exact ⟨g', cap', w', hr, ho, (Below.refl B w).grown hg hB (fun j hj => by cases hj; exact hgB)⟩
theorem wpList_appG {w : World} {ops : Array Oper} {rest : List Oper} {o : Oper} {a : Act} {Q : Exit → Act → World → Prop} (hgd : o.guard = none) (s x : Operand) (ho : o.op = .call { callee := .builtin .append, args := #[s, x], argTypes := #[22, 22] })
    (B : Nat) {g n cap : Nat} {xs : List Value} (hs : a.eval s = .slice (some ⟨g, 0, none⟩) n cap) (hown : w.ownsRow B 24 4 (.slice (some ⟨g, 0, none⟩) n cap) n xs) {v2 : Value} {l : List Gv} (hx : a.eval x = v2) (hv : GsR 0 w v2 l) (hsmall : n + l.length ≤ 1000) (hB : B ≤ w.heap.size)
    (hk : ∀ g' cap' w', w'.ownsRow B 24 4 (.slice (some ⟨g', 0, none⟩) (n + l.length) cap') (n + l.length) (xs ++ gsC l) → Below B w w' → wpList Try.prog ops Q rest (a.put o.dst (.slice (some ⟨g', 0, none⟩) (n + l.length) cap')) w') : wpList Try.prog ops Q (o :: rest) a w := by
  refine wpList_plain hgd fun K hK => ?_
  obtain ⟨g', cap', w', hr, h1, h2⟩ := appG w B hown hv hsmall hB o.type
  unfold Oper.wp execOp
  simp only [ho, resolve, invoke, builtin, Sem.run_bind, Sem.run_pure, Result.andThen_ok, List.map_toArray, List.map_cons, List.map_nil, hs, hx, hr]
  exact hK _ _ (hk g' cap' w' h1 h2)
theorem blk_gs {w : World} {g : Nat} {cs : Array Value} {t : TypeId} {l : List Gv} (h : Blk w g cs t) (hcs : cs = (gsC l).toArray) (hl : l.length ≤ 1000) : GsR 0 w (.slice (some ⟨g, 0, none⟩) l.length l.length) l := by
  refine ⟨_, _, rfl, Nat.le_refl _, by unfold maxLen; omega, fun _ => ⟨g, 0, rfl, Nat.zero_le _, h.lt, fun j hj => ?_⟩⟩
  rw [Nat.zero_add, h.cell j, hcs]
  rw [List.getD_eq_getElem?_getD, List.getElem?_eq_getElem hj]
  simp [List.getElem?_eq_getElem hj]

def exL : List Gv := [⟨0, 0, 0, 0⟩, ⟨10, 0, 0, 0⟩]
def exR : List Gv := [⟨10, 0, 0, 0⟩, ⟨0, 0, 0, 0⟩]
def exU : Ru := ⟨⟨0, 0, 0, 0⟩, ⟨3, 0, 0, 0⟩⟩
theorem ex_two : mostN exL exR exU = 2 := by decide +kernel
theorem ex_l : SideOk exL := by decide +kernel
theorem ex_r : SideOk exR := by decide +kernel
theorem ex_u : RuOk exU := by decide +kernel

set_option maxHeartbeats 4000000 in
set_option maxRecDepth 100000 in
theorem pairs_any (w : World) : Calls Try.prog 5 #[] w fun r w' => r = .returned (.bool true) ∧ Below w.heap.size w w' := by
  have MO := hid (fun v v2 w h h2 => Most_yes exL exR exU v v2 w h h2 ex_l ex_r ex_u)
  rw [ex_two] at MO
  have kA := Blk.new w #[.int .i64 0, .int .i64 0, .int .i64 0, .int .i64 0, .int .i64 10, .int .i64 0, .int .i64 0, .int .i64 0] 33
  have bA := alloc_below w (.cells #[.int .i64 0, .int .i64 0, .int .i64 0, .int .i64 0, .int .i64 10, .int .i64 0, .int .i64 0, .int .i64 0] 33)
  have kB := Blk.new (w.alloc (.cells #[.int .i64 0, .int .i64 0, .int .i64 0, .int .i64 0, .int .i64 10, .int .i64 0, .int .i64 0, .int .i64 0] 33)) #[.int .i64 10, .int .i64 0, .int .i64 0, .int .i64 0, .int .i64 0, .int .i64 0, .int .i64 0, .int .i64 0] 33
  have bB := alloc_below (w.alloc (.cells #[.int .i64 0, .int .i64 0, .int .i64 0, .int .i64 0, .int .i64 10, .int .i64 0, .int .i64 0, .int .i64 0] 33)) (.cells #[.int .i64 10, .int .i64 0, .int .i64 0, .int .i64 0, .int .i64 0, .int .i64 0, .int .i64 0, .int .i64 0] 33)
  have hsz : (w.alloc (.cells #[.int .i64 0, .int .i64 0, .int .i64 0, .int .i64 0, .int .i64 10, .int .i64 0, .int .i64 0, .int .i64 0] 33)).heap.size = w.heap.size + 1 := by simp
  rw [hsz] at kB
  have HA := hid (blk_gs (l := exL) (kA.below bB) rfl (by decide))
  have HB := hid (blk_gs (l := exR) kB rfl (by decide))
  have bb := bA.trans (bB.mono bA.size)
  clear kA kB bA bB hsz
  go_enter Try.func5, Try.ntmps5
  go_wp2_with fail
  refine (MO.out _ _ _ HA.out HB.out).mono ?_
  rintro r w1 ⟨rfl, hb1⟩
  have bb1 := bb.trans (hb1.mono bb.size)
  clear MO HA HB hb1 bb
  go_wp2
  go_ret
  exact ⟨rfl, bb1⟩

end Go.Proofs.Ytcpefolhohakmaa
