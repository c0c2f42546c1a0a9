/- Walks of the statements' of and pattern: a pattern of the program. -/
import Derived.Test.YtmknengmjepdaaaPc
namespace Go.Proofs.Ytmknengmjepdaaa
open Go.RowKit

/-- wpList_app, where the heap's size is spelled otherwise. -/
theorem wpList_appH {P : Program} {w0 : World} {ops : Array Oper} {rest : List Oper} {o : Oper} {a : Act} {Q : Exit → Act → World → Prop} (hgd : o.guard = none) (s x : Operand) (t : TypeId)
    (ho : o.op = .call { callee := .builtin .append, args := #[s, x], argTypes := #[t, t] })
    (base : Nat) (e : TypeId) (z : Value) (size bytes : Nat) (ht : P.underlying t = some (.slice e)) (hi : (P.info? e).map (fun i => (i.zero, i.size, i.bytes)) = some (some z, size, bytes))
    (hzs : z.cells.size = size) (hsz : 0 < size) (te : TypeId)
    (v : Value) (n : Nat) (xs : List Value) (hs : a.eval s = v) (hown : w0.ownsRow base e size v n xs)
    (news : List Value) (H : Nat) (hH : w0.heap.size = H) (hx : a.eval x = .slice (some ⟨H, 0, none⟩) 1 1) (hl : news.length = size) (h1 : ∀ u ∈ news, u.oneCell' = true)
    (h63 : n + 1 ≤ maxLen) (hbytes : (n + 1) * bytes ≤ 140737488355328) (hbase : base ≤ w0.heap.size)
    (h : ∀ g cap w', w'.ownsRow base e size (.slice (some ⟨g, 0, none⟩) (n + 1) cap) (n + 1) (xs ++ news) → Below base w0 w' → w0.grownBy w' v.ownBlock → base ≤ g → g < w'.heap.size →
      wpList P ops Q rest (a.put o.dst (.slice (some ⟨g, 0, none⟩) (n + 1) cap)) w') :
    wpList P ops Q (o :: rest) a (w0.alloc (.cells news.toArray te)) := by
  subst hH
  exact wpList_app hgd s x t ho base e z size bytes ht hi hzs hsz te v n xs hs hown news hx hl h1 h63 hbytes hbase h

theorem infoRule : (Try.prog.info? 92).map (fun i => (i.zero, i.size, i.bytes)) = some (some (.agg #[.int .i64 0, .int .i64 0, .int .i64 0, .int .i64 0]), 4, 32) := by kernel_rfl
theorem ru_snoc {l : List Rul} {i : Nat} {r : Rul} (h : l[i]? = some r) : ruCells (l.take (i + 1)) = ruCells (l.take i) ++ [.int .i64 r.a, .int .i64 r.b, .int .i64 r.c, .int .i64 r.d] := by
  obtain ⟨hil, he⟩ := List.getElem?_eq_some_iff.1 h
  rw [List.take_succ_eq_append_getElem hil, ruCells_append, he]; rfl

set_option maxHeartbeats 2000000 in
theorem of_any (p : Pat) (v : Value) (w : World) (h : PatF 0 w v p) :
    Calls Try.prog 23 #[v] w fun e w' => ∃ v', e = .returned v' ∧ PatF w.heap.size w' v' ⟨p.n, p.rules.take 71⟩ ∧ Below w.heap.size w w' := by
  obtain ⟨ao, cap, rfl, hcap, hmax, hc⟩ := h.shape
  unfold maxLen at hmax
  clear h
  obtain ⟨L, hL⟩ : ∃ L, p.rules.length = L := ⟨_, rfl⟩
  have HL := hid hL
  rw [hL] at hcap ⊢
  clear hL
  go_enter Try.func23, Try.ntmps23
  go_wp2
  obtain ⟨w0, hw0, k0, k1, k2, hB, hsz⟩ := three_new w #[.int .i64 p.n, .slice ao L cap] #[.int .i64 0, .slice none 0 0] #[.int .i64 p.n, .slice none 0 0] 24 33 33
  rw [hw0]
  clear hw0
  go_loopw [12] (fun x wr => ∃ (i : Nat) (vq : Value), x = .int .i64 i ∧ i ≤ L ∧ i ≤ 71 ∧ Blk wr (w.heap.size + 1 + 1) #[.int .i64 p.n, vq] 33 ∧ Blk wr (w.heap.size + 1) #[.int .i64 0, .slice none 0 0] 33 ∧
    wr.ownsRow (w.heap.size + 1 + 1 + 1) 92 4 vq i (ruCells (p.rules.take i)) ∧ Below w.heap.size w wr ∧ w.heap.size + 1 + 1 + 1 ≤ wr.heap.size) (fun x _ => L - (intOf x).toNat)
  case atStart => exact ⟨0, _, rfl, Nat.zero_le _, by omega, k2, k1, World.ownsRow_nil _ _ _ _, hB, by omega⟩
  case round =>
    obtain ⟨i, vq, rfl, hi, hi2, kq, kr, hown, hbel, hs3⟩ := hrel
    have c0 := kq.look 0 rfl
    have c1 := kq.look 1 rfl
    have f0 := kq.frozen
    have g0 := kr.frozen
    have r0 := kr.look 0 rfl
    have r1 := kr.look 1 rfl
    by_cases hil : i < L ∧ i ≤ 70
    · obtain ⟨h1, h2⟩ := hil
      obtain ⟨r, hr⟩ := ex_rule (l := p.rules) (i := i) (by rw [HL.out]; exact h1)
      obtain ⟨b, off, rfl, hb, d0, d1, d2, d3⟩ := ru_cell hc hr
      have HRR := hid hr
      clear hr
      have e0 := (hbel.cell (p := ⟨b, off + i * 4, none⟩) hb).trans d0
      have e1 := (hbel.cell (p := ⟨b, off + i * 4 + 1, none⟩) hb).trans d1
      have e2 := (hbel.cell (p := ⟨b, off + i * 4 + 2, none⟩) hb).trans d2
      have e3 := (hbel.cell (p := ⟨b, off + i * 4 + 3, none⟩) hb).trans d3
      clear d0 d1 d2 d3
      obtain ⟨ra, rb, rc, rd⟩ := r
      dsimp only at e0 e1 e2 e3
      have hlt : w.heap.size + 1 + 1 < wr.heap.size := by omega
      go_wp2_with (at_builtin; refine wpList_appH rfl (.tmp 20) (.tmp 30) _ rfl (w.heap.size + 1 + 1 + 1) 92 (.agg #[.int .i64 0, .int .i64 0, .int .i64 0, .int .i64 0]) 4 32 Try.underlying31 infoRule rfl (by decide) 92 _ _ _ rfl (hown.alloc _) [.int .i64 ra, .int .i64 rb, .int .i64 rc, .int .i64 rd] (wr.heap.size + 1) (World.size_alloc _ _) rfl rfl (by simp [Value.oneCell']) (by unfold maxLen; omega) (by omega) (by simp; omega) ?_; intro g gcap w2 hown2 hb2 _ _ _; have kq2 := (kq.alloc (.cells #[.int .i64 ra, .int .i64 rb, .int .i64 rc, .int .i64 rd] 46)).below' hb2 (Nat.lt_succ_self _); have kr2 := (kr.alloc (.cells #[.int .i64 ra, .int .i64 rb, .int .i64 rc, .int .i64 rd] 46)).below' hb2 (Nat.lt_succ_of_lt (Nat.lt_succ_self _)); have cc1 := kq2.look 1 rfl; have ff := kq2.frozen)
      have hba : Below w.heap.size w w2 := (hbel.alloc hbel.size (.cells #[.int .i64 ra, .int .i64 rb, .int .i64 rc, .int .i64 rd] 46)).trans (hb2.mono (Nat.le_add_right _ 3))
      have hs4 := hb2.size
      rw [World.size_alloc] at hs4
      go_roundw
      case rel =>
        exact ⟨i + 1, _, by go_num, by omega, by omega, kq2.set 1 _, kr2.other (Nat.ne_of_lt (Nat.lt_succ_self _)) _, ownsRow_setCell_below (by rw [ru_snoc HRR.out]; exact hown2) (Nat.lt_succ_self _) _, hba.setCell (Nat.le_add_right _ 2) _, by simp [World.setCell]; omega⟩
      case measure => simp [intOf]; omega
    · have hsl := SlR.of_owns hown
      obtain ⟨vo, vcap, rfl, hsl'⟩ := hsl
      clear hsl'
      have hfin : ∀ w', Below w.heap.size w w' → w'.ownsRow (w.heap.size + 1 + 1 + 1) 92 4 (.slice vo i vcap) i (ruCells (p.rules.take i)) → i = min 71 L → PatF w.heap.size w' (.agg #[.int .i64 p.n, .slice vo i vcap]) ⟨p.n, p.rules.take 71⟩ := by
        intro w' _ ho hmin
        have e1 : p.rules.take i = p.rules.take 71 := by
          rw [hmin, ← HL.out]
          rcases Nat.le_total 71 p.rules.length with h | h
          · rw [Nat.min_eq_left h]
          · rw [Nat.min_eq_right h, List.take_length, List.take_of_length_le h]
        have e2 : (p.rules.take 71).length = i := by rw [List.length_take, HL.out, hmin]
        refine ⟨_, rfl, ?_⟩
        dsimp only
        rw [e2, ← e1]
        exact (SlR.of_owns ho).mono (Nat.le_add_right _ 3)
      have HF := hid hfin
      clear hfin
      have hcs : i = L ∨ (i = 71 ∧ i < L) := by omega
      rcases hcs with h1 | ⟨h1, h2⟩
      · subst h1
        go_wp2
        refine bodyPost_ret (v := .agg #[.int .i64 p.n, .slice vo i vcap]) (by simp [results, Try.results23, go_sem, r0, r1]) rfl ⟨_, rfl, ?_, (hbel.setCell (Nat.le_add_right _ 1) _).setCell (Nat.le_add_right _ 1) _⟩
        exact HF.out _ ((hbel.setCell (Nat.le_add_right _ 1) _).setCell (Nat.le_add_right _ 1) _) (ownsRow_setCell_below (ownsRow_setCell_below hown (Nat.lt_succ_of_lt (Nat.lt_succ_self _)) _) (Nat.lt_succ_of_lt (Nat.lt_succ_self _)) _) (by omega)
      · obtain ⟨r, hr⟩ := ex_rule (l := p.rules) (i := i) (by rw [HL.out]; exact h2)
        obtain ⟨b, off, rfl, hb, d0, d1, d2, d3⟩ := ru_cell hc hr
        clear hr
        have e0 := (hbel.cell (p := ⟨b, off + i * 4, none⟩) hb).trans d0
        have e1 := (hbel.cell (p := ⟨b, off + i * 4 + 1, none⟩) hb).trans d1
        have e2 := (hbel.cell (p := ⟨b, off + i * 4 + 2, none⟩) hb).trans d2
        have e3 := (hbel.cell (p := ⟨b, off + i * 4 + 3, none⟩) hb).trans d3
        clear d0 d1 d2 d3
        obtain ⟨ra, rb, rc, rd⟩ := r
        dsimp only at e0 e1 e2 e3
        have hlt : w.heap.size + 1 + 1 < wr.heap.size := by omega
        have hlt2 : w.heap.size + 1 < wr.heap.size := by omega
        have h1' : 70 < i := by omega
        have hmin : i = min 71 L := by omega
        have HM := hid hmin
        clear h1 hmin hil
        go_wp2
        have hX := ((kr.set 0 (.int .i64 p.n)).set 1 (.slice vo i vcap)).alloc (.cells #[.int .i64 ra, .int .i64 rb, .int .i64 rc, .int .i64 rd] 46)
        have x0 := hX.cell 0
        have x1 := hX.cell 1
        simp only [Array.getElem?_setIfInBounds] at x0 x1
        have hbf : Below w.heap.size w (((wr.setCell ⟨w.heap.size + 1, 0, none⟩ (.int .i64 p.n)).setCell ⟨w.heap.size + 1, 1, none⟩ (.slice vo i vcap)).alloc (.cells #[.int .i64 ra, .int .i64 rb, .int .i64 rc, .int .i64 rd] 46)) := ((hbel.setCell (Nat.le_add_right _ 1) _).setCell (Nat.le_add_right _ 1) _).alloc (by simp [World.setCell]; omega) _
        refine bodyPost_ret (v := .agg #[.int .i64 p.n, .slice vo i vcap]) (by simp [results, Try.results23, go_sem, x0, x1]) rfl ⟨_, rfl, ?_, hbf⟩
        exact HF.out _ hbf ((ownsRow_setCell_below (ownsRow_setCell_below hown (Nat.lt_succ_of_lt (Nat.lt_succ_self _)) _) (Nat.lt_succ_of_lt (Nat.lt_succ_self _)) _).alloc _) HM.out

end Go.Proofs.Ytmknengmjepdaaa
