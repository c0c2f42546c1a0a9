/- Walks of tranktop.pattern, whole, graded. -/
import Derived.Test.YtmknengmjepdaaaJx
import Derived.Test.YtmknengmjepdaaaYg
namespace Go.Proofs.Ytmknengmjepdaaa
open Go.RowKit
attribute [local irreducible] seqS seqST walkV walkJ

set_option maxHeartbeats 2000000 in
theorem tpattern_any (p : Pat) (v : Value) (w : World) (h : PatF 0 w v p) :
    Calls Try.prog 52 #[v] w fun e w' => ∃ v', e = .returned v' ∧ PatF w.heap.size w' v' ⟨p.n, p.rules.take 71⟩ ∧ Below w.heap.size w w' := by
  obtain ⟨ao, cap, rfl, hcap, hmax, hc⟩ := h.shape
  unfold maxLen at hmax
  clear h
  obtain ⟨L, hL⟩ : ∃ L, p.rules.length = L := ⟨_, rfl⟩
  have HL := hid hL
  rw [hL] at hcap ⊢
  clear hL
  go_enter Try.func52, Try.ntmps52
  go_wp2
  obtain ⟨w0, hw0, k0, k1, k2, hB, hsz⟩ := three_new w #[.int .i64 p.n, .slice ao L cap] #[.int .i64 0, .slice none 0 0] #[.int .i64 p.n, .slice none 0 0] 24 33 33
  rw [hw0]
  clear hw0
  go_loopw [12] (fun x wr => ∃ (i : Nat) (vq : Value), x = .int .i64 i ∧ i ≤ L ∧ i ≤ 71 ∧ Blk wr (w.heap.size + 1 + 1) #[.int .i64 p.n, vq] 33 ∧ Blk wr (w.heap.size + 1) #[.int .i64 0, .slice none 0 0] 33 ∧
    wr.ownsRow (w.heap.size + 1 + 1 + 1) 92 4 vq i (ruCells (p.rules.take i)) ∧ Below w.heap.size w wr ∧ w.heap.size + 1 + 1 + 1 ≤ wr.heap.size) (fun x _ => L - (intOf x).toNat)
  case atStart => exact ⟨0, _, rfl, Nat.zero_le _, by omega, k2, k1, World.ownsRow_nil _ _ _ _, hB, by omega⟩
  case round =>
    obtain ⟨i, vq, rfl, hi, hi2, kq, kr, hown, hbel, hs3⟩ := hrel
    have c0 := kq.look 0 rfl
    have c1 := kq.look 1 rfl
    have f0 := kq.frozen
    have g0 := kr.frozen
    have r0 := kr.look 0 rfl
    have r1 := kr.look 1 rfl
    by_cases hil : i < L ∧ i ≤ 70
    · obtain ⟨h1, h2⟩ := hil
      obtain ⟨r, hr⟩ := ex_rule (l := p.rules) (i := i) (by rw [HL.out]; exact h1)
      obtain ⟨b, off, rfl, hb, d0, d1, d2, d3⟩ := ru_cell hc hr
      have HRR := hid hr
      clear hr
      have e0 := (hbel.cell (p := ⟨b, off + i * 4, none⟩) hb).trans d0
      have e1 := (hbel.cell (p := ⟨b, off + i * 4 + 1, none⟩) hb).trans d1
      have e2 := (hbel.cell (p := ⟨b, off + i * 4 + 2, none⟩) hb).trans d2
      have e3 := (hbel.cell (p := ⟨b, off + i * 4 + 3, none⟩) hb).trans d3
      clear d0 d1 d2 d3
      obtain ⟨ra, rb, rc, rd⟩ := r
      dsimp only at e0 e1 e2 e3
      have hlt : w.heap.size + 1 + 1 < wr.heap.size := by omega
      go_wp2_with (at_builtin; refine wpList_appH rfl (.tmp 20) (.tmp 30) _ rfl (w.heap.size + 1 + 1 + 1) 92 (.agg #[.int .i64 0, .int .i64 0, .int .i64 0, .int .i64 0]) 4 32 Try.underlying31 infoRule rfl (by decide) 92 _ _ _ rfl (hown.alloc _) [.int .i64 ra, .int .i64 rb, .int .i64 rc, .int .i64 rd] (wr.heap.size + 1) (World.size_alloc _ _) rfl rfl (by simp [Value.oneCell']) (by unfold maxLen; omega) (by omega) (by simp; omega) ?_; intro g gcap w2 hown2 hb2 _ _ _; have kq2 := (kq.alloc (.cells #[.int .i64 ra, .int .i64 rb, .int .i64 rc, .int .i64 rd] 46)).below' hb2 (Nat.lt_succ_self _); have kr2 := (kr.alloc (.cells #[.int .i64 ra, .int .i64 rb, .int .i64 rc, .int .i64 rd] 46)).below' hb2 (Nat.lt_succ_of_lt (Nat.lt_succ_self _)); have cc1 := kq2.look 1 rfl; have ff := kq2.frozen)
      have hba : Below w.heap.size w w2 := (hbel.alloc hbel.size (.cells #[.int .i64 ra, .int .i64 rb, .int .i64 rc, .int .i64 rd] 46)).trans (hb2.mono (Nat.le_add_right _ 3))
      have hs4 := hb2.size
      rw [World.size_alloc] at hs4
      go_roundw
      case rel =>
        exact ⟨i + 1, _, by go_num, by omega, by omega, kq2.set 1 _, kr2.other (Nat.ne_of_lt (Nat.lt_succ_self _)) _, ownsRow_setCell_below (by rw [ru_snoc HRR.out]; exact hown2) (Nat.lt_succ_self _) _, hba.setCell (Nat.le_add_right _ 2) _, by simp [World.setCell]; omega⟩
      case measure => simp [intOf]; omega
    · have hsl := SlR.of_owns hown
      obtain ⟨vo, vcap, rfl, hsl'⟩ := hsl
      clear hsl'
      have hfin : ∀ w', Below w.heap.size w w' → w'.ownsRow (w.heap.size + 1 + 1 + 1) 92 4 (.slice vo i vcap) i (ruCells (p.rules.take i)) → i = min 71 L → PatF w.heap.size w' (.agg #[.int .i64 p.n, .slice vo i vcap]) ⟨p.n, p.rules.take 71⟩ := by
        intro w' _ ho hmin
        have e1 : p.rules.take i = p.rules.take 71 := by
          rw [hmin, ← HL.out]
          rcases Nat.le_total 71 p.rules.length with h | h
          · rw [Nat.min_eq_left h]
          · rw [Nat.min_eq_right h, List.take_length, List.take_of_length_le h]
        have e2 : (p.rules.take 71).length = i := by rw [List.length_take, HL.out, hmin]
        refine ⟨_, rfl, ?_⟩
        dsimp only
        rw [e2, ← e1]
        exact (SlR.of_owns ho).mono (Nat.le_add_right _ 3)
      have HF := hid hfin
      clear hfin
      have hcs : i = L ∨ (i = 71 ∧ i < L) := by omega
      rcases hcs with h1 | ⟨h1, h2⟩
      · subst h1
        go_wp2
        refine bodyPost_ret (v := .agg #[.int .i64 p.n, .slice vo i vcap]) (by simp [results, Try.results52, go_sem, r0, r1]) rfl ⟨_, rfl, ?_, (hbel.setCell (Nat.le_add_right _ 1) _).setCell (Nat.le_add_right _ 1) _⟩
        exact HF.out _ ((hbel.setCell (Nat.le_add_right _ 1) _).setCell (Nat.le_add_right _ 1) _) (ownsRow_setCell_below (ownsRow_setCell_below hown (Nat.lt_succ_of_lt (Nat.lt_succ_self _)) _) (Nat.lt_succ_of_lt (Nat.lt_succ_self _)) _) (by omega)
      · obtain ⟨r, hr⟩ := ex_rule (l := p.rules) (i := i) (by rw [HL.out]; exact h2)
        obtain ⟨b, off, rfl, hb, d0, d1, d2, d3⟩ := ru_cell hc hr
        clear hr
        have e0 := (hbel.cell (p := ⟨b, off + i * 4, none⟩) hb).trans d0
        have e1 := (hbel.cell (p := ⟨b, off + i * 4 + 1, none⟩) hb).trans d1
        have e2 := (hbel.cell (p := ⟨b, off + i * 4 + 2, none⟩) hb).trans d2
        have e3 := (hbel.cell (p := ⟨b, off + i * 4 + 3, none⟩) hb).trans d3
        clear d0 d1 d2 d3
        obtain ⟨ra, rb, rc, rd⟩ := r
        dsimp only at e0 e1 e2 e3
        have hlt : w.heap.size + 1 + 1 < wr.heap.size := by omega
        have hlt2 : w.heap.size + 1 < wr.heap.size := by omega
        have h1' : 70 < i := by omega
        have hmin : i = min 71 L := by omega
        have HM := hid hmin
        clear h1 hmin hil
        go_wp2
        have hX := ((kr.set 0 (.int .i64 p.n)).set 1 (.slice vo i vcap)).alloc (.cells #[.int .i64 ra, .int .i64 rb, .int .i64 rc, .int .i64 rd] 46)
        have x0 := hX.cell 0
        have x1 := hX.cell 1
        simp only [Array.getElem?_setIfInBounds] at x0 x1
        have hbf : Below w.heap.size w (((wr.setCell ⟨w.heap.size + 1, 0, none⟩ (.int .i64 p.n)).setCell ⟨w.heap.size + 1, 1, none⟩ (.slice vo i vcap)).alloc (.cells #[.int .i64 ra, .int .i64 rb, .int .i64 rc, .int .i64 rd] 46)) := ((hbel.setCell (Nat.le_add_right _ 1) _).setCell (Nat.le_add_right _ 1) _).alloc (by simp [World.setCell]; omega) _
        refine bodyPost_ret (v := .agg #[.int .i64 p.n, .slice vo i vcap]) (by simp [results, Try.results52, go_sem, x0, x1]) rfl ⟨_, rfl, ?_, hbf⟩
        exact HF.out _ hbf ((ownsRow_setCell_below (ownsRow_setCell_below hown (Nat.lt_succ_of_lt (Nat.lt_succ_self _)) _) (Nat.lt_succ_of_lt (Nat.lt_succ_self _)) _).alloc _) HM.out


theorem whole_any (n : Int) (w : World) : Calls Try.prog 97 #[.int .i64 n] w fun e w' => e = .returned (.agg #[.int .i64 n, .int .i64 1]) ∧ Below w.heap.size w w' := by
  go_enter Try.func97, Try.ntmps97
  go_wp2
  have k := Blk.new w #[.int .i64 n, .int .i64 1] 26
  have r0 := k.cell 0
  have r1 := k.cell 1
  refine bodyPost_ret (v := .agg #[.int .i64 n, .int .i64 1]) ?_ rfl ⟨rfl, alloc_below w _⟩
  simp [results, Try.results97, go_sem, r0, r1]

theorem gradedE : rLeastE pAwake 6 1 = 0 := by decide +kernel
theorem gradedL : rLeastL pAwake 6 1 = [(0, 1), (9, 1)] := by decide +kernel

set_option maxHeartbeats 1000000 in
theorem graded_any (w : World) : Calls Try.prog 55 #[] w fun e w' => e = .returned (.bool true) ∧ Below w.heap.size w w' := by
  go_enter Try.func55, Try.ntmps55
  go_wp2_with fail
  have k0 := Blk.new w #[.int .i64 1, .int .i64 0, .int .i64 3, .int .i64 1] 92
  have hb0 := (Below.refl w.heap.size w).alloc (Nat.le_refl _) (.cells #[.int .i64 1, .int .i64 0, .int .i64 3, .int .i64 1] 92)
  obtain ⟨w0, hw0⟩ : ∃ w0, w.alloc (.cells #[.int .i64 1, .int .i64 0, .int .i64 3, .int .i64 1] 92) = w0 := ⟨_, rfl⟩
  rw [hw0] at k0 hb0 ⊢
  clear hw0
  refine (whole_any 6 w0).mono ?_
  rintro e w1 ⟨rfl, hb1⟩
  have k1 := k0.below hb1
  have hB1 := hb0.trans (hb1.mono hb0.size)
  go_wp2_with fail
  refine (Least_any pAwake 6 1 _ w1 ⟨_, rfl, slR_blk (n := 1) k1 (Nat.zero_le _) (by decide) rfl⟩).mono ?_
  rintro e w2 ⟨⟨vm, rfl, hvm⟩, hb2⟩
  rw [gradedE]
  rw [gradedL] at hvm
  have hB2 := hB1.trans (hb2.mono hB1.size)
  obtain ⟨ao, cap, rfl, hcap, hmax, hc⟩ := hvm
  obtain ⟨b, off, rfl, hb, c0, c1⟩ := fr_cell hc (show 1 < [((0 : Int), (1 : Int)), (9, 1)].length by decide)
  rw [show [((0 : Int), (1 : Int)), (9, 1)].length = 2 from rfl] at hcap ⊢
  replace c0 : w2.cell? ⟨b, off + 2, none⟩ = some (.int .i64 9) := by simpa using c0
  replace c1 : w2.cell? ⟨b, off + 3, none⟩ = some (.int .i64 1) := by simpa using c1
  unfold maxLen at hmax
  go_wp2_with fail
  have hd := (Below.refl w2.heap.size w2).drew
  have z0 := fun x : SubT (Below w2.heap.size) w2.drew => ((hd.trans x.b).cell (p := ⟨b, off + 2, none⟩) hb).trans c0
  have z1 := fun x : SubT (Below w2.heap.size) w2.drew => ((hd.trans x.b).cell (p := ⟨b, off + 3, none⟩) hb).trans c1
  refine wp_walkJ (T := Below (w2.heap.size)) (belowV_pre _) (.rd 0 (.rd 1 (.rd 2 (.rd 3 (.rd 4 (.rd 5 (.rd 6 (.rd 7 (.rd 8 (.rd 9 (.rd 10 (.mv 11 (.rd 12 (.rd 13 (.rd 14 (.inv [])))))))))))))))) (by kernel_rfl) rfl (by kernel_rfl) (by kernel_rfl) ?_
  iterate 11 (refine walkJ_rd rfl (fun K hK => ?_); go_simp; refine hK _ ?_; clear hK K)
  (refine walkJ_mv rfl (fun K hK => ?_); go_simp; refine (whole_any 9 _).mono ?_; rintro e w3 ⟨rfl, hb3⟩; refine ⟨_, rfl, hK _ _ hb3 ?_⟩; clear hK K)
  iterate 3 (refine walkJ_rd rfl (fun K hK => ?_); go_simp; refine hK _ ?_; clear hK K)
  refine walkJ_nil ?_
  have hB3 := hB2.trans ((hd.trans hb3).mono hB2.size)
  go_wp2
  go_ret
  exact ⟨rfl, hB3⟩

end Go.Proofs.Ytmknengmjepdaaa
