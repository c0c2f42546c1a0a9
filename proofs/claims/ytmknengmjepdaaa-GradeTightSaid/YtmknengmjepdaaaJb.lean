/- Walk of grade.Least. -/
import Derived.Test.YtmknengmjepdaaaJa
import Derived.Test.YtmknengmjepdaaaFc
namespace Go.Proofs.Ytmknengmjepdaaa
open Go.RowKit

/-- make of elements of any size, the world given. -/
theorem wpList_mks {P : Program} {w : World} {ops : Array Oper} {rest : List Oper} {o : Oper} {a : Act} {Q : Exit → Act → World → Prop} (hgd : o.guard = none) (l c : Operand) (t : TypeId) (ho : o.op = Op.makeSlice t l c)
    (e : TypeId) (z : Value) (size bytes : Nat) (ht : P.underlying t = some (.slice e)) (hi : (P.info? e).map (fun i => (i.zero, i.size, i.bytes)) = some (some z, size, bytes))
    (kl kc : IntKind) (n : Nat) (hl : a.eval l = .int kl (n : Int)) (hc : a.eval c = .int kc (n : Int)) (b2 : bytes * n ≤ 281474976710656) (b3 : n ≤ 9223372036854775807)
    (hK : wpList P ops Q rest (a.put o.dst (.slice (some ⟨w.heap.size, 0, none⟩) n n)) (w.alloc (.cells (madeCells z.cells (n * size)) e))) : wpList P ops Q (o :: rest) a w := by
  obtain ⟨i, hi0, hz0, hsize, hby⟩ := info_parts hi
  refine wpList_plain hgd fun K hK' => ?_
  have hb' : (i.bytes : Int) * (n : Int) ≤ 281474976710656 := by
    have h : ((i.bytes * n : Nat) : Int) ≤ 281474976710656 := by rw [hby]; omega
    rwa [Int.natCast_mul] at h
  have hr := run_make (P := P) w t e i z ht hi0 hz0 kl kc n n (by omega) (Int.le_refl _) hb' (by omega)
  simp only [Int.toNat_natCast, hsize] at hr
  unfold Oper.wp
  simp [execOp, ho, hl, hc, hr, Result.andThen]
  exact hK' _ _ hK
theorem made_row2 (N : Nat) : madeCells (frV 0 0).cells (N * 2) = rowArr (N * 2) (fun _ => 0) := by
  show madeCells #[Value.int .i64 0, Value.int .i64 0] (N * 2) = _
  apply Array.ext
  · simp [size_madeCells, rowArr]
  · intro i h1 h2
    have h3 : i < N * 2 := by simpa [size_madeCells] using h1
    have h4 := rowArr_get (f := fun _ => 0) h3
    rw [Array.getElem?_eq_getElem h2, Option.some.injEq] at h4
    rw [h4]
    have h5 : i % 2 = 0 ∨ i % 2 = 1 := by omega
    rcases h5 with h5 | h5 <;> simp [madeCells, h5]
theorem row_frs {lo b N : Nat} {W : World} {g : Nat → Int} {t : TypeId} {F : Nat → Int × Int} (h : Blk W b (rowArr (N * 2) g) t) (hlo : lo ≤ b) (hN : N ≤ 1000) (hg : ∀ j, j < N → g (j * 2) = (F j).1 ∧ g (j * 2 + 1) = (F j).2) :
    FrsR lo W (.slice (some ⟨b, 0, none⟩) N N) ((List.range N).map F) := by
  refine ⟨some ⟨b, 0, none⟩, N, by rw [List.length_map, List.length_range], by rw [List.length_map, List.length_range]; exact Nat.le_refl _, by unfold maxLen; omega, fun _ => ⟨b, 0, rfl, hlo, h.lt, fun j hj => ?_⟩⟩
  rw [frCells_len, List.length_map, List.length_range] at hj
  rw [Nat.zero_add, h.look j (rowArr_get hj)]
  have h1 := frCells_get ((List.range N).map F) (j / 2) (by rw [List.length_map, List.length_range]; omega)
  have h2 := hg (j / 2) (by omega)
  have h3 : ((List.range N).map F).getD (j / 2) (0, 0) = F (j / 2) := by rw [List.getD_eq_getElem?_getD, List.getElem?_map, List.getElem?_range (by omega)]; rfl
  rw [h3] at h1
  have h5 : j % 2 = 0 ∨ j % 2 = 1 := by omega
  rcases h5 with h5 | h5
  · obtain ⟨q, rfl⟩ : ∃ q, j = q * 2 := ⟨j / 2, by omega⟩
    rw [Nat.mul_div_cancel _ (by decide)] at h1 h2
    rw [h1.1, h2.1]
  · obtain ⟨q, rfl⟩ : ∃ q, j = q * 2 + 1 := ⟨j / 2, by omega⟩
    rw [show (q * 2 + 1) / 2 = q by omega] at h1 h2
    rw [h1.2, h2.2]

set_option maxHeartbeats 4000000 in
theorem Least_any (p : Pat) (n d : Int) (v : Value) (w : World) (h : PatF 0 w v p) :
    Calls Try.prog 22 #[v, .agg #[.int .i64 n, .int .i64 d]] w fun e w' => (∃ vm, e = .returned (.tuple #[vm, .int .i64 (rLeastE p n d)]) ∧ FrsR w.heap.size w' vm (rLeastL p n d)) ∧ Below w.heap.size w w' := by
  obtain ⟨sv, rfl, -⟩ := id h
  go_enter Try.func22, Try.ntmps22
  go_wp2_with fail
  obtain ⟨w0, hw0, k0, k1, hB, hsz⟩ := one_new w #[.int .i64 p.n, sv] #[.int .i64 n, .int .i64 d] 33 26
  rw [hw0]
  clear hw0
  have c0 := k0.look 0 rfl
  have c1 := k0.look 1 rfl
  have c2 := k1.look 0 rfl
  have c3 := k1.look 1 rfl
  go_wp2_with fail
  refine (checked_any p n d _ _ (h.below hB)).mono ?_
  rintro e w1 ⟨⟨vx, rfl, hE1, hE2⟩, hb1⟩
  clear c0 c1 c2 c3
  have hB1 := hB.trans (hb1.mono hB.size)
  have k11 := k1.below hb1
  have hsz1 := hb1.size
  by_cases hE : rLeastE p n d = 0
  · have hl := hE2 hE
    have hpv : PValid p := by
      apply Decidable.byContradiction
      intro hp
      unfold rLeastE at hE
      rw [decide_eq_false hp] at hE
      simp at hE
    have hfs : FSize n d := by
      apply Decidable.byContradiction
      intro hp
      unfold rLeastE at hE
      rw [decide_eq_false hp] at hE
      simp at hE
    have HI := hid (chainM_I64 hpv hfs)
    have HF := hid hfs
    obtain ⟨N, hN⟩ : ∃ N : Nat, p.n.toNat = N := ⟨_, rfl⟩
    have hN1 : 1 ≤ N := by have := hpv.1; omega
    have hN16 : N ≤ 16 := by have := hpv.2.1; omega
    have hL : rLeastL p n d = (List.range N).map (leastF p n d) := by
      unfold rLeastL leastL
      rw [if_pos hE, hN]
    have HL := hid hL
    have HE := hid hE
    rw [hE]
    obtain ⟨ao, cap, rfl, hcap, hmax, hc⟩ := hl
    have hlen : (leastX p n d).length = N := by unfold leastX; rw [List.length_map, List.length_range, hN]
    rw [hlen] at hcap ⊢
    have hget : ∀ i, i < N → (leastX p n d)[i]? = some (chainM p n d i 0) := by
      intro i hi
      unfold leastX
      rw [List.getElem?_map, List.getElem?_range (by omega)]
      rfl
    have HG := hid hget
    clear hget hlen hpv hfs hL hE1 hE2 hE hN
    unfold maxLen at hmax
    go_wp2_with (at_make; refine wpList_mks rfl (.tmp 21) (.tmp 21) 27 rfl 26 (frV 0 0) 2 16 Try.underlying27 infoFrac _ _ N rfl rfl (by omega) (by omega) ?_; rw [made_row2])
    have kx := Blk.new w1 (rowArr (N * 2) fun _ => 0) 26
    have hb2 := (Below.refl w1.heap.size w1).alloc (Nat.le_refl _) (.cells (rowArr (N * 2) fun _ => 0) 26)
    obtain ⟨w2, hw2⟩ : ∃ w2, w1.alloc (.cells (rowArr (N * 2) fun _ => 0) 26) = w2 := ⟨_, rfl⟩
    rw [hw2] at kx hb2 ⊢
    clear hw2
    obtain ⟨B, hBB⟩ : ∃ B, w1.heap.size = B := ⟨_, rfl⟩
    have hlt := k11.lt
    rw [hBB] at kx hlt hb2 ⊢
    have HBB := hid hBB
    clear hBB
    go_loopw [25] (fun x wr => ∃ i : Nat, x = .int .i64 i ∧ i ≤ N ∧ Below B w1 wr ∧ ∃ g, Blk wr B (rowArr (N * 2) g) 26 ∧ ∀ j, j < i → g (j * 2) = (leastF p n d j).1 ∧ g (j * 2 + 1) = (leastF p n d j).2) (fun x _ => N - (intOf x).toNat)
    case atStart => exact ⟨0, rfl, Nat.zero_le _, hb2, _, kx, fun j hj => by omega⟩
    case round =>
      obtain ⟨i, rfl, hi, hbel, g, kr, hg⟩ := hrel
      by_cases hiN : i < N
      · have hIi := HI.out i 0
        have hci := HG.out i hiN
        obtain ⟨z, hz⟩ : ∃ z, chainM p n d i 0 = z := ⟨_, rfl⟩
        have NEW : Hid (∀ w, Calls Try.prog 71 #[.int .i64 z, .int .i64 d] w fun e w' => e = .returned (.tuple #[frV (leastF p n d i).1 (leastF p n d i).2, .int .i64 (newE z d)]) ∧ Below w.heap.size w w') := by
          refine hid (fun w => ?_)
          have := fNew_any z d w (by rw [← hz]; exact hIi.1) (by rw [← hz]; exact hIi.2) (by have := HF.out.1.1; omega) (by have := HF.out.1.2.1; omega)
          unfold leastF
          rw [hz]
          exact this
        rw [hz] at hci
        obtain ⟨b9, off9, rfl, hb9, cx9⟩ := int_cell hc hci
        have cx := (hbel.cell (p := ⟨b9, off9 + i, none⟩) (by have := HBB.out; show b9 < B; omega)).trans cx9
        have kd := k11.below' hbel hlt
        have cd := kd.look 1 rfl
        obtain ⟨xn, hxn⟩ : ∃ z, (leastF p n d i).1 = z := ⟨_, rfl⟩
        obtain ⟨xd, hxd⟩ : ∃ z, (leastF p n d i).2 = z := ⟨_, rfl⟩
        rw [hxn, hxd] at NEW
        obtain ⟨xe, hxe⟩ : ∃ e, newE z d = e := ⟨_, rfl⟩
        rw [hxe] at NEW
        have HXN := hid hxn
        have HXD := hid hxd
        clear hxn hxd hxe hIi hci hz cx9
        go_wp2_with fail
        refine (NEW.out _).mono ?_
        rintro e w3 ⟨rfl, hb3⟩
        have kr3 := kr.below hb3
        have f3 := kr3.frozen
        have hbel3 := hbel.trans (hb3.mono (by have := kr.lt; omega))
        clear cx cd
        unfold frV
        have hi2 : (i : Int) < (N : Int) := by omega
        have kr4 := kr3.set (i * 2) (.int .i64 xn)
        rw [rowArr_set] at kr4
        have kr5 := kr4.set (i * 2 + 1) (.int .i64 xd)
        rw [rowArr_set] at kr5
        have s0 := kr3.look (i * 2) (rowArr_get (by omega))
        have s1 := kr4.look (i * 2 + 1) (rowArr_get (by omega))
        have f4 := kr4.frozen
        have hbel5 := (hbel3.setCell (p := ⟨B, i * 2, none⟩) (Nat.le_refl _) (.int .i64 xn)).setCell (p := ⟨B, i * 2 + 1, none⟩) (Nat.le_refl _) (.int .i64 xd)
        clear kr4
        go_wp2
        go_roundw
        case rel =>
          refine ⟨i + 1, by go_num, by omega, hbel5, _, kr5, fun j hj => ?_⟩
          by_cases hji : j = i
          · subst hji
            rw [if_neg (by omega), if_pos rfl, if_pos rfl]
            exact ⟨HXN.out.symm, HXD.out.symm⟩
          · rw [if_neg (by omega), if_neg (by omega), if_neg (by omega), if_neg (by omega)]
            exact hg j (by omega)
        case measure => simp [intOf]; omega
      · obtain rfl : i = N := by omega
        go_wp2
        go_ret2
        refine ⟨⟨_, by rw [HE.out]; rfl, ?_⟩, hB1.trans (hbel.mono (by have := HBB.out; omega))⟩
        rw [HL.out]
        exact row_frs kr (by have := HBB.out; omega) (by omega) hg
  · have hL : rLeastL p n d = [] := by unfold rLeastL; rw [if_neg hE]
    have HL := hid hL
    rw [hE1 hE]
    obtain ⟨ee, hee⟩ : ∃ ee, rLeastE p n d = ee := ⟨_, rfl⟩
    have HEE := hid hee
    rw [hee] at hE ⊢
    clear hE1 hE2 hL hee
    go_wp2
    go_ret2
    refine ⟨⟨_, by rw [HEE.out]; rfl, ?_⟩, hB1⟩
    rw [HL.out]
    exact SlR.nil _ _

end Go.Proofs.Ytmknengmjepdaaa
