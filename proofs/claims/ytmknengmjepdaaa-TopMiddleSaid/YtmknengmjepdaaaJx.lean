/- Several of my texts in one: Ja, Jb, Jc, La, Td. -/
import Derived.Test.YtmknengmjepdaaaIc
import Derived.Test.YtmknengmjepdaaaTx
import Derived.Test.YtmknengmjepdaaaMx
import Derived.Test.YtmknengmjepdaaaQx
/- Walk of grade.Pattern.checked. -/
namespace Go.Proofs.Ytmknengmjepdaaa
open Go.RowKit

/-- The least measures, times the size's denominator. -/
def leastX (p : Pat) (n d : Int) : List Int := (List.range p.n.toNat).map fun i => chainM p n d i 0
theorem solve_good {p : Pat} {n d : Int} (hp : PValid p) (hs : FSize n d) {k : Nat} (hk : k ≤ p.n.toNat) (hl : (bf p n d (k + 1)).last < 0) :
    chBad p n d = false ∧ (List.range p.n.toNat).map (bf p n d (k + 1)).x = leastX p n d := by
  have hN := hp.2.1
  have hN1 := hp.1
  obtain ⟨T, c, t, hb⟩ := binv_bf hp hs (k + 1) (by omega)
  have hf := fixed_of_last hb hl
  have hbad := (chBad_iff hp hs).2 (fixed_nopos hf)
  refine ⟨hbad, List.map_congr_left fun v hv => ?_⟩
  exact greatest_unique (fixed_greatest hp.1 hb hf) (chain_greatest hp hs hbad) v (List.mem_range.1 hv)
theorem solve_bad {p : Pat} {n d : Int} (hp : PValid p) (hs : FSize n d) {st : BSt} {v q : Nat} (h : Cycle p n d st v q) : chBad p n d = true := by
  cases hb : chBad p n d with
  | true => rfl
  | false => exact absurd ((chBad_iff hp hs).1 hb) (cycle_pos h)

/-- What checked hands back. -/
def ChkR (p : Pat) (n d : Int) (lo : Nat) (e : Ending) (W : World) : Prop :=
  ∃ vx, e = .returned (.tuple #[vx, .int .i64 (rLeastE p n d)]) ∧ (rLeastE p n d ≠ 0 → vx = .slice none 0 0) ∧ (rLeastE p n d = 0 → IntsR lo W vx (leastX p n d))

set_option maxHeartbeats 2000000 in
theorem checked_any (p : Pat) (n d : Int) (v : Value) (w : World) (h : PatF 0 w v p) :
    Calls Try.prog 70 #[v, .agg #[.int .i64 n, .int .i64 d]] w fun e w' => ChkR p n d w.heap.size e w' ∧ Below w.heap.size w w' := by
  have h00 := h
  obtain ⟨s, rfl, _⟩ := h
  go_enter Try.func70, Try.ntmps70
  go_wp2_with fail
  obtain ⟨w0, hw0, k0, k1, hB, hsz⟩ := one_new w #[.int .i64 p.n, s] #[.int .i64 n, .int .i64 d] 33 26
  rw [hw0]
  clear hw0
  have c0 := k0.look 0 rfl
  have c1 := k0.look 1 rfl
  go_wp2_with fail
  refine (gValid_any p _ _ (h00.below hB)).mono ?_
  rintro e w1 ⟨rfl, hb1⟩
  clear c0 c1
  have hB1 := hB.trans (hb1.mono hB.size)
  have c0 := (k0.below hb1).look 0 rfl
  have c1 := (k0.below hb1).look 1 rfl
  have c2 := (k1.below hb1).look 0 rfl
  have c3 := (k1.below hb1).look 1 rfl
  by_cases hp : PValid p
  · rw [decide_eq_true hp]
    have HP := hid hp
    clear hp
    go_wp2_with fail
    refine (sized_any n d _).mono ?_
    rintro e w2 ⟨rfl, hb2⟩
    clear c0 c1 c2 c3
    have hB2 := hB1.trans (hb2.mono hB1.size)
    have k02 := (k0.below hb1).below hb2
    have k12 := (k1.below hb1).below hb2
    clear k0 k1 hb1 hb2 hB
    by_cases hs : FSize n d
    · rw [decide_eq_true hs]
      have HS := hid hs
      clear hs
      have c0 := k02.look 0 rfl
      have c1 := k02.look 1 rfl
      have c2 := k12.look 0 rfl
      have c3 := k12.look 1 rfl
      go_wp2_with fail
      refine (solve_any p n d _ _ (h00.below hB2) HP.out HS.out).mono ?_
      rintro e w3 ⟨⟨vx, vl, rfl, hr⟩, hb3⟩
      have hB3 := hB2.trans (hb3.mono hB2.size)
      have hlo := hB2.size
      rcases hr with ⟨k, hk, hl, rfl, hx⟩ | ⟨h0, rfl, v, q, hcy, hx⟩
      · obtain ⟨g1, g2⟩ := solve_good HP.out HS.out hk hl
        have hE : rLeastE p n d = 0 := by unfold rLeastE; rw [decide_eq_true HP.out, decide_eq_true HS.out, g1]; rfl
        rw [g2] at hx
        have HE := hid hE
        clear hk hl g1 g2 hE c0 c1 c2 c3
        go_wp2
        go_ret2
        exact ⟨⟨_, by rw [HE.out]; rfl, fun hne => absurd HE.out hne, fun _ => SlR.mono hx hlo⟩, hB3⟩
      · have hE : rLeastE p n d = 10 := by unfold rLeastE; rw [decide_eq_true HP.out, decide_eq_true HS.out, solve_bad HP.out HS.out hcy]; rfl
        obtain ⟨ao, cap, rfl, hcap, hmax, hc⟩ := hx
        have hq := hcy.pos
        obtain ⟨b, off, rfl, -⟩ := hc (by
          intro h9
          have := congrArg List.length h9
          rw [intCells_len, List.length_map, List.length_range] at this
          simp at this
          omega)
        rw [List.length_map, List.length_range]
        have HE := hid hE
        clear hE c0 c1 c2 c3 hc h0 hcy
        go_wp2
        go_ret2
        exact ⟨⟨_, by rw [HE.out]; rfl, fun _ => rfl, fun h9 => by rw [HE.out] at h9; cases h9⟩, hB3⟩
    · rw [decide_eq_false hs]
      have hE : rLeastE p n d = 2 := by unfold rLeastE; rw [decide_eq_false hs]; simp
      have HE := hid hE
      clear hs hE
      go_wp2
      go_ret2
      exact ⟨⟨_, by rw [HE.out]; rfl, fun _ => rfl, fun h9 => by rw [HE.out] at h9; cases h9⟩, hB2⟩
  · rw [decide_eq_false hp]
    have hE : rLeastE p n d = 2 := by unfold rLeastE; rw [decide_eq_false hp]; simp
    have HE := hid hE
    clear hp hE
    go_wp2
    go_ret2
    exact ⟨⟨_, by rw [HE.out]; rfl, fun _ => rfl, fun h9 => by rw [HE.out] at h9; cases h9⟩, hB1⟩

end Go.Proofs.Ytmknengmjepdaaa

/- Walk of grade.Least. -/
namespace Go.Proofs.Ytmknengmjepdaaa
open Go.RowKit

/-- make of elements of any size, the world given. -/
theorem wpList_mks {P : Program} {w : World} {ops : Array Oper} {rest : List Oper} {o : Oper} {a : Act} {Q : Exit → Act → World → Prop} (hgd : o.guard = none) (l c : Operand) (t : TypeId) (ho : o.op = Op.makeSlice t l c)
    (e : TypeId) (z : Value) (size bytes : Nat) (ht : P.underlying t = some (.slice e)) (hi : (P.info? e).map (fun i => (i.zero, i.size, i.bytes)) = some (some z, size, bytes))
    (kl kc : IntKind) (n : Nat) (hl : a.eval l = .int kl (n : Int)) (hc : a.eval c = .int kc (n : Int)) (b2 : bytes * n ≤ 281474976710656) (b3 : n ≤ 9223372036854775807)
    (hK : wpList P ops Q rest (a.put o.dst (.slice (some ⟨w.heap.size, 0, none⟩) n n)) (w.alloc (.cells (madeCells z.cells (n * size)) e))) : wpList P ops Q (o :: rest) a w := by
  obtain ⟨i, hi0, hz0, hsize, hby⟩ := info_parts hi
  refine wpList_plain hgd fun K hK' => ?_
  have hb' : (i.bytes : Int) * (n : Int) ≤ 281474976710656 := by
    have h : ((i.bytes * n : Nat) : Int) ≤ 281474976710656 := by rw [hby]; omega
    rwa [Int.natCast_mul] at h
  have hr := run_make (P := P) w t e i z ht hi0 hz0 kl kc n n (by omega) (Int.le_refl _) hb' (by omega)
  simp only [Int.toNat_natCast, hsize] at hr
  unfold Oper.wp
  simp [execOp, ho, hl, hc, hr, Result.andThen]
  exact hK' _ _ hK
theorem made_row2 (N : Nat) : madeCells (frV 0 0).cells (N * 2) = rowArr (N * 2) (fun _ => 0) := by
  show madeCells #[Value.int .i64 0, Value.int .i64 0] (N * 2) = _
  apply Array.ext
  · simp [size_madeCells, rowArr]
  · intro i h1 h2
    have h3 : i < N * 2 := by simpa [size_madeCells] using h1
    have h4 := rowArr_get (f := fun _ => 0) h3
    rw [Array.getElem?_eq_getElem h2, Option.some.injEq] at h4
    rw [h4]
    have h5 : i % 2 = 0 ∨ i % 2 = 1 := by omega
    rcases h5 with h5 | h5 <;> simp [madeCells, h5]
theorem row_frs {lo b N : Nat} {W : World} {g : Nat → Int} {t : TypeId} {F : Nat → Int × Int} (h : Blk W b (rowArr (N * 2) g) t) (hlo : lo ≤ b) (hN : N ≤ 1000) (hg : ∀ j, j < N → g (j * 2) = (F j).1 ∧ g (j * 2 + 1) = (F j).2) :
    FrsR lo W (.slice (some ⟨b, 0, none⟩) N N) ((List.range N).map F) := by
  refine ⟨some ⟨b, 0, none⟩, N, by rw [List.length_map, List.length_range], by rw [List.length_map, List.length_range]; exact Nat.le_refl _, by unfold maxLen; omega, fun _ => ⟨b, 0, rfl, hlo, h.lt, fun j hj => ?_⟩⟩
  rw [frCells_len, List.length_map, List.length_range] at hj
  rw [Nat.zero_add, h.look j (rowArr_get hj)]
  have h1 := frCells_get ((List.range N).map F) (j / 2) (by rw [List.length_map, List.length_range]; omega)
  have h2 := hg (j / 2) (by omega)
  have h3 : ((List.range N).map F).getD (j / 2) (0, 0) = F (j / 2) := by rw [List.getD_eq_getElem?_getD, List.getElem?_map, List.getElem?_range (by omega)]; rfl
  rw [h3] at h1
  have h5 : j % 2 = 0 ∨ j % 2 = 1 := by omega
  rcases h5 with h5 | h5
  · obtain ⟨q, rfl⟩ : ∃ q, j = q * 2 := ⟨j / 2, by omega⟩
    rw [Nat.mul_div_cancel _ (by decide)] at h1 h2
    rw [h1.1, h2.1]
  · obtain ⟨q, rfl⟩ : ∃ q, j = q * 2 + 1 := ⟨j / 2, by omega⟩
    rw [show (q * 2 + 1) / 2 = q by omega] at h1 h2
    rw [h1.2, h2.2]

set_option maxHeartbeats 4000000 in
theorem Least_any (p : Pat) (n d : Int) (v : Value) (w : World) (h : PatF 0 w v p) :
    Calls Try.prog 22 #[v, .agg #[.int .i64 n, .int .i64 d]] w fun e w' => (∃ vm, e = .returned (.tuple #[vm, .int .i64 (rLeastE p n d)]) ∧ FrsR w.heap.size w' vm (rLeastL p n d)) ∧ Below w.heap.size w w' := by
  obtain ⟨sv, rfl, -⟩ := id h
  go_enter Try.func22, Try.ntmps22
  go_wp2_with fail
  obtain ⟨w0, hw0, k0, k1, hB, hsz⟩ := one_new w #[.int .i64 p.n, sv] #[.int .i64 n, .int .i64 d] 33 26
  rw [hw0]
  clear hw0
  have c0 := k0.look 0 rfl
  have c1 := k0.look 1 rfl
  have c2 := k1.look 0 rfl
  have c3 := k1.look 1 rfl
  go_wp2_with fail
  refine (checked_any p n d _ _ (h.below hB)).mono ?_
  rintro e w1 ⟨⟨vx, rfl, hE1, hE2⟩, hb1⟩
  clear c0 c1 c2 c3
  have hB1 := hB.trans (hb1.mono hB.size)
  have k11 := k1.below hb1
  have hsz1 := hb1.size
  by_cases hE : rLeastE p n d = 0
  · have hl := hE2 hE
    have hpv : PValid p := by
      apply Decidable.byContradiction
      intro hp
      unfold rLeastE at hE
      rw [decide_eq_false hp] at hE
      simp at hE
    have hfs : FSize n d := by
      apply Decidable.byContradiction
      intro hp
      unfold rLeastE at hE
      rw [decide_eq_false hp] at hE
      simp at hE
    have HI := hid (chainM_I64 hpv hfs)
    have HF := hid hfs
    obtain ⟨N, hN⟩ : ∃ N : Nat, p.n.toNat = N := ⟨_, rfl⟩
    have hN1 : 1 ≤ N := by have := hpv.1; omega
    have hN16 : N ≤ 16 := by have := hpv.2.1; omega
    have hL : rLeastL p n d = (List.range N).map (leastF p n d) := by
      unfold rLeastL leastL
      rw [if_pos hE, hN]
    have HL := hid hL
    have HE := hid hE
    rw [hE]
    obtain ⟨ao, cap, rfl, hcap, hmax, hc⟩ := hl
    have hlen : (leastX p n d).length = N := by unfold leastX; rw [List.length_map, List.length_range, hN]
    rw [hlen] at hcap ⊢
    have hget : ∀ i, i < N → (leastX p n d)[i]? = some (chainM p n d i 0) := by
      intro i hi
      unfold leastX
      rw [List.getElem?_map, List.getElem?_range (by omega)]
      rfl
    have HG := hid hget
    clear hget hlen hpv hfs hL hE1 hE2 hE hN
    unfold maxLen at hmax
    go_wp2_with (at_make; refine wpList_mks rfl (.tmp 21) (.tmp 21) 27 rfl 26 (frV 0 0) 2 16 Try.underlying27 infoFrac _ _ N rfl rfl (by omega) (by omega) ?_; rw [made_row2])
    have kx := Blk.new w1 (rowArr (N * 2) fun _ => 0) 26
    have hb2 := (Below.refl w1.heap.size w1).alloc (Nat.le_refl _) (.cells (rowArr (N * 2) fun _ => 0) 26)
    obtain ⟨w2, hw2⟩ : ∃ w2, w1.alloc (.cells (rowArr (N * 2) fun _ => 0) 26) = w2 := ⟨_, rfl⟩
    rw [hw2] at kx hb2 ⊢
    clear hw2
    obtain ⟨B, hBB⟩ : ∃ B, w1.heap.size = B := ⟨_, rfl⟩
    have hlt := k11.lt
    rw [hBB] at kx hlt hb2 ⊢
    have HBB := hid hBB
    clear hBB
    go_loopw [25] (fun x wr => ∃ i : Nat, x = .int .i64 i ∧ i ≤ N ∧ Below B w1 wr ∧ ∃ g, Blk wr B (rowArr (N * 2) g) 26 ∧ ∀ j, j < i → g (j * 2) = (leastF p n d j).1 ∧ g (j * 2 + 1) = (leastF p n d j).2) (fun x _ => N - (intOf x).toNat)
    case atStart => exact ⟨0, rfl, Nat.zero_le _, hb2, _, kx, fun j hj => by omega⟩
    case round =>
      obtain ⟨i, rfl, hi, hbel, g, kr, hg⟩ := hrel
      by_cases hiN : i < N
      · have hIi := HI.out i 0
        have hci := HG.out i hiN
        obtain ⟨z, hz⟩ : ∃ z, chainM p n d i 0 = z := ⟨_, rfl⟩
        have NEW : Hid (∀ w, Calls Try.prog 71 #[.int .i64 z, .int .i64 d] w fun e w' => e = .returned (.tuple #[frV (leastF p n d i).1 (leastF p n d i).2, .int .i64 (newE z d)]) ∧ Below w.heap.size w w') := by
          refine hid (fun w => ?_)
          have := fNew_any z d w (by rw [← hz]; exact hIi.1) (by rw [← hz]; exact hIi.2) (by have := HF.out.1.1; omega) (by have := HF.out.1.2.1; omega)
          unfold leastF
          rw [hz]
          exact this
        rw [hz] at hci
        obtain ⟨b9, off9, rfl, hb9, cx9⟩ := int_cell hc hci
        have cx := (hbel.cell (p := ⟨b9, off9 + i, none⟩) (by have := HBB.out; show b9 < B; omega)).trans cx9
        have kd := k11.below' hbel hlt
        have cd := kd.look 1 rfl
        obtain ⟨xn, hxn⟩ : ∃ z, (leastF p n d i).1 = z := ⟨_, rfl⟩
        obtain ⟨xd, hxd⟩ : ∃ z, (leastF p n d i).2 = z := ⟨_, rfl⟩
        rw [hxn, hxd] at NEW
        obtain ⟨xe, hxe⟩ : ∃ e, newE z d = e := ⟨_, rfl⟩
        rw [hxe] at NEW
        have HXN := hid hxn
        have HXD := hid hxd
        clear hxn hxd hxe hIi hci hz cx9
        go_wp2_with fail
        refine (NEW.out _).mono ?_
        rintro e w3 ⟨rfl, hb3⟩
        have kr3 := kr.below hb3
        have f3 := kr3.frozen
        have hbel3 := hbel.trans (hb3.mono (by have := kr.lt; omega))
        clear cx cd
        unfold frV
        have hi2 : (i : Int) < (N : Int) := by omega
        have kr4 := kr3.set (i * 2) (.int .i64 xn)
        rw [rowArr_set] at kr4
        have kr5 := kr4.set (i * 2 + 1) (.int .i64 xd)
        rw [rowArr_set] at kr5
        have s0 := kr3.look (i * 2) (rowArr_get (by omega))
        have s1 := kr4.look (i * 2 + 1) (rowArr_get (by omega))
        have f4 := kr4.frozen
        have hbel5 := (hbel3.setCell (p := ⟨B, i * 2, none⟩) (Nat.le_refl _) (.int .i64 xn)).setCell (p := ⟨B, i * 2 + 1, none⟩) (Nat.le_refl _) (.int .i64 xd)
        clear kr4
        go_wp2
        go_roundw
        case rel =>
          refine ⟨i + 1, by go_num, by omega, hbel5, _, kr5, fun j hj => ?_⟩
          by_cases hji : j = i
          · subst hji
            rw [if_neg (by omega), if_pos rfl, if_pos rfl]
            exact ⟨HXN.out.symm, HXD.out.symm⟩
          · rw [if_neg (by omega), if_neg (by omega), if_neg (by omega), if_neg (by omega)]
            exact hg j (by omega)
        case measure => simp [intOf]; omega
      · obtain rfl : i = N := by omega
        go_wp2
        go_ret2
        refine ⟨⟨_, by rw [HE.out]; rfl, ?_⟩, hB1.trans (hbel.mono (by have := HBB.out; omega))⟩
        rw [HL.out]
        exact row_frs kr (by have := HBB.out; omega) (by omega) hg
  · have hL : rLeastL p n d = [] := by unfold rLeastL; rw [if_neg hE]
    have HL := hid hL
    rw [hE1 hE]
    obtain ⟨ee, hee⟩ : ∃ ee, rLeastE p n d = ee := ⟨_, rfl⟩
    have HEE := hid hee
    rw [hee] at hE ⊢
    clear hE1 hE2 hL hee
    go_wp2
    go_ret2
    refine ⟨⟨_, by rw [HEE.out]; rfl, ?_⟩, hB1⟩
    rw [HL.out]
    exact SlR.nil _ _

end Go.Proofs.Ytmknengmjepdaaa

/- Walk of tranklaw04.awake. -/
namespace Go.Proofs.Ytmknengmjepdaaa
open Go.RowKit

/-- awake's pattern. -/
def pAwake : Pat := ⟨2, [⟨1, 0, 3, 1⟩]⟩
theorem awakeE : rLeastE pAwake 13 2 = 0 := by decide +kernel
theorem awakeL : rLeastL pAwake 13 2 = [(0, 1), (19, 2)] := by decide +kernel

theorem slR_blk {lo b n : Nat} {W : World} {cs : Array Value} {t : TypeId} (h : Blk W b cs t) (hlo : lo ≤ b) (hn : n ≤ 1000) {xs : List Value} (hx : cs.toList = xs) : SlR lo W (.slice (some ⟨b, 0, none⟩) n n) n xs := by
  subst hx
  refine ⟨some ⟨b, 0, none⟩, n, rfl, Nat.le_refl _, by unfold maxLen; omega, fun _ => ⟨b, 0, rfl, hlo, h.lt, fun j hj => ?_⟩⟩
  rw [Nat.zero_add, h.cell j]
  have hj' : j < cs.size := by simpa using hj
  simp [List.getD_eq_getElem?_getD, hj']

set_option maxHeartbeats 1000000 in
theorem awake_any (w : World) : Calls Try.prog 26 #[] w fun e w' => e = .returned (.bool true) ∧ Below w.heap.size w w' := by
  go_enter Try.func26, Try.ntmps26
  go_wp2_with fail
  have k0 := Blk.new w #[.int .i64 1, .int .i64 0, .int .i64 3, .int .i64 1] 92
  have hb0 := (Below.refl w.heap.size w).alloc (Nat.le_refl _) (.cells #[.int .i64 1, .int .i64 0, .int .i64 3, .int .i64 1] 92)
  obtain ⟨w0, hw0⟩ : ∃ w0, w.alloc (.cells #[.int .i64 1, .int .i64 0, .int .i64 3, .int .i64 1] 92) = w0 := ⟨_, rfl⟩
  rw [hw0] at k0 hb0 ⊢
  clear hw0
  refine (Least_any pAwake 13 2 _ w0 ⟨_, rfl, slR_blk (n := 1) k0 (Nat.zero_le _) (by decide) rfl⟩).mono ?_
  rintro e w1 ⟨⟨vm, rfl, hvm⟩, hb1⟩
  rw [awakeE]
  rw [awakeL] at hvm
  have hb2 := hb0.trans (hb1.mono hb0.size)
  go_wp2_with fail
  have k1 := Blk.new w1 #[.int .i64 0, .int .i64 1, .int .i64 19, .int .i64 2] 26
  have hb3 := (Below.refl w1.heap.size w1).alloc (Nat.le_refl _) (.cells #[.int .i64 0, .int .i64 1, .int .i64 19, .int .i64 2] 26)
  obtain ⟨w2, hw2⟩ : ∃ w2, w1.alloc (.cells #[.int .i64 0, .int .i64 1, .int .i64 19, .int .i64 2] 26) = w2 := ⟨_, rfl⟩
  rw [hw2] at k1 hb3 ⊢
  clear hw2
  refine (EqFr_any [(0, 1), (19, 2)] [(0, 1), (19, 2)] _ _ w2 ((hvm.below hb3).mono (Nat.zero_le _)) (slR_blk (n := 2) k1 (Nat.zero_le _) (by decide) rfl)).mono ?_
  rintro e w3 ⟨rfl, hb4⟩
  rw [decide_eq_true rfl]
  go_wp2
  go_ret
  exact ⟨rfl, (hb2.trans (hb3.mono hb2.size)).trans (hb4.mono (Nat.le_trans hb2.size hb3.size))⟩

end Go.Proofs.Ytmknengmjepdaaa

/- Walk of tranklaw04.GradeLeast. -/
namespace Go.Proofs.Ytmknengmjepdaaa
open Go.RowKit

/-- What 'of' hands on. -/
def p71 (p : Pat) : Pat := ⟨p.n, p.rules.take 71⟩
theorem p71_cases (p : Pat) : p71 p = p ∨ (¬ PValid p ∧ ¬ PValid (p71 p)) := by
  by_cases h : p.rules.length ≤ 71
  · left; unfold p71; rw [List.take_of_length_le h]
  · right
    refine ⟨fun k => by have := k.2.2.1; omega, fun k => ?_⟩
    have := k.2.2.1
    unfold p71 at this
    rw [List.length_take] at this
    omega
theorem rLeastE71 (p : Pat) (n d : Int) : rLeastE (p71 p) n d = rLeastE p n d := by
  rcases p71_cases p with h | ⟨h1, h2⟩
  · rw [h]
  · unfold rLeastE; rw [decide_eq_false h1, decide_eq_false h2]; rfl
theorem rLeastL71 (p : Pat) (n d : Int) : rLeastL (p71 p) n d = rLeastL p n d := by
  rcases p71_cases p with h | ⟨h1, h2⟩
  · rw [h]
  · unfold rLeastL
    have e1 : rLeastE p n d = 2 := by unfold rLeastE; rw [decide_eq_false h1]; simp
    rw [rLeastE71, e1]; rfl
theorem keepPS {W w' : World} {S : Nat} {a b : Value} {n d : Int} {s t : TypeId} (k0 : Blk W S #[a, b] s) (k1 : Blk W (S + 1) #[.int .i64 n, .int .i64 d] t) (hb : Below W.heap.size W w') :
    w'.cell? ⟨S, 0, none⟩ = some a ∧ w'.cell? ⟨S, 1, none⟩ = some b ∧ w'.cell? ⟨S + 1, 0, none⟩ = some (.int .i64 n) ∧ w'.cell? ⟨S + 1, 1, none⟩ = some (.int .i64 d) :=
  ⟨(k0.below hb).look 0 rfl, (k0.below hb).look 1 rfl, (k1.below hb).look 0 rfl, (k1.below hb).look 1 rfl⟩

set_option maxHeartbeats 4000000 in
theorem GradeLeast_any (p : Pat) (n d : Int) (v : Value) (w : World) (h : PatF 0 w v p) :
    Calls Try.prog 3 #[v, .agg #[.int .i64 n, .int .i64 d]] w fun e w' => e = .returned (.bool true) ∧ Below w.heap.size w w' := by
  obtain ⟨sv, rfl, -⟩ := id h
  go_enter Try.func3, Try.ntmps3
  go_wp2_with fail
  obtain ⟨w0, hw0, k0, k1, hB, hsz⟩ := one_new w #[.int .i64 p.n, sv] #[.int .i64 n, .int .i64 d] 24 26
  rw [hw0]
  clear hw0
  have h0 := h.below hB
  obtain ⟨S, hS⟩ : ∃ S, w.heap.size = S := ⟨_, rfl⟩
  rw [hS] at k0 k1 hsz ⊢
  have HS := hid hS
  clear hS
  have hd0 : Below w0.heap.size w0 w0.drew := (Below.refl _ _).drew
  go_region_held3 (fun w' => w'.cell? ⟨S, 0, none⟩ = some (.int .i64 p.n) ∧ w'.cell? ⟨S, 1, none⟩ = some sv ∧ w'.cell? ⟨S + 1, 0, none⟩ = some (.int .i64 n) ∧ w'.cell? ⟨S + 1, 1, none⟩ = some (.int .i64 d))
    (first | (refine keepPS k0 k1 ?_; assumption))
    (first
      | (go_at_call 23; refine (of_any p _ _ (h0.below hd0)).mono ?_; rintro e w1 ⟨v1, rfl, hv1, hb1⟩; have hW1 : Below w0.heap.size w0 w1 := hd0.trans (hb1.mono hd0.size))
      | (go_at_call 22; refine (Least_any (p71 p) n d _ _ (hv1.mono (Nat.zero_le _))).mono ?_; rintro e w2 ⟨⟨vm, rfl, hvm⟩, hb2⟩; have hW2 : Below w0.heap.size w0 w2 := hW1.trans (hb2.mono hW1.size)))
  rw [rLeastE71]
  rw [rLeastL71] at hvm
  obtain ⟨E, hE⟩ : ∃ E, rLeastE p n d = E := ⟨_, rfl⟩
  obtain ⟨L, hL⟩ : ∃ L, rLeastL p n d = L := ⟨_, rfl⟩
  have HE := hid hE
  have HL := hid hL
  rw [hE]
  rw [hL] at hvm
  clear hE hL hd0 hb1 hb2 hW1
  have hB2 : Below S w w2 := by rw [← HS.out]; exact hB.trans (hW2.mono hB.size)
  have k02 := k0.below hW2
  have k12 := k1.below hW2
  have c0 := k02.look 0 rfl
  have c1 := k02.look 1 rfl
  have c2 := k12.look 0 rfl
  have c3 := k12.look 1 rfl
  go_wp2_with fail
  refine (rLeast_any p n d _ _ (h0.below hW2)).mono ?_
  rintro e w3 ⟨⟨vm2, rfl, hvm2⟩, hb3⟩
  rw [HE.out]
  rw [HL.out] at hvm2
  clear c0 c1 c2 c3
  have hB3 := hB2.trans (hb3.mono (by have := hB2.size; have := HS.out; omega))
  go_wp2_with fail
  refine (EqFr_any L L _ _ w3 ((hvm.below hb3).mono (Nat.zero_le _)) (hvm2.mono (Nat.zero_le _))).mono ?_
  rintro e w4 ⟨rfl, hb4⟩
  rw [decide_eq_true rfl]
  have hB4 := hB3.trans (hb4.mono (by have := hB3.size; have := HS.out; omega))
  go_wp2_with fail
  refine (awake_any w4).mono ?_
  rintro e w5 ⟨rfl, hb5⟩
  have hB5 := hB4.trans (hb5.mono (by have := hB4.size; have := HS.out; omega))
  go_wp2
  go_ret
  exact ⟨rfl, by rw [HS.out]; exact hB5⟩

end Go.Proofs.Ytmknengmjepdaaa

/- Short chains; the least measures are small fractions; they grow with the size. -/
namespace Go.Proofs.Ytmknengmjepdaaa
open Go.RowKit

/-- The i-th unknown of a chain. -/
def vert : List Rul → Nat → Nat → Nat
  | [], a, _ => a
  | _ :: _, a, 0 => a
  | r :: l, _, i + 1 => vert l r.b.toNat i
theorem vert_zero (l : List Rul) (a : Nat) : vert l a 0 = a := by cases l <;> rfl
theorem walk_cut : ∀ (l : List Rul) (a b i : Nat), isWalk l a b → i ≤ l.length → isWalk (l.take i) a (vert l a i) ∧ isWalk (l.drop i) (vert l a i) b
  | [], a, b, i, h, hi => by
    have : i = 0 := by simpa using hi
    subst this
    exact ⟨rfl, h⟩
  | r :: l, a, b, 0, h, _ => ⟨rfl, h⟩
  | r :: l, a, b, i + 1, h, hi => by
    obtain ⟨h1, h2⟩ := walk_cut l r.b.toNat b i h.2 (by simpa using hi)
    exact ⟨⟨h.1, h1⟩, h2⟩
theorem vert_take : ∀ (l : List Rul) (a i j : Nat), i ≤ j → vert (l.take j) a i = vert l a i
  | [], a, i, j, _ => by simp [vert]
  | r :: l, a, 0, j, _ => by rw [vert_zero, vert_zero]
  | r :: l, a, i + 1, 0, h => by omega
  | r :: l, a, i + 1, j + 1, h => by
    rw [List.take_succ_cons]
    exact vert_take l r.b.toNat i j (by omega)
theorem vert_lt {p : Pat} (hp : PValid p) : ∀ (l : List Rul) (a i : Nat), (∀ r ∈ l, r ∈ ext p) → a < p.n.toNat → vert l a i < p.n.toNat
  | [], a, i, _, h => h
  | r :: l, a, 0, _, h => h
  | r :: l, a, i + 1, hl, h => by
    have := ext_rv hp.1 hp.2.2.2 r (hl r (List.mem_cons_self ..))
    refine vert_lt hp l _ i (fun r hr => hl r (List.mem_cons_of_mem _ hr)) ?_
    have a1 := this.2.2.1
    have a2 := this.2.2.2.1
    omega

theorem walk_short {p : Pat} {n d : Int} (hp : PValid p) (hn : NoPos p n d) : ∀ (m : Nat) (l : List Rul) (a b : Nat), l.length = m → (∀ r ∈ l, r ∈ ext p) → a < p.n.toNat → isWalk l a b →
    ∃ l', (∀ r ∈ l', r ∈ ext p) ∧ isWalk l' a b ∧ l'.length < p.n.toNat ∧ wts n d l ≤ wts n d l' := by
  intro m
  induction m using Nat.strongRecOn with
  | _ m ih =>
    intro l a b hm hl ha hw
    by_cases hlt : l.length < p.n.toNat
    · exact ⟨l, hl, hw, hlt, Int.le_refl _⟩
    · obtain ⟨i, j, hij, hjN, he⟩ := pigeon p.n.toNat (fun i => vert l a i) (fun i _ => vert_lt hp l a i hl ha)
      obtain ⟨w1, w2⟩ := walk_cut l a b j hw (by omega)
      have hlen : (l.take j).length = j := by rw [List.length_take]; omega
      obtain ⟨w3, w4⟩ := walk_cut (l.take j) a (vert l a j) i w1 (by omega)
      rw [vert_take l a i j (by omega), he] at w3 w4
      have hmid := hn ((l.take j).drop i) (vert l a j) (fun r hr => hl r (List.mem_of_mem_take (List.mem_of_mem_drop hr))) w4
      have hnew := isWalk_append w3 w2
      have hlen2 : ((l.take j).take i ++ l.drop j).length < m := by
        rw [List.length_append, List.length_take, hlen, List.length_drop]; omega
      obtain ⟨l', h1, h2, h3, h4⟩ := ih _ hlen2 _ a b rfl (fun r hr => (List.mem_append.1 hr).elim (fun h => hl r (List.mem_of_mem_take (List.mem_of_mem_take h))) (fun h => hl r (List.mem_of_mem_drop h))) ha hnew
      refine ⟨l', h1, h2, h3, ?_⟩
      have e1 : wts n d l = wts n d (l.take j) + wts n d (l.drop j) := by rw [← wts_append, List.take_append_drop]
      have e2 : wts n d (l.take j) = wts n d ((l.take j).take i) + wts n d ((l.take j).drop i) := by rw [← wts_append, List.take_append_drop]
      rw [wts_append] at h4
      omega

theorem wts_bd {p : Pat} {n d : Int} (hp : PValid p) (hs : FSize n d) (l : List Rul) (hl : ∀ r ∈ l, r ∈ ext p) : wts n d l ≤ l.length * 50000000 := by
  induction l with
  | nil => simp [wts_nil]
  | cons r l ih =>
    have h1 := ih (fun r hr => hl r (List.mem_cons_of_mem _ hr))
    have h2 := wt_le (ext_rv hp.1 hp.2.2.2 r (hl r (List.mem_cons_self ..))) hs
    rw [wts_cons, List.length_cons]
    omega
/-- The least measures lie between 0 and 800000000. -/
theorem chain_bd {p : Pat} {n d : Int} (hp : PValid p) (hs : FSize n d) (hb : chBad p n d = false) {v : Nat} (hv : v < p.n.toNat) : 0 ≤ chainM p n d v 0 ∧ chainM p n d v 0 ≤ 800000000 := by
  obtain ⟨⟨l, h1, h2, h3⟩, h4⟩ := chain_greatest hp hs hb v hv
  dsimp only at h3 h4
  constructor
  · obtain ⟨l0, k1, k2, k3⟩ := to_zero (p := p) n d hv
    have := h4 l0 k1 k2
    omega
  · obtain ⟨l', k1, k2, k3, k4⟩ := walk_short hp ((chBad_iff hp hs).1 hb) l.length l v 0 rfl h1 hv h2
    have := wts_bd hp hs l' k1
    have := hp.2.1
    omega

/-- What New hands back where it fits. -/
theorem new_fv {z d : Int} (h1 : 1 ≤ d) (h2 : d ≤ 1000000000) (h3 : -1000000000 ≤ z) (h4 : z ≤ 1000000000) : FV (newN z d) (newD z d) ∧ ((newN z d : Int) : Rat) / ((newD z d : Int) : Rat) = (z : Rat) / (d : Rat) := by
  have hf := fits_of h1 h2 h3 h4
  have e1 : newN z d = ((z : Rat) / (d : Rat)).num := by unfold newN fitN; rw [if_neg (by omega), if_pos hf]
  have e2 : newD z d = (((z : Rat) / (d : Rat)).den : Int) := by unfold newD fitD; rw [if_neg (by omega), if_pos hf]
  rw [e1, e2]
  obtain ⟨q, hq⟩ : ∃ q, (z : Rat) / (d : Rat) = q := ⟨_, rfl⟩
  rw [hq] at hf ⊢
  obtain ⟨f1, f2⟩ := hf
  have hd := q.den_pos
  refine ⟨⟨by omega, by omega, by omega, by omega, ?_⟩, ?_⟩
  · have := q.reduced
    simpa [Nat.Coprime] using this
  · have := rat_parts q
    exact this.symm
theorem least_fv {p : Pat} {n d : Int} (hp : PValid p) (hs : FSize n d) (hb : chBad p n d = false) {v : Nat} (hv : v < p.n.toNat) : FV (leastF p n d v).1 (leastF p n d v).2 ∧ (((leastF p n d v).1 : Int) : Rat) / (((leastF p n d v).2 : Int) : Rat) = (chainM p n d v 0 : Rat) / (d : Rat) := by
  obtain ⟨h1, h2⟩ := chain_bd hp hs hb hv
  exact new_fv hs.1.1 hs.1.2.1 (by omega) (by omega)

/-- The weights of a chain at two sizes, no rule of which has a negative D. -/
theorem wts_grow {n d n' d' : Int} (h : n * d' ≤ n' * d) (l : List Rul) (hl : ∀ r ∈ l, 0 ≤ r.d) : wts n d l * d' ≤ wts n' d' l * d := by
  induction l with
  | nil => simp [wts_nil]
  | cons r l ih =>
    have h1 := ih (fun r hr => hl r (List.mem_cons_of_mem _ hr))
    have h2 := Int.mul_le_mul_of_nonneg_left h (hl r (List.mem_cons_self ..))
    rw [wts_cons, wts_cons, Int.add_mul, Int.add_mul]
    unfold wt
    have e1 : (r.c * d + r.d * n) * d' = r.c * d * d' + r.d * (n * d') := by grind
    have e2 : (r.c * d' + r.d * n') * d = r.c * d * d' + r.d * (n' * d) := by grind
    rw [e1, e2]
    omega
theorem ext_d {p : Pat} (h : ∀ r ∈ p.rules, 0 ≤ r.d) : ∀ r ∈ ext p, 0 ≤ r.d := by
  intro r hr
  unfold ext at hr
  rcases List.mem_append.1 hr with hr | hr
  · exact h r hr
  · obtain ⟨i, _, rfl⟩ := List.mem_map.1 hr
    exact Int.le_refl _
theorem chain_grow {p : Pat} {n d n' d' : Int} (hp : PValid p) (hs : FSize n d) (hs' : FSize n' d') (hb : chBad p n d = false) (hb' : chBad p n' d' = false) (hD : ∀ r ∈ p.rules, 0 ≤ r.d) (h : n * d' ≤ n' * d) {v : Nat} (hv : v < p.n.toNat) :
    chainM p n d v 0 * d' ≤ chainM p n' d' v 0 * d := by
  obtain ⟨⟨l, h1, h2, h3⟩, _⟩ := chain_greatest hp hs hb v hv
  obtain ⟨_, h4⟩ := chain_greatest hp hs' hb' v hv
  dsimp only at h3 h4
  have k1 := wts_grow h l (fun r hr => ext_d hD r (h1 r hr))
  have k2 := h4 l h1 h2
  have k3 := Int.mul_le_mul_of_nonneg_right k2 (show 0 ≤ d by have := hs.1.1; omega)
  rw [h3] at k1
  omega

/-- Order of two fractions, by whole numbers. -/
theorem sgn_div_le {a b c e : Int} (hb : 1 ≤ b) (he : 1 ≤ e) : sgnQ ((a : Rat) / (b : Rat) - (c : Rat) / (e : Rat)) ≤ 0 ↔ a * e ≤ c * b := by
  have hb' : (0 : Rat) < (b : Rat) := Rat.intCast_pos.2 (by omega)
  have he' : (0 : Rat) < (e : Rat) := Rat.intCast_pos.2 (by omega)
  have key : ((a : Rat) / (b : Rat) - (c : Rat) / (e : Rat)) * ((b : Rat) * (e : Rat)) = ((a * e - c * b : Int) : Rat) := by
    push_cast
    grind
  have hpos : (0 : Rat) < (b : Rat) * (e : Rat) := Rat.mul_pos hb' he'
  obtain ⟨q, hq⟩ : ∃ q, (a : Rat) / (b : Rat) - (c : Rat) / (e : Rat) = q := ⟨_, rfl⟩
  rw [hq] at key ⊢
  have hle : q ≤ 0 ↔ a * e ≤ c * b := by
    constructor
    · intro h
      have h1 : q * ((b : Rat) * (e : Rat)) ≤ 0 := by
        have := Rat.mul_le_mul_of_nonneg_right h (Rat.le_of_lt hpos)
        simpa using this
      rw [key] at h1
      have h2 : a * e - c * b ≤ 0 := Rat.intCast_le_intCast.1 (by simpa only [Rat.intCast_zero] using h1)
      omega
    · intro h
      apply Decidable.byContradiction
      intro hn
      have hq0 : 0 < q := Rat.not_le.1 hn
      have h1 := Rat.mul_pos hq0 hpos
      rw [key] at h1
      have h2 : 0 < a * e - c * b := Rat.intCast_pos.1 h1
      omega
  rw [← hle]
  unfold sgnQ
  split
  · rename_i h; constructor
    · intro _; exact Rat.le_of_lt h
    · intro _; decide
  · rename_i h
    split
    · rename_i h0; rw [h0]; simp
    · rename_i h0
      constructor
      · intro hc; simp at hc
      · intro hc
        exact absurd (Rat.le_antisymm hc (Rat.not_lt.1 h)) h0

end Go.Proofs.Ytmknengmjepdaaa
