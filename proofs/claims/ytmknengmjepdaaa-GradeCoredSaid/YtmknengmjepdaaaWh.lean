/- Walk of trankref04.Core. -/
import Derived.Test.YtmknengmjepdaaaWg
namespace Go.Proofs.Ytmknengmjepdaaa
open Go.RowKit
attribute [local irreducible] seqS seqST walkV walkJ

/-- 'append(row, v...)' onto a row of the call's own, of elements of one cell; v may be nil. -/
theorem app_src {P : Program} (w : World) (base : Nat) (t ty e : TypeId) (z : Value) (bytes : Nat) (ht : P.underlying t = some (.slice e)) (hi : (P.info? e).map (fun i => (i.zero, i.size, i.bytes)) = some (some z, 1, bytes))
    (hzs : z.cells.size = 1) {g n cap : Nat} {xs : List Value} (hown : w.ownsRow base e 1 (.slice (some ⟨g, 0, none⟩) n cap) n xs) {v : Value} {lo m : Nat} {ys : List Value} (hv : SlR lo w v m ys) (hn : ys.length = m) (h1 : ∀ u ∈ ys, u.oneCell' = true)
    (h63 : n + m ≤ maxLen) (hbytes : (n + m) * bytes ≤ 140737488355328) (hbase : base ≤ w.heap.size) :
    ∃ g' cap' w', (Builtin.append_ #[t, t] ty #[.slice (some ⟨g, 0, none⟩) n cap, v]).run P w = .ok (.slice (some ⟨g', 0, none⟩) (n + m) cap') w' ∧
      w'.ownsRow base e 1 (.slice (some ⟨g', 0, none⟩) (n + m) cap') (n + m) (xs ++ ys) ∧ w.grownBy w' (some g) ∧ (g' = g ∨ g' = w.heap.size) ∧ g' < w'.heap.size := by
  obtain ⟨ao, c, rfl, hcap, hmax, hc⟩ := hv
  cases ao with
  | none =>
    have hx : ys = [] := by
      apply Decidable.byContradiction
      intro hne
      obtain ⟨b, off, h0, _⟩ := hc hne
      cases h0
    subst hx
    obtain rfl : m = 0 := by simpa using hn.symm
    obtain ⟨i, hi0, hz, hsize, hby⟩ := info_parts hi
    obtain ⟨cur, hh, hg, hlt⟩ := owns_block hown
    have hnc : n ≤ cap := by
      obtain ⟨_, ⟨h, -⟩ | ⟨g', cap', cur', hv, -, -, b1, -⟩⟩ := hown
      · cases h
      · cases hv; exact b1
    refine ⟨g, cap, w, ?_, by rw [List.append_nil]; exact hown, ⟨rfl, rfl, rfl, Nat.le_refl _, fun _ _ _ => rfl⟩, .inl rfl, hlt⟩
    exact run_append_nothing w t t ty e i ht hi0 _ n cap hnc _ (Src.ofNil w ht c)
  | some ad =>
    have hcell : ∀ j u, ys[j]? = some u → w.cell? (ad.add j) = some u := by
      intro j u hj
      have hjl := (List.getElem?_eq_some_iff.1 hj).1
      obtain ⟨b, off, h0, _, _, h3⟩ := hc (by rintro rfl; simp at hjl)
      cases h0
      have := h3 j hjl
      rw [List.getD_eq_getElem?_getD, hj] at this
      simpa [Addr.add_lit] using this
    exact app_at w base t ty e z 1 bytes ht hi hzs (by decide) hown ad m c ys (by omega) hcell h1 h63 hbytes hbase
theorem wpList_append_run {P : Program} {w : World} {ops : Array Oper} {rest : List Oper} {o : Oper} {a : Act} {Q : Exit → Act → World → Prop} (hgd : o.guard = none) (s x : Operand) (t : TypeId)
    (ho : o.op = .call { callee := .builtin .append, args := #[s, x], argTypes := #[t, t] }) {ty : TypeId} (hty : o.type = ty)
    {vs vx : Value} (hs : a.eval s = vs) (hx : a.eval x = vx) {v : Value} {w' : World} (hr : (Builtin.append_ #[t, t] ty #[vs, vx]).run P w = .ok v w')
    (h : wpList P ops Q rest (a.put o.dst v) w') : wpList P ops Q (o :: rest) a w := by
  refine wpList_plain hgd fun K hK => ?_
  subst hty hs hx
  unfold Oper.wp execOp
  simp only [ho, resolve, invoke, builtin, Sem.run_bind, Sem.run_pure, Result.andThen_ok, List.map_toArray, List.map_cons, List.map_nil, hr]
  exact hK _ _ h

set_option maxHeartbeats 8000000 in
set_option maxRecDepth 100000 in
theorem rCore_any (p : Pat) (n d : Int) (v : Value) (w : World) (h : PatF 0 w v p) :
    Calls Try.prog 63 #[v, .agg #[.int .i64 n, .int .i64 d]] w fun e w' => (∃ vl, e = .returned (.tuple #[vl, .int .i64 (rLeastE p n d)]) ∧ IntsR w.heap.size w' vl (coreL p n d)) ∧ Below w.heap.size w w' := by
  obtain ⟨ao, cap, rfl, hcap, hmax, hc⟩ := h.shape
  unfold maxLen at hmax
  go_enter Try.func63, Try.ntmps63
  go_wp2_with fail
  obtain ⟨w0, hw0, k0, k1, hB, hsz⟩ := one_new w #[.int .i64 p.n, .slice ao p.rules.length cap] #[.int .i64 n, .int .i64 d] 24 26
  rw [hw0]
  clear hw0
  have c0 := k0.look 0 rfl
  have c1 := k0.look 1 rfl
  have c2 := k1.look 0 rfl
  have c3 := k1.look 1 rfl
  go_wp2_with fail
  refine (Good_any p n d _ _ (h.below hB)).mono ?_
  rintro e w1 ⟨rfl, hb1⟩
  clear c0 c1 c2 c3
  have hB1 := hB.trans (hb1.mono hB.size)
  have h1 := (h.below hB).below hb1
  have k01 := k0.below hb1
  have k11 := k1.below hb1
  have hsz1 := hb1.size
  obtain ⟨S, hS⟩ : ∃ S, w.heap.size = S := ⟨_, rfl⟩
  have HS := hid hS
  rw [hS] at k01 k11 hsz hB1 ⊢
  clear hS k0 k1 h
  obtain ⟨E, hEE⟩ : ∃ E, rLeastE p n d = E := ⟨_, rfl⟩
  obtain ⟨LL, hLL⟩ : ∃ E, coreL p n d = E := ⟨_, rfl⟩
  have HLL := hid hLL
  have HE := hid hEE
  by_cases hg : PValid p ∧ FSize n d
  case neg =>
    have hbb : (decide (PValid p) && decide (FSize n d)) = false := by rw [← Bool.decide_and]; exact decide_eq_false hg
    have hE2 := leastE_two hbb
    have hL : LL = [] := by rw [← hLL]; unfold coreL; rw [hE2]; rfl
    have HL2 := hid hL
    have HE2 := hid (hEE.symm.trans hE2)
    rw [hbb]
    clear hbb hE2 hL hEE hLL hg
    go_wp2
    go_ret2
    refine ⟨⟨_, by rw [HE.out, HE2.out]; rfl, ?_⟩, by rw [HS.out]; exact hB1⟩
    rw [HLL.out, HL2.out]
    exact SlR.nil _ _
  obtain ⟨hpv, hfs⟩ := hg
  have HP := hid hpv
  have HF := hid hfs
  rw [decide_eq_true hpv, decide_eq_true hfs, Bool.and_self]
  have hE3 := leastE_of hpv hfs
  obtain ⟨L, hL⟩ : ∃ L, p.rules.length = L := ⟨_, rfl⟩
  have hL64 : L ≤ 64 := by rw [← hL]; exact hpv.2.2.1
  have HL := hid hL
  rw [hL] at k01 hcap
  have H1 := hid h1
  have HE3 := hid hE3
  rw [hL] at h1
  clear hpv hfs hL hE3 hEE hLL
  have c0 := k01.look 0 rfl
  have c1 := k01.look 1 rfl
  have c2 := k11.look 0 rfl
  have c3 := k11.look 1 rfl
  go_wp2_with fail
  refine (Sound_any p n d _ _ h1 HP.out HF.out).mono ?_
  rintro e w2 ⟨rfl, hb2⟩
  clear c0 c1 c2 c3
  have hB2 := hB1.trans (hb2.mono (by have := k11.lt; omega))
  have k02 := k01.below hb2
  have k12 := k11.below hb2
  have hsz2 := hb2.size
  obtain ⟨d1, hd1⟩ : ∃ b, chBad p n d = b := ⟨_, rfl⟩
  have HD := hid hd1
  rw [hd1]
  clear hd1 k01 k11
  cases d1 with
  | true =>
    have hE2 : E = 10 := by rw [← HE.out, HE3.out, HD.out]; rfl
    have hL : LL = [] := by rw [← HLL.out]; unfold coreL; rw [HE.out, hE2]; rfl
    have HL2 := hid hL
    have HE2 := hid hE2
    clear hE2 hL
    go_wp2
    go_ret2
    refine ⟨⟨_, by rw [HE.out, HE2.out]; rfl, ?_⟩, by rw [HS.out]; exact hB2⟩
    rw [HLL.out, HL2.out]
    exact SlR.nil _ _
  | false =>
    have hE2 : E = 0 := by rw [← HE.out, HE3.out, HD.out]; rfl
    have HE2 := hid hE2
    have H2 := hid (H1.out.below hb2)
    have c1 := k02.look 1 rfl
    have wK : IntKind.i64.wrap ((L : Int) - 1) = (L : Int) - 1 := by rw [IntWalk.i64_left]; unfold wrap64; omega
    clear hE2 h1 hc
    go_wp2_with fail
    clear c1
    go_loopw [6, 7] (fun y x wr => ∃ j : Nat, j ≤ L ∧ x = .int .i64 ((L : Int) - 1 - j) ∧ IntsR (S + 2) wr y (coreN n d p j).2 ∧ (∃ sv, Blk wr S #[.int .i64 p.n, sv] 24 ∧ PatF 0 wr (.agg #[.int .i64 p.n, sv]) (coreN n d p j).1) ∧ Blk wr (S + 1) #[.int .i64 n, .int .i64 d] 26 ∧ Below S w wr) (fun _ x _ => (intOf x + 1).toNat)
    case atStart =>
      refine ⟨0, Nat.zero_le _, by simp, SlR.nil _ _, ⟨_, k02, ?_⟩, k12, hB2⟩
      have := H2.out
      rw [HL.out] at this
      exact this
    case round =>
      obtain ⟨j, hj, rfl, ho, ⟨sv, kS, hA⟩, kF, hb⟩ := hrel
      have HO := hid ho
      clear hB hb1 hB1 hsz1 hsz hB2 k02 k12 hsz2 hcap ho wK hb2
      by_cases hjL : j < L
      · obtain ⟨k, hk⟩ : ∃ k : Nat, L - (j + 1) = k := ⟨_, rfl⟩
        have hkI : (L : Int) - 1 - (j : Int) = (k : Int) := by omega
        have hkI2 : (L : Int) - 1 - ((j + 1 : Nat) : Int) = (k : Int) - 1 := by omega
        have hkI3 : 0 ≤ (k : Int) := by omega
        have wK1 : IntKind.i64.wrap ((k : Int) - 1) = (k : Int) - 1 := by rw [IntWalk.i64_left]; unfold wrap64; omega
        rw [hkI]
        have HKI2 := hid hkI2
        obtain ⟨hval, hbad, hnn, hlen⟩ := core_bad HP.out HF.out HD.out (j := j) (by rw [HL.out]; exact hj)
        have hyes := left_yes (n := n) (d := d) (p := p) (j := j) (by rw [HL.out]; exact hjL)
        have hno := left_no (n := n) (d := d) (p := p) (j := j) (by rw [HL.out]; exact hjL)
        have hol : (coreN n d p j).2.length ≤ 64 := by
          have h1 := (core_ok HP.out HF.out HD.out j (by rw [HL.out]; exact hj)).len
          have h2 := hval.2.2.1
          omega
        rw [HL.out] at hlen
        rw [HL.out, hk] at hyes hno
        obtain ⟨P, hP⟩ : ∃ P, (coreN n d p j).1 = P := ⟨_, rfl⟩
        obtain ⟨O, hO⟩ : ∃ P, (coreN n d p j).2 = P := ⟨_, rfl⟩
        rw [hP] at hA hval hbad hnn hlen hyes hno
        rw [hO] at hyes hno HO hol
        have hkP : k < P.rules.length := by omega
        have hP64 := hval.2.2.1
        obtain ⟨r, hr⟩ : ∃ r, P.rules.getD k ⟨0, 0, 0, 0⟩ = r := ⟨_, rfl⟩
        have hg := getD_rule hkP
        rw [hr] at hg
        have hrv : RV P.n r := hval.2.2.2 r (rule_mem hg)
        have hbl := less_bad hval HF.out k hbad
        have hpl := less_valid hval k
        obtain ⟨f, hf⟩ : ∃ f, folB (lessP P k) n d r = f := ⟨_, rfl⟩
        have FOL := hid (fun v w hv => follows_any (lessP P k) n d r v w hv hpl HF.out hbl hrv)
        rw [hf] at FOL
        have LES := hid (fun v w hv => rLess_any P k v w hv hkP hP64)
        rw [hr, hf] at hyes hno
        have HY := hid hyes
        have HN := hid hno
        have HNN := hid hnn
        have HG := hid hg
        obtain ⟨ao2, cp2, he2, -, -, hc2⟩ := hA.shape
        obtain rfl : sv = .slice ao2 P.rules.length cp2 := by
          simp only [Value.agg.injEq] at he2
          have := congrArg (fun a : Array Value => a[1]?) he2
          simpa using this
        obtain ⟨b9, off9, rfl, -⟩ := ru_cell hc2 hg
        have HC2 := hid hc2
        obtain ⟨PL, hPL⟩ : ∃ q, P.rules.length = q := ⟨_, rfl⟩
        have HPL := hid hPL
        rw [hPL] at kS hkP hP64 hA
        obtain ⟨ra, rb, rc, rd⟩ := r
        have HA := hid hA
        have hkP1 : (k : Int) < (PL : Int) := by omega
        have c0 := kS.look 0 rfl
        have c1 := kS.look 1 rfl
        clear hP hO hA hyes hno hnn hf hPL hlen hval hbad he2 hkI hk hkI2 hr hg hrv hbl hpl hc2
        have hS1 := kF.lt
        go_wp2_with fail
        refine (LES.out _ _ HA.out).mono ?_
        rintro e w4 ⟨v4, rfl, hv4, hb4⟩
        clear c0 c1
        obtain ⟨ao5, cp5, rfl, h51, h52, h53⟩ := hv4.shape
        have hn5 : (lessP P k).n = p.n := HNN.out
        rw [hn5] at hv4 ⊢
        obtain ⟨nl, hnl⟩ : ∃ q, (lessP P k).rules.length = q := ⟨_, rfl⟩
        rw [hnl] at hv4 ⊢
        have HV4 := hid hv4
        clear h51 h52 h53 hv4 hnl
        have kS4 := kS.below hb4
        have kF4 := kF.below hb4
        have hbw4 : Below S w w4 := hb.trans (hb4.mono (by omega))
        have hs4 := hb4.size
        have HO4 := hid (HO.out.below hb4)
        go_wp2_with fail
        have kN := Blk.new w4 #[.int .i64 p.n, .slice ao5 nl cp5] 24
        have hbA := alloc_below w4 (.cells #[.int .i64 p.n, .slice ao5 nl cp5] 24)
        obtain ⟨H, hH⟩ : ∃ H, w4.heap.size = H := ⟨_, rfl⟩
        obtain ⟨w5, hw5⟩ : ∃ w5, w4.alloc (.cells #[.int .i64 p.n, .slice ao5 nl cp5] 24) = w5 := ⟨_, rfl⟩
        rw [hw5] at kN hbA ⊢
        rw [hH] at kN ⊢
        have HHH := hid hH
        clear hw5 hH
        have kS5 := kS4.below hbA
        have kF5 := kF4.below hbA
        have HV5 := hid (HV4.out.below hbA)
        have HO5 := hid (HO4.out.below hbA)
        have hc5 := hid ((HC2.out.below hb4).below hbA)
        have hbw5 : Below S w w5 := hbw4.trans (hbA.mono (by omega))
        have hs5 := hbA.size
        have hd := (Below.refl w5.heap.size w5).drew
        have z0 := fun x : SubT (Below w5.heap.size) w5.drew => (kN.below (hd.trans x.b)).look 0 rfl
        have z1 := fun x : SubT (Below w5.heap.size) w5.drew => (kN.below (hd.trans x.b)).look 1 rfl
        have z2 := fun x : SubT (Below w5.heap.size) w5.drew => (kF5.below (hd.trans x.b)).look 0 rfl
        have z3 := fun x : SubT (Below w5.heap.size) w5.drew => (kF5.below (hd.trans x.b)).look 1 rfl
        have z4 := fun x : SubT (Below w5.heap.size) w5.drew => (kS5.below (hd.trans x.b)).look 1 rfl
        have z5 := fun x : SubT (Below w5.heap.size) w5.drew => (ru_at (hc5.out.below (hd.trans x.b)) HG.out).1
        have z6 := fun x : SubT (Below w5.heap.size) w5.drew => (ru_at (hc5.out.below (hd.trans x.b)) HG.out).2.1
        have z7 := fun x : SubT (Below w5.heap.size) w5.drew => (ru_at (hc5.out.below (hd.trans x.b)) HG.out).2.2.1
        have z8 := fun x : SubT (Below w5.heap.size) w5.drew => (ru_at (hc5.out.below (hd.trans x.b)) HG.out).2.2.2
        refine wp_walkJ (T := Below (w5.heap.size)) (belowV_pre _) (.rd 0 (.rd 1 (.rd 2 (.rd 3 (.rd 4 (.rd 5 (.rd 6 (.bt 7 (.inv []))))))))) (by kernel_rfl) rfl (by kernel_rfl) (by kernel_rfl) ?_
        iterate 7 (refine walkJ_rd rfl (fun K hK => ?_); go_simp; refine hK _ ?_; clear hK K)
        clear z0 z1 z2 z3 z4 z5 z6 z7 z8
        (refine walkJ_bt rfl (fun K hK => ?_); go_simp; refine (FOL.out _ _ ((HV5.out.mono (Nat.zero_le _)).below hd)).mono ?_; rintro e w6 ⟨rfl, hb6⟩; refine ⟨_, rfl, hK _ _ ?_⟩; clear hK K)
        refine walkJ_nil ?_
        have hb56 : Below w5.heap.size w5 w6 := Below.trans hd hb6
        have kS6 := kS5.below hb56
        have kF6 := kF5.below hb56
        have kN6 := kN.below hb56
        have HV6 := hid (HV5.out.below hb56)
        have HO6 := hid (HO5.out.below hb56)
        have HA6 := hid (((HA.out.below hb4).below hbA).below hb56)
        have hbw6 : Below S w w6 := hbw5.trans (hb56.mono (by omega))
        have hs6 := hb56.size
        clear hb6 hd hb56 hbA kS5 kF5 kN HV5 HO5 HV4 HO4 kS4 kF4 hb4 hc5
        cases f with
        | true =>
          have hh := HY.out rfl
          have HH := hid hh
          clear hh
          have c0 := kN6.look 0 rfl
          have c1 := kN6.look 1 rfl
          have q0 := kS6.look 0 rfl
          have q1 := kS6.look 1 rfl
          have rf := kS6.frozen
          have hHS : S < wr.heap.size := by omega
          have A7 := (HV6.out.setCell (q := ⟨S, 0, none⟩) hHS (.int .i64 p.n)).setCell (q := ⟨S, 1, none⟩) hHS (.slice ao5 nl cp5)
          have O7 := (SlR.setCell HO6.out (p := ⟨S, 0, none⟩) (by show S < S + 2; omega) (.int .i64 p.n)).setCell (p := ⟨S, 1, none⟩) (by show S < S + 2; omega) (.slice ao5 nl cp5)
          have kS7 : Blk ((w6.setCell ⟨S, 0, none⟩ (.int .i64 p.n)).setCell ⟨S, 1, none⟩ (.slice ao5 nl cp5)) S #[.int .i64 p.n, .slice ao5 nl cp5] 24 := (kS6.set 0 (.int .i64 p.n)).set 1 (.slice ao5 nl cp5)
          have kF7 : Blk ((w6.setCell ⟨S, 0, none⟩ (.int .i64 p.n)).setCell ⟨S, 1, none⟩ (.slice ao5 nl cp5)) (S + 1) #[.int .i64 n, .int .i64 d] 26 := (kF6.other (p := ⟨S, 0, none⟩) (by show S + 1 ≠ S; omega) _).other (p := ⟨S, 1, none⟩) (by show S + 1 ≠ S; omega) _
          have hbw7 := (hbw6.setCell (p := ⟨S, 0, none⟩) (Nat.le_refl _) (.int .i64 p.n)).setCell (p := ⟨S, 1, none⟩) (Nat.le_refl _) (.slice ao5 nl cp5)
          have A7' := hid (A7.mono (Nat.zero_le _))
          have O7' := hid O7
          clear A7 O7 HV6 HO6 HA6
          go_wp2
          refine ⟨⟨j + 1, by omega, ?_, ?_, ⟨_, kS7, ?_⟩, kF7, hbw7⟩, ?_⟩
          · rw [HKI2.out]
          · rw [HH.out.2.1]; exact O7'.out
          · rw [HH.out.1]; exact A7'.out
          · simp [intOf] <;> omega
        | false =>
          have hh := HN.out rfl
          have HH := hid hh
          clear hh
          have kB := Blk.new w6 #[.int .i64 (k : Int)] 3
          have hbB := alloc_below w6 (.cells #[.int .i64 (k : Int)] 3)
          obtain ⟨g8, c8, w8, hr8, o8, hg8, hat8, hl8⟩ := app_src (P := Try.prog) (w6.alloc (.cells #[.int .i64 (k : Int)] 3)) (S + 2) 49 49 3 (.int .i64 0) 8 Try.underlying49 infoInt rfl (owns_one kB (by omega)) (HO6.out.below hbB) (intCells_len _) (intCells_one _) (by unfold maxLen; omega) (by omega) (by have := hbB.size; omega)
          have hb68 : Below w6.heap.size w6 w8 := hbB.grown hg8 (by simp) (fun q hq => by cases hq; exact Nat.le_refl _)
          have kS8 := kS6.below hb68
          have kF8 := kF6.below hb68
          have A8 := HA6.out.below hb68
          have hbw8 : Below S w w8 := hbw6.trans (hb68.mono (by omega))
          have O8 := SlR.of_owns o8
          have H8 := hid A8
          have HO8 := hid O8
          clear A8 O8 o8 hat8 hl8 kB hbB hg8
          go_wp2_with (first | (at_builtin; refine wpList_append_run rfl (.tmp 38) (.tmp 39) 49 rfl rfl rfl rfl hr8 ?_; clear hr8))
          refine ⟨⟨j + 1, by omega, ?_, ?_, ⟨_, kS8, ?_⟩, kF8, hbw8⟩, ?_⟩
          · rw [HKI2.out]
          · rw [HH.out.2.1]
            show SlR _ _ _ (O.length + 1) (intCells ([(k : Int)] ++ O))
            rw [intCells_append, Nat.add_comm O.length 1]
            exact HO8.out
          · rw [HH.out.1]; exact H8.out
          · simp [intOf] <;> omega
      · obtain rfl : L = j := by omega
        have hneg : ¬ 0 ≤ (L : Int) - 1 - (L : Int) := by omega
        have hL : LL = (coreN n d p L).2 := by rw [← HLL.out]; unfold coreL coreP; rw [HE.out, HE2.out, HL.out]; rfl
        have HL2 := hid hL
        have hO2 := HO.out.mono (show S ≤ S + 2 by omega)
        obtain ⟨ao3, c3, rfl, -⟩ := id hO2
        have HO5 := hid hO2
        clear hL hA HO hO2
        go_wp2
        go_ret2
        refine ⟨⟨_, by rw [HE.out, HE2.out]; rfl, ?_⟩, by rw [HS.out]; exact hb⟩
        rw [HLL.out, HL2.out, HS.out]
        exact HO5.out

end Go.Proofs.Ytmknengmjepdaaa
