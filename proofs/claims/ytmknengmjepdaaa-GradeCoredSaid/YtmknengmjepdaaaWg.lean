/- Walks of grade.Core and trankref04.Core. -/
import Derived.Test.YtmknengmjepdaaaWe
import Derived.Test.YtmknengmjepdaaaWf
namespace Go.Proofs.Ytmknengmjepdaaa
open Go.RowKit
attribute [local irreducible] seqS seqST walkV walkJ

/-- What is left behind j rules, the last ones. -/
def leftL (n d : Int) (p : Pat) (j : Nat) : List Int := (List.range (p.rules.length - j)).map (fun (i : Nat) => (i : Int)) ++ (coreN n d p j).2
theorem left_zero (n d : Int) (p : Pat) : leftL n d p 0 = (List.range p.rules.length).map (fun (i : Nat) => (i : Int)) := by unfold leftL coreN; simp
theorem left_last (n d : Int) (p : Pat) : leftL n d p p.rules.length = (coreP n d p).2 := by unfold leftL coreP; simp
theorem left_len {n d : Int} {p : Pat} (hp : PValid p) (hs : FSize n d) (hb : chBad p n d = false) {j : Nat} (hj : j ≤ p.rules.length) : (leftL n d p j).length = (coreN n d p j).1.rules.length := by
  have := (core_ok hp hs hb j hj).len
  unfold leftL
  rw [List.length_append, List.length_map, List.length_range, this]
theorem core_bad {n d : Int} {p : Pat} (hp : PValid p) (hs : FSize n d) (hb : chBad p n d = false) {j : Nat} (hj : j ≤ p.rules.length) : PValid (coreN n d p j).1 ∧ chBad (coreN n d p j).1 n d = false ∧ (coreN n d p j).1.n = p.n ∧ p.rules.length - j ≤ (coreN n d p j).1.rules.length := by
  have h := core_ok hp hs hb j hj
  exact ⟨h.val, (chBad_iff h.val hs).2 (sub_nopos (ext_sub h.nn h.sub) ((chBad_iff hp hs).1 hb)), h.nn, by rw [h.len]; omega⟩
theorem left_yes {n d : Int} {p : Pat} {j : Nat} (hj : j < p.rules.length) (hf : folB (lessP (coreN n d p j).1 (p.rules.length - (j + 1))) n d ((coreN n d p j).1.rules.getD (p.rules.length - (j + 1)) ⟨0, 0, 0, 0⟩) = true) :
    (coreN n d p (j + 1)).1 = lessP (coreN n d p j).1 (p.rules.length - (j + 1)) ∧ (coreN n d p (j + 1)).2 = (coreN n d p j).2 ∧ leftL n d p (j + 1) = (leftL n d p j).eraseIdx (p.rules.length - (j + 1)) := by
  have e : coreN n d p (j + 1) = (lessP (coreN n d p j).1 (p.rules.length - (j + 1)), (coreN n d p j).2) := by
    show coreS n d _ _ = _
    unfold coreS
    rw [if_pos hf]
  refine ⟨by rw [e], by rw [e], ?_⟩
  unfold leftL
  rw [e]
  dsimp only
  obtain ⟨k, hk⟩ : ∃ k, p.rules.length - (j + 1) = k := ⟨_, rfl⟩
  rw [show p.rules.length - j = k + 1 by omega, hk, range_snoc, List.append_assoc, List.eraseIdx_append_of_length_le (by simp), List.length_map, List.length_range, Nat.sub_self]
  rfl
theorem left_no {n d : Int} {p : Pat} {j : Nat} (hj : j < p.rules.length) (hf : folB (lessP (coreN n d p j).1 (p.rules.length - (j + 1))) n d ((coreN n d p j).1.rules.getD (p.rules.length - (j + 1)) ⟨0, 0, 0, 0⟩) = false) :
    (coreN n d p (j + 1)).1 = (coreN n d p j).1 ∧ (coreN n d p (j + 1)).2 = ((p.rules.length - (j + 1) : Nat) : Int) :: (coreN n d p j).2 ∧ leftL n d p (j + 1) = leftL n d p j := by
  have e : coreN n d p (j + 1) = ((coreN n d p j).1, ((p.rules.length - (j + 1) : Nat) : Int) :: (coreN n d p j).2) := by
    show coreS n d _ _ = _
    unfold coreS
    rw [if_neg (by rw [hf]; decide)]
  refine ⟨by rw [e], by rw [e], ?_⟩
  unfold leftL
  rw [e]
  dsimp only
  obtain ⟨k, hk⟩ : ∃ k, p.rules.length - (j + 1) = k := ⟨_, rfl⟩
  rw [show p.rules.length - j = k + 1 by omega, hk, range_snoc, List.append_assoc]
  rfl
theorem left_get {n d : Int} {p : Pat} {j : Nat} (hj : j < p.rules.length) : p.rules.length - (j + 1) < (leftL n d p j).length := by
  unfold leftL
  rw [List.length_append, List.length_map, List.length_range]
  omega

/-- A pattern whose rules do not lie in the row y. -/
def PatA (w : World) (y v : Value) (p : Pat) : Prop :=
  ∃ ao c, v = .agg #[.int .i64 p.n, .slice ao p.rules.length c] ∧ p.rules.length ≤ c ∧ c ≤ maxLen ∧ CellsOf 0 w ao (ruCells p.rules) ∧ (ruCells p.rules ≠ [] → ∀ b o s, ao = some ⟨b, o, s⟩ → y.ownBlock ≠ some b)
theorem PatA.pat {w : World} {y v : Value} {p : Pat} (h : PatA w y v p) : PatF 0 w v p := by
  obtain ⟨ao, c, rfl, h1, h2, h3, -⟩ := h
  exact ⟨_, rfl, ao, c, rfl, h1, h2, h3⟩
theorem PatA.grown {w w' : World} {y v : Value} {p : Pat} (h : PatA w y v p) (hg : w.grownBy w' y.ownBlock) : PatA w' y v p := by
  obtain ⟨ao, c, rfl, h1, h2, h3, h4⟩ := h
  refine ⟨ao, c, rfl, h1, h2, fun hx => ?_, h4⟩
  obtain ⟨b, off, rfl, hlo, hlt, hc⟩ := h3 hx
  refine ⟨b, off, rfl, hlo, Nat.lt_of_lt_of_le hlt hg.size, fun j hj => ?_⟩
  rw [World.cell?_of_block (hg.block b hlt (fun e => h4 hx b off none rfl e.symm))]
  exact hc j hj
theorem PatA.below {w w' : World} {y v : Value} {p : Pat} (h : PatA w y v p) (hb : Below w.heap.size w w') : PatA w' y v p := by
  obtain ⟨ao, c, rfl, h1, h2, h3, h4⟩ := h
  exact ⟨ao, c, rfl, h1, h2, h3.below hb, h4⟩
theorem PatA.of {lo : Nat} {w : World} {y v : Value} {p : Pat} (h : PatF lo w v p) (hy : ∀ g, y.ownBlock = some g → g < lo) : PatA w y v p := by
  obtain ⟨ao, c, rfl, h1, h2, h3⟩ := h.shape
  refine ⟨ao, c, rfl, h1, h2, h3.mono (Nat.zero_le _), fun hx b o s he hyb => ?_⟩
  obtain ⟨b', off, he', hlo, -⟩ := h3 hx
  rw [he'] at he
  cases he
  have := hy _ hyb
  omega
theorem PatA.old {w : World} {y v : Value} {p : Pat} (h : PatF 0 w v p) (hy : ∀ g, y.ownBlock = some g → w.heap.size ≤ g) : PatA w y v p := by
  obtain ⟨ao, c, rfl, h1, h2, h3⟩ := h.shape
  refine ⟨ao, c, rfl, h1, h2, h3, fun hx b o s he hyb => ?_⟩
  obtain ⟨b', off, he', -, hlt, -⟩ := h3 hx
  rw [he'] at he
  cases he
  have := hy _ hyb
  omega
theorem PatA.setCell {w : World} {y v : Value} {p : Pat} {lo : Nat} (h : PatF lo w v p) (hy : ∀ g, y.ownBlock = some g → g < lo) {q : Addr} (hq : q.block < lo) (u : Value) {q' : Addr} (hq' : q'.block < lo) (u' : Value) : PatA ((w.setCell q u).setCell q' u') y v p := PatA.of ((h.setCell hq u).setCell hq' u') hy

set_option maxHeartbeats 8000000 in
set_option maxRecDepth 100000 in
theorem gCore_any (p : Pat) (n d : Int) (v : Value) (w : World) (h : PatF 0 w v p) :
    Calls Try.prog 62 #[v, .agg #[.int .i64 n, .int .i64 d]] w fun e w' => (∃ vl, e = .returned (.tuple #[vl, .int .i64 (rLeastE p n d)]) ∧ IntsR w.heap.size w' vl (coreL p n d)) ∧ Below w.heap.size w w' := by
  obtain ⟨ao, cap, rfl, hcap, hmax, hc⟩ := h.shape
  unfold maxLen at hmax
  go_enter Try.func62, Try.ntmps62
  go_wp2_with fail
  obtain ⟨w0, hw0, k0, k1, hB, hsz⟩ := one_new w #[.int .i64 p.n, .slice ao p.rules.length cap] #[.int .i64 n, .int .i64 d] 33 26
  rw [hw0]
  clear hw0
  have c0 := k0.look 0 rfl
  have c1 := k0.look 1 rfl
  have c2 := k1.look 0 rfl
  have c3 := k1.look 1 rfl
  go_wp2_with fail
  refine (checked_any p n d _ _ (h.below hB)).mono ?_
  rintro e w1 ⟨⟨vx, rfl, hE1, hE2⟩, hb1⟩
  clear c0 c1 c2 c3 hE1 hE2
  have hB1 := hB.trans (hb1.mono hB.size)
  have h1 := (h.below hB).below hb1
  have k01 := k0.below hb1
  have k11 := k1.below hb1
  have hsz1 := hb1.size
  obtain ⟨S, hS⟩ : ∃ S, w.heap.size = S := ⟨_, rfl⟩
  have HS := hid hS
  rw [hS] at k01 k11 hsz ⊢
  clear hS k0 k1 h hc
  by_cases hE : rLeastE p n d = 0
  case neg =>
    obtain ⟨E, hEE⟩ : ∃ E, rLeastE p n d = E := ⟨_, rfl⟩
    have HE := hid hEE
    rw [hEE] at hE ⊢
    have hL : coreL p n d = [] := by unfold coreL; rw [hEE]; exact if_neg hE
    have HLL := hid hL
    clear hEE hL
    go_wp2
    go_ret2
    refine ⟨⟨_, by rw [HE.out]; rfl, ?_⟩, by have := hB1; rwa [HS.out] at this⟩
    rw [HLL.out]
    exact SlR.nil _ _
  obtain ⟨hpv, hfs, hbad⟩ := leastE_zero hE
  have HP := hid hpv
  have HF := hid hfs
  have HD := hid hbad
  have HE := hid hE
  rw [hE]
  obtain ⟨L, hL⟩ : ∃ L, p.rules.length = L := ⟨_, rfl⟩
  have hL64 : L ≤ 64 := by rw [← hL]; exact hpv.2.2.1
  have HL := hid hL
  rw [hL] at k01 hcap h1
  have h1 : PatF 0 w1 (.agg #[.int .i64 p.n, .slice ao p.rules.length cap]) p := by rw [hL]; exact h1
  have H1 := hid h1
  clear hpv hfs hbad hE hL h1
  have o2 : (w1.alloc (.cells #[] 3)).ownsRow w1.heap.size 3 1 (.slice (some ⟨w1.heap.size, 0, none⟩) 0 0) 0 [] := owns_empty 1 (Blk.new w1 #[] 3) (Nat.le_refl _)
  have b2 := alloc_below w1 (.cells #[] 3)
  obtain ⟨w2, hw2⟩ : ∃ w2, w1.alloc (.cells #[] 3) = w2 := ⟨_, rfl⟩
  rw [hw2] at o2 b2
  have k02 := k01.below b2
  have c1 := k02.look 1 rfl
  go_wp2_with fail
  clear c1
  have hgS : S + 2 ≤ w1.heap.size := by omega
  obtain ⟨g0, hg0⟩ : ∃ g0, w1.heap.size = g0 := ⟨_, rfl⟩
  have HG0 := hid hg0
  rw [hg0] at o2 hgS b2 ⊢
  have hg2 := b2.size
  rw [hg0] at hg2
  clear hg0 hw2
  go_loopw [8, 9, 24] (fun y z x wr => ∃ i : Nat, x = .int .i64 i ∧ i ≤ L ∧ wr.ownsRow g0 3 1 y i (intCells ((List.range i).map fun (i : Nat) => (i : Int))) ∧ Below g0 w1 wr) (fun _ _ x _ => L - (intOf x).toNat)
  case atStart => exact ⟨0, rfl, Nat.zero_le _, o2, b2⟩
  case round =>
    obtain ⟨i, rfl, hi, ho, hbel⟩ := hrel
    by_cases hiL : i < L
    · have hiL2 : (i : Int) < (L : Int) := by omega
      have hs4 : g0 ≤ _ := HG0.out ▸ hbel.size
      go_wp2_with (first
        | (at_builtin; refine wpList_app rfl (.tmp 27) (.tmp 29) _ rfl g0 3 (.int .i64 0) 1 8 Try.underlying49 infoInt rfl (by decide) 3 _ _ _ rfl ho [.int .i64 (i : Int)] rfl rfl (by simp [Value.oneCell']) (by unfold maxLen; omega) (by omega) (by omega) ?_; intro g5 gcap w5 ho5 hb5 _ _ _))
      refine ⟨⟨i + 1, by go_num, by omega, ?_, hbel.trans hb5⟩, by simp [intOf]; omega⟩
      rw [range_snoc, intCells_append]
      exact ho5
    · obtain rfl : L = i := by omega
      have hiL2 : ¬ (L : Int) < (L : Int) := by omega
      have k0r := k01.below' hbel (by omega)
      have k1r := k11.below' hbel (by omega)
      have c1 := k0r.look 1 rfl
      have wK : IntKind.i64.wrap ((L : Int) - 1) = (L : Int) - 1 := by rw [IntWalk.i64_left]; unfold wrap64; omega
      have hBr : Below S w _ := (show Below S w w1 by have := hB1; rwa [HS.out] at this).trans (hbel.mono (by omega))
      go_wp2_with fail
      clear c1
      go_loopw [8, 10] (fun y x wr' => ∃ j : Nat, j ≤ L ∧ x = .int .i64 ((L : Int) - 1 - j) ∧ wr'.ownsRow g0 3 1 y (leftL n d p j).length (intCells (leftL n d p j)) ∧ (∃ sv, Blk wr' S #[.int .i64 p.n, sv] 33 ∧ PatA wr' y (.agg #[.int .i64 p.n, sv]) (coreN n d p j).1) ∧ Blk wr' (S + 1) #[.int .i64 n, .int .i64 d] 26 ∧ Below S w wr') (fun _ x _ => (intOf x + 1).toNat)
      case atStart =>
        refine ⟨0, Nat.zero_le _, by simp, ?_, ⟨_, k0r, ?_⟩, k1r, hBr⟩
        · rw [left_zero, HL.out, List.length_map, List.length_range]
          exact ho
        · have hp0 : PatA w1 u8 (.agg #[.int .i64 p.n, .slice ao p.rules.length cap]) p := PatA.old H1.out (fun g hg => by rw [HG0.out]; exact (ho.lt g hg).1)
          rw [HL.out] at hp0
          have : (coreN n d p 0).1 = p := rfl
          rw [this]
          exact hp0.below (by rw [HG0.out]; exact hbel)
      case round =>
        obtain ⟨j, hj, rfl, ho2, ⟨sv, kS, hA⟩, kF, hb⟩ := hrel
        have HO2 := hid ho2
        have HA := hid hA
        clear ho k0r k1r wK hBr hbel hiL2 hiL hi k01 k02 h1 hcap b2 o2 hg2 hB hb1 hB1 hsz1 k11 ho2 hsz
        by_cases hjL : j < L
        · obtain ⟨k, hk⟩ : ∃ k : Nat, L - (j + 1) = k := ⟨_, rfl⟩
          have hkI : (L : Int) - 1 - (j : Int) = (k : Int) := by omega
          have hkI2 : (L : Int) - 1 - ((j + 1 : Nat) : Int) = (k : Int) - 1 := by omega
          have hkI3 : 0 ≤ (k : Int) := by omega
          have wK1 : IntKind.i64.wrap ((k : Int) - 1) = (k : Int) - 1 := by rw [IntWalk.i64_left]; unfold wrap64; omega
          have wK2 : IntKind.i64.wrap ((k : Int) + 1) = (k : Int) + 1 := by rw [IntWalk.i64_left]; unfold wrap64; omega
          rw [hkI]
          have HK := hid hk
          have HKI2 := hid hkI2
          obtain ⟨hval, hbad, hnn, hlen⟩ := core_bad HP.out HF.out HD.out (j := j) (by rw [HL.out]; exact hj)
          have hll := left_len HP.out HF.out HD.out (j := j) (by rw [HL.out]; exact hj)
          have hlg := left_get (n := n) (d := d) (p := p) (j := j) (by rw [HL.out]; exact hjL)
          have hyes := left_yes (n := n) (d := d) (p := p) (j := j) (by rw [HL.out]; exact hjL)
          have hno := left_no (n := n) (d := d) (p := p) (j := j) (by rw [HL.out]; exact hjL)
          rw [HL.out, hk] at hlg hyes hno
          obtain ⟨P, hP⟩ : ∃ P, (coreN n d p j).1 = P := ⟨_, rfl⟩
          obtain ⟨M, hM⟩ : ∃ M, leftL n d p j = M := ⟨_, rfl⟩
          rw [hP] at hA hval hbad hnn hlen hll hyes hno
          rw [hM] at hll hlg hyes hno
          rw [hP] at HA
          rw [hM] at HO2
          have hkP : k < P.rules.length := by rw [← hll]; exact hlg
          have hP64 := hval.2.2.1
          obtain ⟨ao2, cp2, he2, -⟩ := id hA
          obtain rfl : sv = .slice ao2 P.rules.length cp2 := by
            simp only [Value.agg.injEq] at he2
            have := congrArg (fun a : Array Value => a[1]?) he2
            simpa using this
          have IMP := hid (fun v w h => implied_any P n d k v w h hval HF.out hbad hkP)
          have WIT := hid (fun v w h => without_any P k v w h hkP hP64)
          have HY := hid hyes
          have HN := hid hno
          have HNN := hid hnn
          obtain ⟨f, hf⟩ : ∃ f, folB (lessP P k) n d (P.rules.getD k ⟨0, 0, 0, 0⟩) = f := ⟨_, rfl⟩
          rw [hf] at IMP
          have HFF := hid hf
          obtain ⟨PL, hPL⟩ : ∃ q, P.rules.length = q := ⟨_, rfl⟩
          have HPL := hid hPL
          have HLL := hid hll
          rw [hPL] at kS hkP hP64 hA
          obtain ⟨ml, hml⟩ : ∃ m, M.length = m + 1 := ⟨M.length - 1, by omega⟩
          have hkM : k < M.length := hlg
          have hM64 : M.length ≤ 64 := by omega
          have ho2 := HO2.out
          rw [hml] at ho2
          obtain ⟨g, cy, rfl, hgg, hgl⟩ := owns_head ho2
          rw [← hml] at ho2 hA ⊢
          have c0 := kS.look 0 rfl
          have c1 := kS.look 1 rfl
          have c2 := kF.look 0 rfl
          have c3 := kF.look 1 rfl
          have HA2 := hid hA.pat
          have HA3 := hid hA
          have HO3 := hid ho2
          clear hP hM hA hyes hno hnn hf hPL hll hlg hlen hval hbad he2 hkI hk hkI2 HA ho2 HO2 hml
          have hS1 := kF.lt
          go_wp2_with fail
          refine (IMP.out _ _ HA2.out).mono ?_
          rintro e w4 ⟨rfl, hb4⟩
          clear c0 c1 c2 c3
          have kS4 := kS.below hb4
          have kF4 := kF.below hb4
          have HA4 := hid (HA3.out.below hb4)
          have HO4 := hid (owns_below HO3.out hb4)
          have hbw4 : Below S w w4 := hb.trans (hb4.mono (by omega))
          have hs4 := hb4.size
          cases f with
          | false =>
            have hh := HN.out HFF.out
            go_wp2
            refine ⟨⟨j + 1, by omega, ?_, ?_, ⟨_, kS4, ?_⟩, kF4, hbw4⟩, ?_⟩
            · rw [HKI2.out]
            · rw [hh.2.2]; exact HO4.out
            · rw [hh.1]; exact HA4.out
            · simp [intOf] <;> omega
          | true =>
            have hh := HY.out HFF.out
            have HH := hid hh
            clear hh
            have c0 := kS4.look 0 rfl
            have c1 := kS4.look 1 rfl
            go_wp2_with fail
            refine (WIT.out _ _ HA4.out.pat).mono ?_
            rintro e w5 ⟨v5, rfl, hv5, hb5⟩
            clear c0 c1
            obtain ⟨ao5, cp5, rfl, h51, h52, h53⟩ := hv5.shape
            have hn5 : (lessP P k).n = p.n := HNN.out
            rw [hn5] at hv5 ⊢
            have kS5 := kS4.below hb5
            have kF5 := kF4.below hb5
            have hs5 := hb5.size
            have q0 := kS5.look 0 rfl
            have q1 := kS5.look 1 rfl
            have rf := kS5.frozen
            have hgl4 : g < w4.heap.size := by omega
            have ho5 := owns_below HO4.out hb5
            have hbw5 : Below S w w5 := hbw4.trans (hb5.mono (by omega))
            obtain ⟨nl, hnl⟩ : ∃ q, (lessP P k).rules.length = q := ⟨_, rfl⟩
            have HNL := hid hnl
            rw [hnl] at hv5 ⊢
            have A6 : PatA ((w5.setCell ⟨S, 0, none⟩ (.int .i64 p.n)).setCell ⟨S, 1, none⟩ (.slice ao5 nl cp5)) (.slice (some ⟨g, 0, none⟩) M.length cy) (.agg #[.int .i64 p.n, .slice ao5 nl cp5]) (lessP P k) :=
              PatA.setCell hv5 (fun g' hg' => by cases hg'; exact hgl4) (q := ⟨S, 0, none⟩) (by show S < w4.heap.size; omega) _ (q' := ⟨S, 1, none⟩) (by show S < w4.heap.size; omega) _
            have hgS' : g ∉ [S] := by simp; omega
            have ho6 := (CellsKept.set (w5.setCell ⟨S, 0, none⟩ (.int .i64 p.n)) ⟨S, 1, none⟩ (.slice ao5 nl cp5)).owns hgS' ((CellsKept.set w5 ⟨S, 0, none⟩ (.int .i64 p.n)).owns hgS' ho5)
            have kS6 : Blk ((w5.setCell ⟨S, 0, none⟩ (.int .i64 p.n)).setCell ⟨S, 1, none⟩ (.slice ao5 nl cp5)) S #[.int .i64 p.n, .slice ao5 nl cp5] 33 := (kS5.set 0 (.int .i64 p.n)).set 1 (.slice ao5 nl cp5)
            have kF6 : Blk ((w5.setCell ⟨S, 0, none⟩ (.int .i64 p.n)).setCell ⟨S, 1, none⟩ (.slice ao5 nl cp5)) (S + 1) #[.int .i64 n, .int .i64 d] 26 := (kF5.other (p := ⟨S, 0, none⟩) (by show S + 1 ≠ S; omega) _).other (p := ⟨S, 1, none⟩) (by show S + 1 ≠ S; omega) _
            have hbw6 := (hbw5.setCell (p := ⟨S, 0, none⟩) (Nat.le_refl _) (.int .i64 p.n)).setCell (p := ⟨S, 1, none⟩) (Nat.le_refl _) (.slice ao5 nl cp5)
            clear h51 h52 h53 hb5 hv5
            go_wp2_with fail
            obtain ⟨w6, hw6⟩ : ∃ w6, (w5.setCell ⟨S, 0, none⟩ (.int .i64 p.n)).setCell ⟨S, 1, none⟩ (.slice ao5 nl cp5) = w6 := ⟨_, rfl⟩
            rw [hw6] at A6 ho6 kS6 kF6 hbw6 ⊢
            clear hw6 q0 q1 rf
            refine (deleteInt_any M k M.length g cy g0 w6 rfl hkM hM64 ho6).mono ?_
            rintro e w7 ⟨rfl, ho7, hg7⟩
            have kS7 : Blk w7 S #[.int .i64 p.n, .slice ao5 nl cp5] 33 := (hg7.block S kS6.lt (fun e => by have := Option.some.inj e; omega)).trans kS6
            have kF7 : Blk w7 (S + 1) #[.int .i64 n, .int .i64 d] 26 := (hg7.block (S + 1) kF6.lt (fun e => by have := Option.some.inj e; omega)).trans kF6
            have hbw7 : Below S w w7 := hbw6.grown hg7 (by have := kS6.lt; omega) (fun q hq => by cases hq; omega)
            have A7 := A6.grown hg7
            clear A6 ho6 kS6 kF6 hbw6 hg7
            go_wp2
            refine ⟨⟨j + 1, by omega, ?_, ?_, ⟨_, kS7, ?_⟩, kF7, hbw7⟩, ?_⟩
            · rw [HKI2.out]
            · rw [HH.out.2.2, List.length_eraseIdx_of_lt hkM]; exact ho7
            · rw [HH.out.1]; exact A7
            · simp [intOf] <;> omega
        · obtain rfl : L = j := by omega
          have hneg : ¬ 0 ≤ (L : Int) - 1 - (L : Int) := by omega
          have hL : coreL p n d = leftL n d p L := by rw [← HL.out, left_last]; unfold coreL; exact if_pos HE.out
          have HLL := hid hL
          have hO := SlR.of_owns HO2.out
          have hO2 := hO.mono (show S ≤ g0 by omega)
          obtain ⟨ao3, c3, rfl, -⟩ := id hO
          have HO5 := hid hO2
          clear hL hA HA HO2 hO hO2
          go_wp2
          go_ret2
          refine ⟨⟨_, by rw [HE.out]; rfl, ?_⟩, by rw [HS.out]; exact hb⟩
          rw [HLL.out, HS.out]
          exact HO5.out

end Go.Proofs.Ytmknengmjepdaaa
