/- Walks of trankref02.lesser, put. -/
import Derived.Test.YtfkclcoipadhmaaGreatDoorEq
import Derived.Test.YtfkclcoipadhmaaGreatDoorCz
namespace Go.Proofs.YtfkclcoipadhmaaGreatDoor
open Go.RowKit
attribute [local irreducible] seqS seqST walkV walkJ

/-- Where the source of an append lies. -/
def SrcQ (w : World) (src : Value) (m : Nat) (news : List Value) : Prop := (src = .slice none 0 0 ∧ m = 0 ∧ news = []) ∨ (∃ a c, src = .slice (some a) m c ∧ news.length = m * 2 ∧ ∀ j u, news[j]? = some u → w.cell? (a.add j) = some u)
/-- append of fractions to a row of one's own. -/
theorem appQ (w : World) (B : Nat) {g n cap : Nat} {xs : List Value} (hown : w.ownsRow B 31 2 (.slice (some ⟨g, 0, none⟩) n cap) n xs) (src : Value) (m : Nat) (news : List Value)
    (hsrc : SrcQ w src m news) (h1 : ∀ u ∈ news, u.oneCell' = true) (hsmall : n + m ≤ 1000) (hB : B ≤ w.heap.size) :
    ∃ g' cap' w', (Builtin.append_ #[37, 37] 37 #[.slice (some ⟨g, 0, none⟩) n cap, src]).run Tryz.prog w = .ok (.slice (some ⟨g', 0, none⟩) (n + m) cap') w' ∧
      w'.ownsRow B 31 2 (.slice (some ⟨g', 0, none⟩) (n + m) cap') (n + m) (xs ++ news) ∧ Below B w w' ∧ ∀ b cs t, Blk w b cs t → b ≠ g → Blk w' b cs t := by
  rcases hsrc with ⟨rfl, rfl, rfl⟩ | ⟨a, c, rfl, hl, hc⟩
  · obtain ⟨i, hi0, -, -, -⟩ := info_parts infoFrac
    exact ⟨g, cap, w, run_append_owned_none w B 37 37 31 i 2 Tryz.underlying37 hi0 _ n xs hown, by rw [List.append_nil]; exact hown, Below.refl _ _, fun _ _ _ h _ => h⟩
  · obtain ⟨-, -, hgB, -⟩ := owns_block hown
    obtain ⟨g', cap', w', hr, ho, hg, -, -⟩ := app_at (P := Tryz.prog) w B 37 37 31 (frV 0 0) 2 16 Tryz.underlying37 infoFrac rfl (by decide) hown a m c news hl hc h1 (by unfold maxLen; omega) (by omega) hB
    exact ⟨g', cap', w', hr, ho, (Below.refl B w).grown hg hB (fun j hj => by cases hj; exact hgB), fun b cs t h hne => (World.grownBy.block hg b h.lt (fun e => hne (Option.some.inj e))).trans h⟩

theorem frsC_one (l : List Rat) : ∀ u ∈ frsC l, u.oneCell' = true := by
  intro u hu
  obtain ⟨z, rfl⟩ := frsC_ints l u hu
  rfl
/-- A number put among rising ones, once. -/
def putK (l : List Rat) (x : Rat) : Nat := (l.takeWhile fun q => decide (q < x)).length
def putL (l : List Rat) (x : Rat) : List Rat := if putK l x < l.length ∧ l.getD (putK l x) 0 = x then l else l.take (putK l x) ++ ([x] ++ l.drop (putK l x))
theorem put_at {l : List Rat} {x : Rat} {i : Nat} (hi : i ≤ l.length) (h1 : ∀ j, j < i → l.getD j 0 < x) (h2 : i < l.length → ¬ l.getD i 0 < x) : putK l x = i :=
  takeWhile_len hi (fun j hj => decide_eq_true (h1 j hj)) (fun h => decide_eq_false (h2 h))
theorem q_src {lo : Nat} {w : World} {b off : Nat} {l : List Rat} (h : CellsOf lo w (some ⟨b, off, none⟩) (frsC l)) {i : Nat} (hi : i ≤ l.length) :
    (∀ (j : Nat) (u : Value), (frsC (l.take i))[j]? = some u → w.cell? ((⟨b, off, none⟩ : Addr).add j) = some u) ∧ (∀ (j : Nat) (u : Value), (frsC (l.drop i))[j]? = some u → w.cell? ((⟨b, off + i * 2, none⟩ : Addr).add j) = some u) := by
  have hsp : frsC l = frsC (l.take i) ++ frsC (l.drop i) := by rw [← frsC_append, List.take_append_drop]
  have hlen : (frsC (l.take i)).length = i * 2 := by rw [frsC_len, List.length_take, Nat.min_eq_left hi]
  have main : ∀ (j : Nat) (u : Value), (frsC l)[j]? = some u → w.cell? ⟨b, off + j, none⟩ = some u := by
    intro j u hu
    have hlt := (List.getElem?_eq_some_iff.1 hu).1
    obtain ⟨b', off', he, _, _, hc⟩ := h (by intro h0; rw [h0] at hlt; cases hlt)
    cases he
    rw [hc _ hlt, List.getD_eq_getElem?_getD, hu]
    rfl
  constructor
  · intro j u hu
    rw [Addr.add_lit]
    refine main j u ?_
    rw [hsp, List.getElem?_append_left (List.getElem?_eq_some_iff.1 hu).1]
    exact hu
  · intro j u hu
    rw [Addr.add_lit, Nat.add_assoc]
    refine main (i * 2 + j) u ?_
    rw [hsp, List.getElem?_append_right (by omega), hlen, show i * 2 + j - i * 2 = j by omega]
    exact hu

set_option maxHeartbeats 2000000 in
theorem rlesser_any (p q : Rat) (hp : fits p) (hq : fits q) (w : World) : Calls Tryz.prog 83 #[frQ p, frQ q] w fun r w' => r = .returned (frQ (lesQ p q)) ∧ Below w.heap.size w w' := by
  have OR := hid (fun w => rorder_any p q hp hq w)
  have hcl := cmp_cases p q
  obtain ⟨cz, hcz⟩ : ∃ z, cmpQ p q = z := ⟨_, rfl⟩
  rw [hcz] at OR hcl
  obtain ⟨V, hV⟩ : ∃ V, lesQ p q = V := ⟨_, rfl⟩
  rw [hV]
  have HV := hid hV
  have HCL := hid hcl
  unfold frQ at OR ⊢
  clear hV hcl hcz
  obtain ⟨w0, hw0, k0, k1, k2, hB, hsz⟩ := three_new w #[.int .i64 p.num, .int .i64 (p.den : Int)] #[.int .i64 q.num, .int .i64 (q.den : Int)] #[.int .i64 0, .int .i64 0] 31 31 31
  have d0 := k0.look 0 rfl
  have d1 := k0.look 1 rfl
  have d2 := k1.look 0 rfl
  have d3 := k1.look 1 rfl
  have HW := hid hw0
  rw [← hw0] at d0 d1 d2 d3
  have HB := hid hB
  have K0 := hid k0
  have K1 := hid k1
  have K2 := hid k2
  clear hB k0 k1 k2 hsz hw0
  go_enter Tryz.func83, Tryz.ntmps83
  go_wp2_with fail
  rw [HW.out]
  clear HW d0 d1 d2 d3
  refine (OR.out _).mono ?_
  rintro r w1 ⟨rfl, hb1⟩
  have hB1 := HB.out.trans (hb1.mono HB.out.size)
  have k01 := K0.out.below hb1
  have k11 := K1.out.below hb1
  have k21 := K2.out.below hb1
  have d0 := k01.look 0 rfl
  have d1 := k01.look 1 rfl
  have d2 := k11.look 0 rfl
  have d3 := k11.look 1 rfl
  have q0 := k21.look 0 rfl
  have q1 := k21.look 1 rfl
  have f2 := k21.frozen
  clear hb1 HB K0 K1 K2
  have hcase : (V = p ∧ cz ≤ 0) ∨ (V = q ∧ 0 < cz) := by
    rw [← HV.out]
    unfold lesQ
    rcases HCL.out with ⟨hl, rfl, -⟩ | ⟨hl, rfl, -⟩ | ⟨hl, rfl, -⟩
    · left; rw [if_neg (by grind)]; exact ⟨rfl, by omega⟩
    · right; rw [if_pos hl]; exact ⟨rfl, by omega⟩
    · left; rw [if_neg (by grind)]; exact ⟨rfl, by omega⟩
  have HCA := hid hcase
  clear hcase HV HCL
  rcases HCA.out with ⟨rfl, hz⟩ | ⟨rfl, hz⟩
  all_goals
    have hz2 := hz
    have k24 := (k21.set 0 (.int .i64 V.num)).set 1 (.int .i64 (V.den : Int))
    have r0 : _ = some (Value.int .i64 V.num) := k24.look 0 rfl
    have r1 : _ = some (Value.int .i64 (V.den : Int)) := k24.look 1 rfl
    have R0 := hid r0
    have R1 := hid r1
    have F := hid ((hB1.setCell (p := ⟨w.heap.size + 1 + 1, 0, none⟩) (by show w.heap.size ≤ w.heap.size + 1 + 1; omega) (.int .i64 V.num)).setCell (p := ⟨w.heap.size + 1 + 1, 1, none⟩) (by show w.heap.size ≤ w.heap.size + 1 + 1; omega) (.int .i64 (V.den : Int)))
    clear k24 r0 r1 hB1 k01 k11 k21 HCA
    go_wp2
    refine bodyPost_ret (v := .agg #[.int .i64 V.num, .int .i64 (V.den : Int)]) ?_ rfl ⟨rfl, F.out⟩
    have r0 := R0.out
    have r1 := R1.out
    simp [results, Tryz.results83, go_sem, r0, r1]

set_option maxHeartbeats 8000000 in
set_option maxRecDepth 100000 in
theorem put_any (l : List Rat) (x : Rat) (lo : Nat) (v : Value) (w : World) (hlo : lo ≤ w.heap.size) (h : QsR lo w v l) (hnil : l = [] → v = .slice none 0 0) (hf : ∀ i, i < l.length → fits (l.getD i 0)) (hx : fits x) (hl : l.length ≤ 200) :
    Calls Tryz.prog 84 #[v, frQ x] w fun r w' => (∃ v', r = .returned v' ∧ QsR lo w' v' (putL l x)) ∧ Below w.heap.size w w' := by
  have OR := hid (fun i hi w => rorder_any (l.getD i 0) x (hf i hi) hx w)
  have hcm := hid (fun i => cmp_cases (l.getD i 0) x)
  have HPA := hid (fun i hi h1 h2 => put_at (l := l) (x := x) (i := i) hi h1 h2)
  obtain ⟨ao, cap, rfl, hcap, hmax, hcc⟩ := id h
  unfold maxLen at hmax
  have HV := hid h
  have HCC := hid hcc
  obtain ⟨n, hn⟩ : ∃ n, l.length = n := ⟨_, rfl⟩
  have HN := hid hn
  rw [hn] at hcap hl ⊢
  obtain ⟨n1, hn1⟩ : ∃ z, x.num = z := ⟨_, rfl⟩
  obtain ⟨d1, hd1⟩ : ∃ z, (x.den : Int) = z := ⟨_, rfl⟩
  have HFX : Hid (frsC [x] = [.int .i64 n1, .int .i64 d1]) := hid (by rw [← hn1, ← hd1]; rfl)
  have HXE : Hid (∀ q : Rat, q = x ↔ q.num = n1 ∧ (q.den : Int) = d1) := hid (fun q => by rw [← hn1, ← hd1]; exact rat_eq_iff q x)
  have hnil2 : n = 0 → ao = none ∧ cap = 0 := fun h0 => by
    have := hnil (by rw [← List.length_eq_zero_iff, hn, h0])
    rw [hn] at this
    injection this with g1 g2 g3
    exact ⟨g1, g3⟩
  have HNIL := hid hnil2
  unfold frQ at OR ⊢
  rw [hn1, hd1] at OR ⊢
  have k0 := Blk.new w #[.int .i64 n1, .int .i64 d1] 31
  have b0 := alloc_below w (.cells #[.int .i64 n1, .int .i64 d1] 31)
  obtain ⟨w0, hw0⟩ : ∃ w0, w.alloc (.cells #[.int .i64 n1, .int .i64 d1] 31) = w0 := ⟨_, rfl⟩
  rw [hw0] at k0 b0
  have HW := hid hw0
  have K0 := hid k0
  clear hcc hf hx h hn hnil hnil2 hn1 hd1 k0 hw0
  go_enter Tryz.func84, Tryz.ntmps84
  go_wp2_with fail
  rw [HW.out]
  go_loopw [5] (fun z wr => ∃ i : Nat, z = .int .i64 i ∧ i ≤ n ∧ Hid (∀ j, j < i → l.getD j 0 < x) ∧ Below w.heap.size w wr ∧ Hid (Blk wr w.heap.size #[.int .i64 n1, .int .i64 d1] 31)) (fun z _ => n - (intOf z).toNat)
  case atStart => exact ⟨0, rfl, Nat.zero_le _, hid (fun j hj => by omega), b0, K0⟩
  case round =>
    clear b0
    obtain ⟨i, rfl, hi, HLO, hbel, HKX⟩ := hrel
    have hd0 := (Below.refl wr.heap.size wr).drew
    have hbd := hbel.trans (hd0.mono hbel.size)
    have z0 := fun y : SubT (Below wr.heap.size) wr.drew => (HKX.out.below (hd0.trans y.b)).look 0 rfl
    have z1 := fun y : SubT (Below wr.heap.size) wr.drew => (HKX.out.below (hd0.trans y.b)).look 1 rfl
    by_cases hin : i < n
    case neg =>
      have hni : n = i := by omega
      have hin2 : ¬ (i : Int) < (n : Int) := by omega
      go_wp2_with fail
      refine wp_walkJ (T := Below (wr.heap.size)) (belowV_pre _) (.rd 0 (.rd 1 (.rd 2 (.rd 3 (.rd 4 (.rd 5 (.rd 6 (.rd 7 (.rd 8 (.rd 9 (.bt 10 (.rd 11 (.rd 12 (.inv [])))))))))))))) (by kernel_rfl) rfl (by kernel_rfl) (by kernel_rfl) ?_
      iterate 10 (refine walkJ_rd rfl (fun K hK => ?_); go_simp; refine hK _ ?_; clear hK K)
      (first | (refine walkJ_bs rfl (fun K hK => ?_); go_simp; refine hK _ ?_; clear hK K) | (refine walkJ_bs rfl (fun K hK => ?_); go_simp; refine ⟨(by intro h; cases h), hK _ ?_⟩; clear hK K))
      iterate 2 (refine walkJ_rd rfl (fun K hK => ?_); go_simp; refine hK _ ?_; clear hK K)
      refine walkJ_nil ?_
      have hk := HPA.out i (by rw [HN.out]; exact hi) HLO.out (fun hh => by rw [HN.out] at hh; omega)
      have HPUT := hid (show putL l x = l.take i ++ ([x] ++ l.drop i) by unfold putL; rw [hk]; exact if_neg (fun hh => by have := hh.1; rw [HN.out] at this; omega))
      have HXd := hid (HKX.out.below hd0)
      clear hk z0 z1 hd0 hbel HKX
      obtain ⟨W4a, hW4a⟩ : ∃ W, wr.drew = W := ⟨_, rfl⟩
      rw [hW4a] at hbd HXd ⊢
      clear hW4a
      have hd4 := (Below.refl W4a.heap.size W4a).drew
      go_wp2_with fail
      refine wp_walkJ (T := Below (W4a.heap.size)) (belowV_pre _) (.rd 0 (.rd 1 (.rd 2 (.rd 3 (.rd 4 (.rd 5 (.rd 6 (.rd 7 (.rd 8 (.rd 9 (.rd 10 (.rd 11 (.inv []))))))))))))) (by kernel_rfl) rfl (by kernel_rfl) (by kernel_rfl) ?_
      iterate 12 (refine walkJ_rd rfl (fun K hK => ?_); go_simp; refine hK _ ?_; clear hK K)
      refine walkJ_nil ?_
      have hbc := hbd.trans (hd4.mono hbd.size)
      have HXc := hid (HXd.out.below hd4)
      obtain ⟨Wc, hWc⟩ : ∃ W, W4a.drew = W := ⟨_, rfl⟩
      rw [hWc] at hbc HXc ⊢
      clear hWc hd4 hbd HXd
      have hNi := hid hni
      clear hni
      have hni' := hNi.out.symm
      subst hni'
      by_cases hn0 : i = 0
      · obtain ⟨rfl, rfl⟩ := HNIL.out hn0
        subst hn0
        have hl0 : l = [] := List.length_eq_zero_iff.1 HN.out
        have SRC : Hid (∀ V, Below Wc.heap.size Wc V → SrcQ V (.slice none 0 0) 0 (frsC (l.take 0)) ∧ SrcQ V (.slice none 0 0) 0 (frsC (l.drop 0))) := hid (fun V hV => ⟨.inl ⟨rfl, rfl, rfl⟩, .inl ⟨rfl, rfl, by rw [hl0]; rfl⟩⟩)
        clear hl0
        have hdd := (Below.refl Wc.heap.size Wc).drew
        have zz0 := fun y : SubT (Below Wc.heap.size) Wc.drew => (HXc.out.below (hdd.trans y.b)).look 0 rfl
        have zz1 := fun y : SubT (Below Wc.heap.size) Wc.drew => (HXc.out.below (hdd.trans y.b)).look 1 rfl
        have HFIN : Hid (∀ g c W, W.ownsRow Wc.heap.size 31 2 (.slice (some ⟨g, 0, none⟩) (0 + 1 + 0) c) (0 + 1 + 0) ((frsC (l.take 0) ++ [Value.int .i64 n1, Value.int .i64 d1]) ++ frsC (l.drop 0)) → Below Wc.heap.size Wc W → (∃ v', Ending.returned (.slice (some ⟨g, 0, none⟩) (0 + 1 + 0) c) = Ending.returned v' ∧ QsR lo W v' (putL l x)) ∧ Below w.heap.size w W) := hid (fun g c W ho hb => by
          refine ⟨⟨_, rfl, ?_⟩, hbc.trans (hb.mono hbc.size)⟩
          have h := SlR.mono (SlR.of_owns ho) (show lo ≤ Wc.heap.size from Nat.le_trans hlo hbc.size)
          have e : frsC (putL l x) = (frsC (l.take 0) ++ [Value.int .i64 n1, Value.int .i64 d1]) ++ frsC (l.drop 0) := by
            rw [HPUT.out, frsC_append, frsC_append, HFX.out, List.append_assoc]
          have e2 : (putL l x).length = 0 + 1 + 0 := by
            rw [HPUT.out, List.length_append, List.length_append, List.length_take, List.length_drop, HN.out]
            simp <;> omega
          unfold QsR
          rw [e, e2]
          exact h)
        go_wp2_with fail
        refine wp_walkV (T := Below (Wc.heap.size)) (belowV_pre _) (.rd 1 (.rd 2 (.rd 3 (.rd 5 (.rd 8 (.rd 9 (.rd 10 (.two 0 (.two 4 (.mv 6 (.mv 7 (.bt 11 (.rd 12 .nil)))) 6 (.mv 4 (.mv 7 (.bt 11 (.rd 12 .nil))))) 6 (.mv 0 (.mv 4 (.mv 7 (.bt 11 (.rd 12 .nil))))))))))))) (by kernel_rfl) rfl rfl (by kernel_rfl) (by kernel_rfl) ?_
        iterate 7 (refine walkV_rd rfl (fun K hK => ?_); go_simp; refine hK _ ?_; clear hK K)
        clear zz0 zz1
        obtain ⟨W, hW⟩ : ∃ W, Wc.drew = W := ⟨_, rfl⟩
        obtain ⟨B, hB⟩ : ∃ B, Wc.heap.size = B := ⟨_, rfl⟩
        have hs : B ≤ W.heap.size := by rw [← hW, ← hB]; exact Nat.le_refl _
        rw [hW, hB] at hdd
        rw [hB] at HFIN
        have bt := hdd
        rw [hW, hB]
        have HSRC := SRC
        rw [hB] at HSRC
        clear hW hB hdd
        refine walkV_two rfl rfl (fun K hK => ?_) (fun K hK => ?_)
        · skip
          go_simp
          refine hK _ _ ((Below.refl _ _).alloc hs _) ?_
          clear hK K
          have kE := Blk.new W #[] 31
          have hb := alloc_below W (.cells #[] 31)
          have hge := hs
          generalize W.heap.size = gE at kE hge ⊢
          generalize W.alloc (.cells #[] 31) = W at kE hb ⊢
          replace bt := bt.trans (hb.mono hs)
          replace hs := Nat.le_trans hs hb.size
          clear hb
          refine walkV_two rfl rfl (fun K hK => ?_) (fun K hK => ?_)
          · skip
            obtain ⟨g4, c4, W4, hr4, o4, hb4, hk4⟩ := appQ W B (owns_empty 2 kE hge) _ 0 _ (HSRC.out W bt).1 (frsC_one _) (by omega) hs
            refine ⟨rfl, gives_append2 (.tmp 34) (.tmp 37) _ rfl rfl rfl rfl hr4 (hK _ _ hb4 ?_)⟩
            clear hr4 hK K
            rw [List.nil_append, Nat.zero_add] at o4
            rw [Nat.zero_add]
            replace bt := bt.trans hb4
            replace hs := Nat.le_trans hs hb4.size
            clear hb4 hk4 kE
            generalize W4 = W at *
            refine walkV_mv rfl (fun K hK => ?_)
            go_simp
            refine hK _ _ ((Below.refl _ _).alloc hs _) ?_
            clear hK K
            have kN := Blk.new W [Value.int .i64 n1, Value.int .i64 d1].toArray 31
            have hb := alloc_below W (.cells [Value.int .i64 n1, Value.int .i64 d1].toArray 31)
            generalize W.heap.size = gN at kN ⊢
            generalize W.alloc (.cells #[Value.int .i64 n1, Value.int .i64 d1] 31) = W at kN hb ⊢
            replace o4 := owns_below o4 hb
            replace bt := bt.trans (hb.mono hs)
            replace hs := Nat.le_trans hs hb.size
            clear hb
            obtain ⟨g5, c5, W5, hr5, o5, hb5, -⟩ := appQ W B o4 (.slice (some ⟨gN, 0, none⟩) 1 1) 1 [Value.int .i64 n1, Value.int .i64 d1] (.inr ⟨⟨gN, 0, none⟩, 1, rfl, rfl, cells_news kN⟩) (by simp [Value.oneCell']) (by omega) hs
            refine walkV_mv rfl (fun K hK => ⟨rfl, gives_append2 (.tmp 38) (.tmp 40) _ rfl rfl rfl rfl hr5 (hK _ _ hb5 ?_)⟩)
            clear hr5 o4
            replace bt := bt.trans hb5
            replace hs := Nat.le_trans hs hb5.size
            clear hb5 kN
            obtain ⟨g6, c6, W6, hr6, o6, hb6, -⟩ := appQ W5 B o5 _ 0 _ (HSRC.out W5 bt).2 (frsC_one _) (by omega) hs
            refine walkV_bt rfl (fun K hK => ⟨rfl, gives_append2 (.tmp 41) (.tmp 44) _ rfl rfl rfl rfl hr6 (hK _ _ ?_)⟩)
            clear hr6 o5
            replace bt := bt.trans hb6
            clear hb6
            iterate 1 (refine walkV_rd rfl (fun K hK => ?_); go_simp; refine hK _ ?_; clear hK K)
            refine walkV_nil ?_
            have HFR := hid (HFIN.out g6 c6 W6 o6 bt)
            clear o6 bt hs HFIN HSRC
            go_wp2
            all_goals (go_ret; exact HFR.out)
          · skip
            go_simp
            refine hK _ _ ((Below.refl _ _).alloc hs _) ?_
            clear hK K
            have kN := Blk.new W [Value.int .i64 n1, Value.int .i64 d1].toArray 31
            have hb := alloc_below W (.cells [Value.int .i64 n1, Value.int .i64 d1].toArray 31)
            have hne : W.heap.size ≠ gE := Nat.ne_of_gt kE.lt
            generalize W.heap.size = gN at kN hne ⊢
            generalize W.alloc (.cells #[Value.int .i64 n1, Value.int .i64 d1] 31) = W at kN hb ⊢
            replace kE := kE.below hb
            replace bt := bt.trans (hb.mono hs)
            replace hs := Nat.le_trans hs hb.size
            clear hb
            refine walkV_mv rfl (fun K hK => ?_)
            obtain ⟨g4, c4, W4, hr4, o4, hb4, hk4⟩ := appQ W B (owns_empty 2 kE hge) _ 0 _ (HSRC.out W bt).1 (frsC_one _) (by omega) hs
            refine ⟨rfl, gives_append2 (.tmp 34) (.tmp 37) _ rfl rfl rfl rfl hr4 (hK _ _ hb4 ?_)⟩
            clear hr4 hK K
            rw [List.nil_append, Nat.zero_add] at o4
            rw [Nat.zero_add]
            replace bt := bt.trans hb4
            replace hs := Nat.le_trans hs hb4.size
            replace kN := hk4 _ _ _ kN hne
            clear hb4 hk4 kE hne
            generalize W4 = W at *
            obtain ⟨g5, c5, W5, hr5, o5, hb5, -⟩ := appQ W B o4 (.slice (some ⟨gN, 0, none⟩) 1 1) 1 [Value.int .i64 n1, Value.int .i64 d1] (.inr ⟨⟨gN, 0, none⟩, 1, rfl, rfl, cells_news kN⟩) (by simp [Value.oneCell']) (by omega) hs
            refine walkV_mv rfl (fun K hK => ⟨rfl, gives_append2 (.tmp 38) (.tmp 40) _ rfl rfl rfl rfl hr5 (hK _ _ hb5 ?_)⟩)
            clear hr5 o4
            replace bt := bt.trans hb5
            replace hs := Nat.le_trans hs hb5.size
            clear hb5 kN
            obtain ⟨g6, c6, W6, hr6, o6, hb6, -⟩ := appQ W5 B o5 _ 0 _ (HSRC.out W5 bt).2 (frsC_one _) (by omega) hs
            refine walkV_bt rfl (fun K hK => ⟨rfl, gives_append2 (.tmp 41) (.tmp 44) _ rfl rfl rfl rfl hr6 (hK _ _ ?_)⟩)
            clear hr6 o5
            replace bt := bt.trans hb6
            clear hb6
            iterate 1 (refine walkV_rd rfl (fun K hK => ?_); go_simp; refine hK _ ?_; clear hK K)
            refine walkV_nil ?_
            have HFR := hid (HFIN.out g6 c6 W6 o6 bt)
            clear o6 bt hs HFIN HSRC
            go_wp2
            all_goals (go_ret; exact HFR.out)
        · skip
          go_simp
          refine hK _ _ ((Below.refl _ _).alloc hs _) ?_
          clear hK K
          have kN := Blk.new W [Value.int .i64 n1, Value.int .i64 d1].toArray 31
          have hb := alloc_below W (.cells [Value.int .i64 n1, Value.int .i64 d1].toArray 31)
          generalize W.heap.size = gN at kN ⊢
          generalize W.alloc (.cells #[Value.int .i64 n1, Value.int .i64 d1] 31) = W at kN hb ⊢
          replace bt := bt.trans (hb.mono hs)
          replace hs := Nat.le_trans hs hb.size
          clear hb
          refine walkV_mv rfl (fun K hK => ?_)
          go_simp
          refine hK _ _ ((Below.refl _ _).alloc hs _) ?_
          clear hK K
          have kE := Blk.new W #[] 31
          have hb := alloc_below W (.cells #[] 31)
          have hge := hs
          have hne : gN ≠ W.heap.size := Nat.ne_of_lt kN.lt
          generalize W.heap.size = gE at kE hge hne ⊢
          generalize W.alloc (.cells #[] 31) = W at kE hb ⊢
          replace kN := kN.below hb
          replace bt := bt.trans (hb.mono hs)
          replace hs := Nat.le_trans hs hb.size
          clear hb
          refine walkV_mv rfl (fun K hK => ?_)
          obtain ⟨g4, c4, W4, hr4, o4, hb4, hk4⟩ := appQ W B (owns_empty 2 kE hge) _ 0 _ (HSRC.out W bt).1 (frsC_one _) (by omega) hs
          refine ⟨rfl, gives_append2 (.tmp 34) (.tmp 37) _ rfl rfl rfl rfl hr4 (hK _ _ hb4 ?_)⟩
          clear hr4 hK K
          rw [List.nil_append, Nat.zero_add] at o4
          rw [Nat.zero_add]
          replace bt := bt.trans hb4
          replace hs := Nat.le_trans hs hb4.size
          replace kN := hk4 _ _ _ kN hne
          clear hb4 hk4 kE hne
          generalize W4 = W at *
          obtain ⟨g5, c5, W5, hr5, o5, hb5, -⟩ := appQ W B o4 (.slice (some ⟨gN, 0, none⟩) 1 1) 1 [Value.int .i64 n1, Value.int .i64 d1] (.inr ⟨⟨gN, 0, none⟩, 1, rfl, rfl, cells_news kN⟩) (by simp [Value.oneCell']) (by omega) hs
          refine walkV_mv rfl (fun K hK => ⟨rfl, gives_append2 (.tmp 38) (.tmp 40) _ rfl rfl rfl rfl hr5 (hK _ _ hb5 ?_)⟩)
          clear hr5 o4
          replace bt := bt.trans hb5
          replace hs := Nat.le_trans hs hb5.size
          clear hb5 kN
          obtain ⟨g6, c6, W6, hr6, o6, hb6, -⟩ := appQ W5 B o5 _ 0 _ (HSRC.out W5 bt).2 (frsC_one _) (by omega) hs
          refine walkV_bt rfl (fun K hK => ⟨rfl, gives_append2 (.tmp 41) (.tmp 44) _ rfl rfl rfl rfl hr6 (hK _ _ ?_)⟩)
          clear hr6 o5
          replace bt := bt.trans hb6
          clear hb6
          iterate 1 (refine walkV_rd rfl (fun K hK => ?_); go_simp; refine hK _ ?_; clear hK K)
          refine walkV_nil ?_
          have HFR := hid (HFIN.out g6 c6 W6 o6 bt)
          clear o6 bt hs HFIN HSRC
          go_wp2
          all_goals (go_ret; exact HFR.out)
      · obtain ⟨b, off, rfl, hb, -, -⟩ := q_cell HCC.out (show 0 < l.length by rw [HN.out]; omega)
        have hic : (i : Int) ≤ (cap : Int) := by omega
        have hin' : (i : Int) ≤ (i : Int) := by omega
        have hi0' : 0 ≤ (i : Int) := by omega
        have SRC : Hid (∀ V, Below Wc.heap.size Wc V → SrcQ V (.slice (some ⟨b, off, none⟩) i cap) i (frsC (l.take i)) ∧ SrcQ V (.slice (if cap = i then (some ⟨b, off, none⟩ : Option Addr) else some ⟨b, off + i * 2, none⟩) 0 (cap - i)) 0 (frsC (l.drop i))) := hid (fun V hV => by
          have hx := q_src (i := i) (CellsOf.below HCC.out (hbc.trans (hV.mono hbc.size))) (by rw [HN.out]; exact Nat.le_refl _)
          have l1 : (frsC (l.take i)).length = i * 2 := by rw [frsC_len, List.length_take, HN.out]; omega
          have l2 : (frsC (l.drop i)).length = 0 * 2 := by rw [frsC_len, List.length_drop, HN.out, Nat.sub_self]
          refine ⟨.inr ⟨_, _, rfl, l1, hx.1⟩, ?_⟩
          by_cases hci : cap = i
          · rw [if_pos hci]
            refine .inr ⟨_, _, rfl, l2, fun j u hu => ?_⟩
            have := (List.getElem?_eq_some_iff.1 hu).1
            omega
          · rw [if_neg hci]
            exact .inr ⟨_, _, rfl, l2, hx.2⟩)
        have hdd := (Below.refl Wc.heap.size Wc).drew
        have zz0 := fun y : SubT (Below Wc.heap.size) Wc.drew => (HXc.out.below (hdd.trans y.b)).look 0 rfl
        have zz1 := fun y : SubT (Below Wc.heap.size) Wc.drew => (HXc.out.below (hdd.trans y.b)).look 1 rfl
        have HFIN : Hid (∀ g c W, W.ownsRow Wc.heap.size 31 2 (.slice (some ⟨g, 0, none⟩) (i + 1 + 0) c) (i + 1 + 0) ((frsC (l.take i) ++ [Value.int .i64 n1, Value.int .i64 d1]) ++ frsC (l.drop i)) → Below Wc.heap.size Wc W → (∃ v', Ending.returned (.slice (some ⟨g, 0, none⟩) (i + 1 + 0) c) = Ending.returned v' ∧ QsR lo W v' (putL l x)) ∧ Below w.heap.size w W) := hid (fun g c W ho hb => by
          refine ⟨⟨_, rfl, ?_⟩, hbc.trans (hb.mono hbc.size)⟩
          have h := SlR.mono (SlR.of_owns ho) (show lo ≤ Wc.heap.size from Nat.le_trans hlo hbc.size)
          have e : frsC (putL l x) = (frsC (l.take i) ++ [Value.int .i64 n1, Value.int .i64 d1]) ++ frsC (l.drop i) := by
            rw [HPUT.out, frsC_append, frsC_append, HFX.out, List.append_assoc]
          have e2 : (putL l x).length = i + 1 + 0 := by
            rw [HPUT.out, List.length_append, List.length_append, List.length_take, List.length_drop, HN.out]
            simp <;> omega
          unfold QsR
          rw [e, e2]
          exact h)
        go_wp2_with fail
        refine wp_walkV (T := Below (Wc.heap.size)) (belowV_pre _) (.rd 1 (.rd 2 (.rd 3 (.rd 5 (.rd 8 (.rd 9 (.rd 10 (.two 0 (.two 4 (.mv 6 (.mv 7 (.bt 11 (.rd 12 .nil)))) 6 (.mv 4 (.mv 7 (.bt 11 (.rd 12 .nil))))) 6 (.mv 0 (.mv 4 (.mv 7 (.bt 11 (.rd 12 .nil))))))))))))) (by kernel_rfl) rfl rfl (by kernel_rfl) (by kernel_rfl) ?_
        iterate 7 (refine walkV_rd rfl (fun K hK => ?_); go_simp; refine hK _ ?_; clear hK K)
        clear zz0 zz1
        obtain ⟨W, hW⟩ : ∃ W, Wc.drew = W := ⟨_, rfl⟩
        obtain ⟨B, hB⟩ : ∃ B, Wc.heap.size = B := ⟨_, rfl⟩
        have hs : B ≤ W.heap.size := by rw [← hW, ← hB]; exact Nat.le_refl _
        rw [hW, hB] at hdd
        rw [hB] at HFIN
        have bt := hdd
        rw [hW, hB]
        have HSRC := SRC
        rw [hB] at HSRC
        clear hW hB hdd
        refine walkV_two rfl rfl (fun K hK => ?_) (fun K hK => ?_)
        · skip
          go_simp
          refine hK _ _ ((Below.refl _ _).alloc hs _) ?_
          clear hK K
          have kE := Blk.new W #[] 31
          have hb := alloc_below W (.cells #[] 31)
          have hge := hs
          generalize W.heap.size = gE at kE hge ⊢
          generalize W.alloc (.cells #[] 31) = W at kE hb ⊢
          replace bt := bt.trans (hb.mono hs)
          replace hs := Nat.le_trans hs hb.size
          clear hb
          refine walkV_two rfl rfl (fun K hK => ?_) (fun K hK => ?_)
          · skip
            obtain ⟨g4, c4, W4, hr4, o4, hb4, hk4⟩ := appQ W B (owns_empty 2 kE hge) _ i _ (HSRC.out W bt).1 (frsC_one _) (by omega) hs
            refine ⟨rfl, gives_append2 (.tmp 34) (.tmp 37) _ rfl rfl rfl rfl hr4 (hK _ _ hb4 ?_)⟩
            clear hr4 hK K
            rw [List.nil_append, Nat.zero_add] at o4
            rw [Nat.zero_add]
            replace bt := bt.trans hb4
            replace hs := Nat.le_trans hs hb4.size
            clear hb4 hk4 kE
            generalize W4 = W at *
            refine walkV_mv rfl (fun K hK => ?_)
            go_simp
            refine hK _ _ ((Below.refl _ _).alloc hs _) ?_
            clear hK K
            have kN := Blk.new W [Value.int .i64 n1, Value.int .i64 d1].toArray 31
            have hb := alloc_below W (.cells [Value.int .i64 n1, Value.int .i64 d1].toArray 31)
            generalize W.heap.size = gN at kN ⊢
            generalize W.alloc (.cells #[Value.int .i64 n1, Value.int .i64 d1] 31) = W at kN hb ⊢
            replace o4 := owns_below o4 hb
            replace bt := bt.trans (hb.mono hs)
            replace hs := Nat.le_trans hs hb.size
            clear hb
            obtain ⟨g5, c5, W5, hr5, o5, hb5, -⟩ := appQ W B o4 (.slice (some ⟨gN, 0, none⟩) 1 1) 1 [Value.int .i64 n1, Value.int .i64 d1] (.inr ⟨⟨gN, 0, none⟩, 1, rfl, rfl, cells_news kN⟩) (by simp [Value.oneCell']) (by omega) hs
            refine walkV_mv rfl (fun K hK => ⟨rfl, gives_append2 (.tmp 38) (.tmp 40) _ rfl rfl rfl rfl hr5 (hK _ _ hb5 ?_)⟩)
            clear hr5 o4
            replace bt := bt.trans hb5
            replace hs := Nat.le_trans hs hb5.size
            clear hb5 kN
            obtain ⟨g6, c6, W6, hr6, o6, hb6, -⟩ := appQ W5 B o5 _ 0 _ (HSRC.out W5 bt).2 (frsC_one _) (by omega) hs
            refine walkV_bt rfl (fun K hK => ⟨rfl, gives_append2 (.tmp 41) (.tmp 44) _ rfl rfl rfl rfl hr6 (hK _ _ ?_)⟩)
            clear hr6 o5
            replace bt := bt.trans hb6
            clear hb6
            iterate 1 (refine walkV_rd rfl (fun K hK => ?_); go_simp; refine hK _ ?_; clear hK K)
            refine walkV_nil ?_
            have HFR := hid (HFIN.out g6 c6 W6 o6 bt)
            clear o6 bt hs HFIN HSRC
            go_wp2
            all_goals (go_ret; exact HFR.out)
          · skip
            go_simp
            refine hK _ _ ((Below.refl _ _).alloc hs _) ?_
            clear hK K
            have kN := Blk.new W [Value.int .i64 n1, Value.int .i64 d1].toArray 31
            have hb := alloc_below W (.cells [Value.int .i64 n1, Value.int .i64 d1].toArray 31)
            have hne : W.heap.size ≠ gE := Nat.ne_of_gt kE.lt
            generalize W.heap.size = gN at kN hne ⊢
            generalize W.alloc (.cells #[Value.int .i64 n1, Value.int .i64 d1] 31) = W at kN hb ⊢
            replace kE := kE.below hb
            replace bt := bt.trans (hb.mono hs)
            replace hs := Nat.le_trans hs hb.size
            clear hb
            refine walkV_mv rfl (fun K hK => ?_)
            obtain ⟨g4, c4, W4, hr4, o4, hb4, hk4⟩ := appQ W B (owns_empty 2 kE hge) _ i _ (HSRC.out W bt).1 (frsC_one _) (by omega) hs
            refine ⟨rfl, gives_append2 (.tmp 34) (.tmp 37) _ rfl rfl rfl rfl hr4 (hK _ _ hb4 ?_)⟩
            clear hr4 hK K
            rw [List.nil_append, Nat.zero_add] at o4
            rw [Nat.zero_add]
            replace bt := bt.trans hb4
            replace hs := Nat.le_trans hs hb4.size
            replace kN := hk4 _ _ _ kN hne
            clear hb4 hk4 kE hne
            generalize W4 = W at *
            obtain ⟨g5, c5, W5, hr5, o5, hb5, -⟩ := appQ W B o4 (.slice (some ⟨gN, 0, none⟩) 1 1) 1 [Value.int .i64 n1, Value.int .i64 d1] (.inr ⟨⟨gN, 0, none⟩, 1, rfl, rfl, cells_news kN⟩) (by simp [Value.oneCell']) (by omega) hs
            refine walkV_mv rfl (fun K hK => ⟨rfl, gives_append2 (.tmp 38) (.tmp 40) _ rfl rfl rfl rfl hr5 (hK _ _ hb5 ?_)⟩)
            clear hr5 o4
            replace bt := bt.trans hb5
            replace hs := Nat.le_trans hs hb5.size
            clear hb5 kN
            obtain ⟨g6, c6, W6, hr6, o6, hb6, -⟩ := appQ W5 B o5 _ 0 _ (HSRC.out W5 bt).2 (frsC_one _) (by omega) hs
            refine walkV_bt rfl (fun K hK => ⟨rfl, gives_append2 (.tmp 41) (.tmp 44) _ rfl rfl rfl rfl hr6 (hK _ _ ?_)⟩)
            clear hr6 o5
            replace bt := bt.trans hb6
            clear hb6
            iterate 1 (refine walkV_rd rfl (fun K hK => ?_); go_simp; refine hK _ ?_; clear hK K)
            refine walkV_nil ?_
            have HFR := hid (HFIN.out g6 c6 W6 o6 bt)
            clear o6 bt hs HFIN HSRC
            go_wp2
            all_goals (go_ret; exact HFR.out)
        · skip
          go_simp
          refine hK _ _ ((Below.refl _ _).alloc hs _) ?_
          clear hK K
          have kN := Blk.new W [Value.int .i64 n1, Value.int .i64 d1].toArray 31
          have hb := alloc_below W (.cells [Value.int .i64 n1, Value.int .i64 d1].toArray 31)
          generalize W.heap.size = gN at kN ⊢
          generalize W.alloc (.cells #[Value.int .i64 n1, Value.int .i64 d1] 31) = W at kN hb ⊢
          replace bt := bt.trans (hb.mono hs)
          replace hs := Nat.le_trans hs hb.size
          clear hb
          refine walkV_mv rfl (fun K hK => ?_)
          go_simp
          refine hK _ _ ((Below.refl _ _).alloc hs _) ?_
          clear hK K
          have kE := Blk.new W #[] 31
          have hb := alloc_below W (.cells #[] 31)
          have hge := hs
          have hne : gN ≠ W.heap.size := Nat.ne_of_lt kN.lt
          generalize W.heap.size = gE at kE hge hne ⊢
          generalize W.alloc (.cells #[] 31) = W at kE hb ⊢
          replace kN := kN.below hb
          replace bt := bt.trans (hb.mono hs)
          replace hs := Nat.le_trans hs hb.size
          clear hb
          refine walkV_mv rfl (fun K hK => ?_)
          obtain ⟨g4, c4, W4, hr4, o4, hb4, hk4⟩ := appQ W B (owns_empty 2 kE hge) _ i _ (HSRC.out W bt).1 (frsC_one _) (by omega) hs
          refine ⟨rfl, gives_append2 (.tmp 34) (.tmp 37) _ rfl rfl rfl rfl hr4 (hK _ _ hb4 ?_)⟩
          clear hr4 hK K
          rw [List.nil_append, Nat.zero_add] at o4
          rw [Nat.zero_add]
          replace bt := bt.trans hb4
          replace hs := Nat.le_trans hs hb4.size
          replace kN := hk4 _ _ _ kN hne
          clear hb4 hk4 kE hne
          generalize W4 = W at *
          obtain ⟨g5, c5, W5, hr5, o5, hb5, -⟩ := appQ W B o4 (.slice (some ⟨gN, 0, none⟩) 1 1) 1 [Value.int .i64 n1, Value.int .i64 d1] (.inr ⟨⟨gN, 0, none⟩, 1, rfl, rfl, cells_news kN⟩) (by simp [Value.oneCell']) (by omega) hs
          refine walkV_mv rfl (fun K hK => ⟨rfl, gives_append2 (.tmp 38) (.tmp 40) _ rfl rfl rfl rfl hr5 (hK _ _ hb5 ?_)⟩)
          clear hr5 o4
          replace bt := bt.trans hb5
          replace hs := Nat.le_trans hs hb5.size
          clear hb5 kN
          obtain ⟨g6, c6, W6, hr6, o6, hb6, -⟩ := appQ W5 B o5 _ 0 _ (HSRC.out W5 bt).2 (frsC_one _) (by omega) hs
          refine walkV_bt rfl (fun K hK => ⟨rfl, gives_append2 (.tmp 41) (.tmp 44) _ rfl rfl rfl rfl hr6 (hK _ _ ?_)⟩)
          clear hr6 o5
          replace bt := bt.trans hb6
          clear hb6
          iterate 1 (refine walkV_rd rfl (fun K hK => ?_); go_simp; refine hK _ ?_; clear hK K)
          refine walkV_nil ?_
          have HFR := hid (HFIN.out g6 c6 W6 o6 bt)
          clear o6 bt hs HFIN HSRC
          go_wp2
          all_goals (go_ret; exact HFR.out)
    have hin2 : (i : Int) < (n : Int) := by omega
    obtain ⟨b, off, rfl, hb, x0, x1⟩ := q_cell HCC.out (show i < l.length by rw [HN.out]; exact hin)
    have z2 := fun y : SubT (Below wr.heap.size) wr.drew => ((hbel.trans ((hd0.trans y.b).mono hbel.size)).cell (p := ⟨b, off + i * 2, none⟩) hb).trans x0
    have z3 := fun y : SubT (Below wr.heap.size) wr.drew => ((hbel.trans ((hd0.trans y.b).mono hbel.size)).cell (p := ⟨b, off + i * 2 + 1, none⟩) hb).trans x1
    have OI := hid (OR.out i (by rw [HN.out]; exact hin))
    have hci := hcm.out i
    obtain ⟨q, hq⟩ : ∃ q, l.getD i 0 = q := ⟨_, rfl⟩
    rw [hq] at z2 z3 OI hci
    have HQ := hid hq
    obtain ⟨cz, hcz⟩ : ∃ z, cmpQ q x = z := ⟨_, rfl⟩
    rw [hcz] at OI hci
    have HCI := hid hci
    clear x0 x1 hq hcz hci
    go_wp2_with fail
    refine wp_walkJ (T := Below (wr.heap.size)) (belowV_pre _) (.rd 0 (.rd 1 (.rd 2 (.rd 3 (.rd 4 (.rd 5 (.rd 6 (.rd 7 (.rd 8 (.rd 9 (.bt 10 (.rd 11 (.rd 12 (.inv [])))))))))))))) (by kernel_rfl) rfl (by kernel_rfl) (by kernel_rfl) ?_
    iterate 10 (refine walkJ_rd rfl (fun K hK => ?_); go_simp; refine hK _ ?_; clear hK K)
    clear z0 z1 z2 z3
    (refine walkJ_bt rfl (fun K hK => ?_); go_simp; refine (OI.out _).mono ?_; rintro r w2 ⟨rfl, hb2⟩; refine ⟨_, rfl, hK _ _ ?_⟩; clear hK K)
    have hd2 : Below wr.heap.size wr w2 := hd0.trans hb2
    have hb2' := hbel.trans (hd2.mono hbel.size)
    have HX2 := hid (HKX.out.below hd2)
    clear hb2 hd0 hbd hd2 HKX hbel
    have hcase : (q < x ∧ cz = -1) ∨ (¬ q < x ∧ 0 ≤ cz) := by
      rcases HCI.out with ⟨hl, rfl, -⟩ | ⟨hl, rfl, -⟩ | ⟨hl, rfl, -⟩
      · exact .inl ⟨hl, rfl⟩
      · exact .inr ⟨by grind, by omega⟩
      · exact .inr ⟨by grind, by omega⟩
    rcases hcase with ⟨hlt, rfl⟩ | ⟨hnl, hcz0⟩
    · have HLT := hid hlt
      clear hlt HCI
      iterate 2 (refine walkJ_rd rfl (fun K hK => ?_); go_simp; refine hK _ ?_; clear hK K)
      refine walkJ_nil ?_
      go_wp2
      go_roundw
      case rel =>
        refine ⟨i + 1, by go_num, by omega, hid (fun j hj => ?_), hb2', HX2⟩
        by_cases hji : j = i
        · rw [hji, HQ.out]; exact HLT.out
        · exact HLO.out j (by omega)
      case measure => simp [intOf]; omega
    · have HNL := hid hnl
      have hczn : ¬ cz < 0 := by omega
      clear hnl HCI
      iterate 2 (refine walkJ_rd rfl (fun K hK => ?_); go_simp; refine hK _ ?_; clear hK K)
      refine walkJ_nil ?_
      have hk := HPA.out i (by rw [HN.out]; exact hi) HLO.out (fun hh => by rw [HQ.out]; exact HNL.out)
      have HK := hid hk
      clear hk
      have hbd := hb2'
      have hd4 := (Below.refl w2.heap.size w2).drew
      obtain ⟨b2, off2, he2, hb2, x0, x1⟩ := q_cell HCC.out (show i < l.length by rw [HN.out]; exact hin)
      cases he2
      rw [HQ.out] at x0 x1
      have z0 := fun y : SubT (Below w2.heap.size) w2.drew => (HX2.out.below (hd4.trans y.b)).look 0 rfl
      have z1 := fun y : SubT (Below w2.heap.size) w2.drew => (HX2.out.below (hd4.trans y.b)).look 1 rfl
      have z2 := fun y : SubT (Below w2.heap.size) w2.drew => ((hbd.trans ((hd4.trans y.b).mono hbd.size)).cell (p := ⟨b, off + i * 2, none⟩) hb).trans x0
      have z3 := fun y : SubT (Below w2.heap.size) w2.drew => ((hbd.trans ((hd4.trans y.b).mono hbd.size)).cell (p := ⟨b, off + i * 2 + 1, none⟩) hb).trans x1
      have hxe := HXE.out q
      obtain ⟨m1, hm1⟩ : ∃ z, q.num = z := ⟨_, rfl⟩
      obtain ⟨m2, hm2⟩ : ∃ z, (q.den : Int) = z := ⟨_, rfl⟩
      rw [hm1, hm2] at hxe
      rw [hm1] at z2
      rw [hm2] at z3
      have HXQ := hid hxe
      clear hxe hm1 hm2 x0 x1 HNL OI
      have HXc0 := hid (HX2.out.below hd4)
      by_cases hsame : m1 = n1 ∧ m2 = d1
      · obtain ⟨rfl, rfl⟩ := hsame
        have hput : putL l x = l := by
          unfold putL
          rw [HK.out]
          exact if_pos ⟨by rw [HN.out]; exact hin, by rw [HQ.out]; exact HXQ.out.2 ⟨rfl, rfl⟩⟩
        have HPUT := hid hput
        clear hput
        go_wp2_with fail
        refine wp_walkJ (T := Below (w2.heap.size)) (belowV_pre _) (.rd 0 (.rd 1 (.rd 2 (.rd 3 (.rd 4 (.rd 5 (.rd 6 (.rd 7 (.rd 8 (.rd 9 (.rd 10 (.rd 11 (.inv []))))))))))))) (by kernel_rfl) rfl (by kernel_rfl) (by kernel_rfl) ?_
        iterate 12 (refine walkJ_rd rfl (fun K hK => ?_); go_simp; refine hK _ ?_; clear hK K)
        refine walkJ_nil ?_
        have hbf := hbd.trans (hd4.mono hbd.size)
        have HFN : Hid (QsR lo w2.drew (.slice (some ⟨b, off, none⟩) n cap) (putL l x)) := hid (by
          rw [HPUT.out]
          have := HV.out
          rw [HN.out] at this
          exact QsR.below this hbf)
        clear z0 z1 z2 z3 hd4
        go_wp2
        go_ret
        exact ⟨⟨_, rfl, HFN.out⟩, hbf⟩
      · have HPUT := hid (show putL l x = l.take i ++ ([x] ++ l.drop i) by
          unfold putL
          rw [HK.out]
          exact if_neg (fun hh => hsame (HXQ.out.1 (by rw [← HQ.out]; exact hh.2))))
        have hsp : m1 ≠ n1 ∨ (m1 = n1 ∧ m2 ≠ d1) := by omega
        have hNi : Hid (n = n) := hid rfl
        clear hsame
        rcases hsp with hq1 | ⟨hmn, hq1⟩
        · go_wp2_with fail
          refine wp_walkJ (T := Below (w2.heap.size)) (belowV_pre _) (.rd 0 (.rd 1 (.rd 2 (.rd 3 (.rd 4 (.rd 5 (.rd 6 (.rd 7 (.rd 8 (.rd 9 (.rd 10 (.rd 11 (.inv []))))))))))))) (by kernel_rfl) rfl (by kernel_rfl) (by kernel_rfl) ?_
          iterate 12 (refine walkJ_rd rfl (fun K hK => ?_); go_simp; refine hK _ ?_; clear hK K)
          refine walkJ_nil ?_
          have hbc := hbd.trans (hd4.mono hbd.size)
          have HXc := HXc0
          obtain ⟨Wc, hWc⟩ : ∃ W, w2.drew = W := ⟨_, rfl⟩
          rw [hWc] at hbc HXc ⊢
          clear hWc hd4 hbd HXc0 z0 z1 z2 z3 HX2
          have hic : (i : Int) ≤ (cap : Int) := by omega
          have hin' : (i : Int) ≤ (n : Int) := by omega
          have hi0' : 0 ≤ (i : Int) := by omega
          have SRC : Hid (∀ V, Below Wc.heap.size Wc V → SrcQ V (.slice (some ⟨b, off, none⟩) i cap) i (frsC (l.take i)) ∧ SrcQ V (.slice (if cap = i then (some ⟨b, off, none⟩ : Option Addr) else some ⟨b, off + i * 2, none⟩) (n - i) (cap - i)) (n - i) (frsC (l.drop i))) := hid (fun V hV => by
            have hx := q_src (i := i) (CellsOf.below HCC.out (hbc.trans (hV.mono hbc.size))) (by rw [HN.out]; exact hi)
            have l1 : (frsC (l.take i)).length = i * 2 := by rw [frsC_len, List.length_take, HN.out]; omega
            have l2 : (frsC (l.drop i)).length = (n - i) * 2 := by rw [frsC_len, List.length_drop, HN.out]
            refine ⟨.inr ⟨_, _, rfl, l1, hx.1⟩, ?_⟩
            by_cases hci : cap = i
            · rw [if_pos hci]
              refine .inr ⟨_, _, rfl, l2, fun j u hu => ?_⟩
              have := (List.getElem?_eq_some_iff.1 hu).1
              omega
            · rw [if_neg hci]
              exact .inr ⟨_, _, rfl, l2, hx.2⟩)
          have hdd := (Below.refl Wc.heap.size Wc).drew
          have zz0 := fun y : SubT (Below Wc.heap.size) Wc.drew => (HXc.out.below (hdd.trans y.b)).look 0 rfl
          have zz1 := fun y : SubT (Below Wc.heap.size) Wc.drew => (HXc.out.below (hdd.trans y.b)).look 1 rfl
          have HFIN : Hid (∀ g c W, W.ownsRow Wc.heap.size 31 2 (.slice (some ⟨g, 0, none⟩) (i + 1 + (n - i)) c) (i + 1 + (n - i)) ((frsC (l.take i) ++ [Value.int .i64 n1, Value.int .i64 d1]) ++ frsC (l.drop i)) → Below Wc.heap.size Wc W → (∃ v', Ending.returned (.slice (some ⟨g, 0, none⟩) (i + 1 + (n - i)) c) = Ending.returned v' ∧ QsR lo W v' (putL l x)) ∧ Below w.heap.size w W) := hid (fun g c W ho hb => by
            refine ⟨⟨_, rfl, ?_⟩, hbc.trans (hb.mono hbc.size)⟩
            have h := SlR.mono (SlR.of_owns ho) (show lo ≤ Wc.heap.size from Nat.le_trans hlo hbc.size)
            have e : frsC (putL l x) = (frsC (l.take i) ++ [Value.int .i64 n1, Value.int .i64 d1]) ++ frsC (l.drop i) := by
              rw [HPUT.out, frsC_append, frsC_append, HFX.out, List.append_assoc]
            have e2 : (putL l x).length = i + 1 + (n - i) := by
              rw [HPUT.out, List.length_append, List.length_append, List.length_take, List.length_drop, HN.out]
              simp <;> omega
            unfold QsR
            rw [e, e2]
            exact h)
          go_wp2_with fail
          refine wp_walkV (T := Below (Wc.heap.size)) (belowV_pre _) (.rd 1 (.rd 2 (.rd 3 (.rd 5 (.rd 8 (.rd 9 (.rd 10 (.two 0 (.two 4 (.mv 6 (.mv 7 (.bt 11 (.rd 12 .nil)))) 6 (.mv 4 (.mv 7 (.bt 11 (.rd 12 .nil))))) 6 (.mv 0 (.mv 4 (.mv 7 (.bt 11 (.rd 12 .nil))))))))))))) (by kernel_rfl) rfl rfl (by kernel_rfl) (by kernel_rfl) ?_
          iterate 7 (refine walkV_rd rfl (fun K hK => ?_); go_simp; refine hK _ ?_; clear hK K)
          clear zz0 zz1
          obtain ⟨W, hW⟩ : ∃ W, Wc.drew = W := ⟨_, rfl⟩
          obtain ⟨B, hB⟩ : ∃ B, Wc.heap.size = B := ⟨_, rfl⟩
          have hs : B ≤ W.heap.size := by rw [← hW, ← hB]; exact Nat.le_refl _
          rw [hW, hB] at hdd
          rw [hB] at HFIN
          have bt := hdd
          rw [hW, hB]
          have HSRC := SRC
          rw [hB] at HSRC
          clear hW hB hdd
          refine walkV_two rfl rfl (fun K hK => ?_) (fun K hK => ?_)
          · skip
            go_simp
            refine hK _ _ ((Below.refl _ _).alloc hs _) ?_
            clear hK K
            have kE := Blk.new W #[] 31
            have hb := alloc_below W (.cells #[] 31)
            have hge := hs
            generalize W.heap.size = gE at kE hge ⊢
            generalize W.alloc (.cells #[] 31) = W at kE hb ⊢
            replace bt := bt.trans (hb.mono hs)
            replace hs := Nat.le_trans hs hb.size
            clear hb
            refine walkV_two rfl rfl (fun K hK => ?_) (fun K hK => ?_)
            · skip
              obtain ⟨g4, c4, W4, hr4, o4, hb4, hk4⟩ := appQ W B (owns_empty 2 kE hge) _ i _ (HSRC.out W bt).1 (frsC_one _) (by omega) hs
              refine ⟨rfl, gives_append2 (.tmp 34) (.tmp 37) _ rfl rfl rfl rfl hr4 (hK _ _ hb4 ?_)⟩
              clear hr4 hK K
              rw [List.nil_append, Nat.zero_add] at o4
              rw [Nat.zero_add]
              replace bt := bt.trans hb4
              replace hs := Nat.le_trans hs hb4.size
              clear hb4 hk4 kE
              generalize W4 = W at *
              refine walkV_mv rfl (fun K hK => ?_)
              go_simp
              refine hK _ _ ((Below.refl _ _).alloc hs _) ?_
              clear hK K
              have kN := Blk.new W [Value.int .i64 n1, Value.int .i64 d1].toArray 31
              have hb := alloc_below W (.cells [Value.int .i64 n1, Value.int .i64 d1].toArray 31)
              generalize W.heap.size = gN at kN ⊢
              generalize W.alloc (.cells #[Value.int .i64 n1, Value.int .i64 d1] 31) = W at kN hb ⊢
              replace o4 := owns_below o4 hb
              replace bt := bt.trans (hb.mono hs)
              replace hs := Nat.le_trans hs hb.size
              clear hb
              obtain ⟨g5, c5, W5, hr5, o5, hb5, -⟩ := appQ W B o4 (.slice (some ⟨gN, 0, none⟩) 1 1) 1 [Value.int .i64 n1, Value.int .i64 d1] (.inr ⟨⟨gN, 0, none⟩, 1, rfl, rfl, cells_news kN⟩) (by simp [Value.oneCell']) (by omega) hs
              refine walkV_mv rfl (fun K hK => ⟨rfl, gives_append2 (.tmp 38) (.tmp 40) _ rfl rfl rfl rfl hr5 (hK _ _ hb5 ?_)⟩)
              clear hr5 o4
              replace bt := bt.trans hb5
              replace hs := Nat.le_trans hs hb5.size
              clear hb5 kN
              obtain ⟨g6, c6, W6, hr6, o6, hb6, -⟩ := appQ W5 B o5 _ (n - i) _ (HSRC.out W5 bt).2 (frsC_one _) (by omega) hs
              refine walkV_bt rfl (fun K hK => ⟨rfl, gives_append2 (.tmp 41) (.tmp 44) _ rfl rfl rfl rfl hr6 (hK _ _ ?_)⟩)
              clear hr6 o5
              replace bt := bt.trans hb6
              clear hb6
              iterate 1 (refine walkV_rd rfl (fun K hK => ?_); go_simp; refine hK _ ?_; clear hK K)
              refine walkV_nil ?_
              have HFR := hid (HFIN.out g6 c6 W6 o6 bt)
              clear o6 bt hs HFIN HSRC
              go_wp2
              all_goals (go_ret; exact HFR.out)
            · skip
              go_simp
              refine hK _ _ ((Below.refl _ _).alloc hs _) ?_
              clear hK K
              have kN := Blk.new W [Value.int .i64 n1, Value.int .i64 d1].toArray 31
              have hb := alloc_below W (.cells [Value.int .i64 n1, Value.int .i64 d1].toArray 31)
              have hne : W.heap.size ≠ gE := Nat.ne_of_gt kE.lt
              generalize W.heap.size = gN at kN hne ⊢
              generalize W.alloc (.cells #[Value.int .i64 n1, Value.int .i64 d1] 31) = W at kN hb ⊢
              replace kE := kE.below hb
              replace bt := bt.trans (hb.mono hs)
              replace hs := Nat.le_trans hs hb.size
              clear hb
              refine walkV_mv rfl (fun K hK => ?_)
              obtain ⟨g4, c4, W4, hr4, o4, hb4, hk4⟩ := appQ W B (owns_empty 2 kE hge) _ i _ (HSRC.out W bt).1 (frsC_one _) (by omega) hs
              refine ⟨rfl, gives_append2 (.tmp 34) (.tmp 37) _ rfl rfl rfl rfl hr4 (hK _ _ hb4 ?_)⟩
              clear hr4 hK K
              rw [List.nil_append, Nat.zero_add] at o4
              rw [Nat.zero_add]
              replace bt := bt.trans hb4
              replace hs := Nat.le_trans hs hb4.size
              replace kN := hk4 _ _ _ kN hne
              clear hb4 hk4 kE hne
              generalize W4 = W at *
              obtain ⟨g5, c5, W5, hr5, o5, hb5, -⟩ := appQ W B o4 (.slice (some ⟨gN, 0, none⟩) 1 1) 1 [Value.int .i64 n1, Value.int .i64 d1] (.inr ⟨⟨gN, 0, none⟩, 1, rfl, rfl, cells_news kN⟩) (by simp [Value.oneCell']) (by omega) hs
              refine walkV_mv rfl (fun K hK => ⟨rfl, gives_append2 (.tmp 38) (.tmp 40) _ rfl rfl rfl rfl hr5 (hK _ _ hb5 ?_)⟩)
              clear hr5 o4
              replace bt := bt.trans hb5
              replace hs := Nat.le_trans hs hb5.size
              clear hb5 kN
              obtain ⟨g6, c6, W6, hr6, o6, hb6, -⟩ := appQ W5 B o5 _ (n - i) _ (HSRC.out W5 bt).2 (frsC_one _) (by omega) hs
              refine walkV_bt rfl (fun K hK => ⟨rfl, gives_append2 (.tmp 41) (.tmp 44) _ rfl rfl rfl rfl hr6 (hK _ _ ?_)⟩)
              clear hr6 o5
              replace bt := bt.trans hb6
              clear hb6
              iterate 1 (refine walkV_rd rfl (fun K hK => ?_); go_simp; refine hK _ ?_; clear hK K)
              refine walkV_nil ?_
              have HFR := hid (HFIN.out g6 c6 W6 o6 bt)
              clear o6 bt hs HFIN HSRC
              go_wp2
              all_goals (go_ret; exact HFR.out)
          · skip
            go_simp
            refine hK _ _ ((Below.refl _ _).alloc hs _) ?_
            clear hK K
            have kN := Blk.new W [Value.int .i64 n1, Value.int .i64 d1].toArray 31
            have hb := alloc_below W (.cells [Value.int .i64 n1, Value.int .i64 d1].toArray 31)
            generalize W.heap.size = gN at kN ⊢
            generalize W.alloc (.cells #[Value.int .i64 n1, Value.int .i64 d1] 31) = W at kN hb ⊢
            replace bt := bt.trans (hb.mono hs)
            replace hs := Nat.le_trans hs hb.size
            clear hb
            refine walkV_mv rfl (fun K hK => ?_)
            go_simp
            refine hK _ _ ((Below.refl _ _).alloc hs _) ?_
            clear hK K
            have kE := Blk.new W #[] 31
            have hb := alloc_below W (.cells #[] 31)
            have hge := hs
            have hne : gN ≠ W.heap.size := Nat.ne_of_lt kN.lt
            generalize W.heap.size = gE at kE hge hne ⊢
            generalize W.alloc (.cells #[] 31) = W at kE hb ⊢
            replace kN := kN.below hb
            replace bt := bt.trans (hb.mono hs)
            replace hs := Nat.le_trans hs hb.size
            clear hb
            refine walkV_mv rfl (fun K hK => ?_)
            obtain ⟨g4, c4, W4, hr4, o4, hb4, hk4⟩ := appQ W B (owns_empty 2 kE hge) _ i _ (HSRC.out W bt).1 (frsC_one _) (by omega) hs
            refine ⟨rfl, gives_append2 (.tmp 34) (.tmp 37) _ rfl rfl rfl rfl hr4 (hK _ _ hb4 ?_)⟩
            clear hr4 hK K
            rw [List.nil_append, Nat.zero_add] at o4
            rw [Nat.zero_add]
            replace bt := bt.trans hb4
            replace hs := Nat.le_trans hs hb4.size
            replace kN := hk4 _ _ _ kN hne
            clear hb4 hk4 kE hne
            generalize W4 = W at *
            obtain ⟨g5, c5, W5, hr5, o5, hb5, -⟩ := appQ W B o4 (.slice (some ⟨gN, 0, none⟩) 1 1) 1 [Value.int .i64 n1, Value.int .i64 d1] (.inr ⟨⟨gN, 0, none⟩, 1, rfl, rfl, cells_news kN⟩) (by simp [Value.oneCell']) (by omega) hs
            refine walkV_mv rfl (fun K hK => ⟨rfl, gives_append2 (.tmp 38) (.tmp 40) _ rfl rfl rfl rfl hr5 (hK _ _ hb5 ?_)⟩)
            clear hr5 o4
            replace bt := bt.trans hb5
            replace hs := Nat.le_trans hs hb5.size
            clear hb5 kN
            obtain ⟨g6, c6, W6, hr6, o6, hb6, -⟩ := appQ W5 B o5 _ (n - i) _ (HSRC.out W5 bt).2 (frsC_one _) (by omega) hs
            refine walkV_bt rfl (fun K hK => ⟨rfl, gives_append2 (.tmp 41) (.tmp 44) _ rfl rfl rfl rfl hr6 (hK _ _ ?_)⟩)
            clear hr6 o5
            replace bt := bt.trans hb6
            clear hb6
            iterate 1 (refine walkV_rd rfl (fun K hK => ?_); go_simp; refine hK _ ?_; clear hK K)
            refine walkV_nil ?_
            have HFR := hid (HFIN.out g6 c6 W6 o6 bt)
            clear o6 bt hs HFIN HSRC
            go_wp2
            all_goals (go_ret; exact HFR.out)
        · have hmn' := hmn.symm
          subst hmn'
          go_wp2_with fail
          refine wp_walkJ (T := Below (w2.heap.size)) (belowV_pre _) (.rd 0 (.rd 1 (.rd 2 (.rd 3 (.rd 4 (.rd 5 (.rd 6 (.rd 7 (.rd 8 (.rd 9 (.rd 10 (.rd 11 (.inv []))))))))))))) (by kernel_rfl) rfl (by kernel_rfl) (by kernel_rfl) ?_
          iterate 12 (refine walkJ_rd rfl (fun K hK => ?_); go_simp; refine hK _ ?_; clear hK K)
          refine walkJ_nil ?_
          have hbc := hbd.trans (hd4.mono hbd.size)
          have HXc := HXc0
          obtain ⟨Wc, hWc⟩ : ∃ W, w2.drew = W := ⟨_, rfl⟩
          rw [hWc] at hbc HXc ⊢
          clear hWc hd4 hbd HXc0 z0 z1 z2 z3 HX2
          have hic : (i : Int) ≤ (cap : Int) := by omega
          have hin' : (i : Int) ≤ (n : Int) := by omega
          have hi0' : 0 ≤ (i : Int) := by omega
          have SRC : Hid (∀ V, Below Wc.heap.size Wc V → SrcQ V (.slice (some ⟨b, off, none⟩) i cap) i (frsC (l.take i)) ∧ SrcQ V (.slice (if cap = i then (some ⟨b, off, none⟩ : Option Addr) else some ⟨b, off + i * 2, none⟩) (n - i) (cap - i)) (n - i) (frsC (l.drop i))) := hid (fun V hV => by
            have hx := q_src (i := i) (CellsOf.below HCC.out (hbc.trans (hV.mono hbc.size))) (by rw [HN.out]; exact hi)
            have l1 : (frsC (l.take i)).length = i * 2 := by rw [frsC_len, List.length_take, HN.out]; omega
            have l2 : (frsC (l.drop i)).length = (n - i) * 2 := by rw [frsC_len, List.length_drop, HN.out]
            refine ⟨.inr ⟨_, _, rfl, l1, hx.1⟩, ?_⟩
            by_cases hci : cap = i
            · rw [if_pos hci]
              refine .inr ⟨_, _, rfl, l2, fun j u hu => ?_⟩
              have := (List.getElem?_eq_some_iff.1 hu).1
              omega
            · rw [if_neg hci]
              exact .inr ⟨_, _, rfl, l2, hx.2⟩)
          have hdd := (Below.refl Wc.heap.size Wc).drew
          have zz0 := fun y : SubT (Below Wc.heap.size) Wc.drew => (HXc.out.below (hdd.trans y.b)).look 0 rfl
          have zz1 := fun y : SubT (Below Wc.heap.size) Wc.drew => (HXc.out.below (hdd.trans y.b)).look 1 rfl
          have HFIN : Hid (∀ g c W, W.ownsRow Wc.heap.size 31 2 (.slice (some ⟨g, 0, none⟩) (i + 1 + (n - i)) c) (i + 1 + (n - i)) ((frsC (l.take i) ++ [Value.int .i64 n1, Value.int .i64 d1]) ++ frsC (l.drop i)) → Below Wc.heap.size Wc W → (∃ v', Ending.returned (.slice (some ⟨g, 0, none⟩) (i + 1 + (n - i)) c) = Ending.returned v' ∧ QsR lo W v' (putL l x)) ∧ Below w.heap.size w W) := hid (fun g c W ho hb => by
            refine ⟨⟨_, rfl, ?_⟩, hbc.trans (hb.mono hbc.size)⟩
            have h := SlR.mono (SlR.of_owns ho) (show lo ≤ Wc.heap.size from Nat.le_trans hlo hbc.size)
            have e : frsC (putL l x) = (frsC (l.take i) ++ [Value.int .i64 n1, Value.int .i64 d1]) ++ frsC (l.drop i) := by
              rw [HPUT.out, frsC_append, frsC_append, HFX.out, List.append_assoc]
            have e2 : (putL l x).length = i + 1 + (n - i) := by
              rw [HPUT.out, List.length_append, List.length_append, List.length_take, List.length_drop, HN.out]
              simp <;> omega
            unfold QsR
            rw [e, e2]
            exact h)
          go_wp2_with fail
          refine wp_walkV (T := Below (Wc.heap.size)) (belowV_pre _) (.rd 1 (.rd 2 (.rd 3 (.rd 5 (.rd 8 (.rd 9 (.rd 10 (.two 0 (.two 4 (.mv 6 (.mv 7 (.bt 11 (.rd 12 .nil)))) 6 (.mv 4 (.mv 7 (.bt 11 (.rd 12 .nil))))) 6 (.mv 0 (.mv 4 (.mv 7 (.bt 11 (.rd 12 .nil))))))))))))) (by kernel_rfl) rfl rfl (by kernel_rfl) (by kernel_rfl) ?_
          iterate 7 (refine walkV_rd rfl (fun K hK => ?_); go_simp; refine hK _ ?_; clear hK K)
          clear zz0 zz1
          obtain ⟨W, hW⟩ : ∃ W, Wc.drew = W := ⟨_, rfl⟩
          obtain ⟨B, hB⟩ : ∃ B, Wc.heap.size = B := ⟨_, rfl⟩
          have hs : B ≤ W.heap.size := by rw [← hW, ← hB]; exact Nat.le_refl _
          rw [hW, hB] at hdd
          rw [hB] at HFIN
          have bt := hdd
          rw [hW, hB]
          have HSRC := SRC
          rw [hB] at HSRC
          clear hW hB hdd
          refine walkV_two rfl rfl (fun K hK => ?_) (fun K hK => ?_)
          · skip
            go_simp
            refine hK _ _ ((Below.refl _ _).alloc hs _) ?_
            clear hK K
            have kE := Blk.new W #[] 31
            have hb := alloc_below W (.cells #[] 31)
            have hge := hs
            generalize W.heap.size = gE at kE hge ⊢
            generalize W.alloc (.cells #[] 31) = W at kE hb ⊢
            replace bt := bt.trans (hb.mono hs)
            replace hs := Nat.le_trans hs hb.size
            clear hb
            refine walkV_two rfl rfl (fun K hK => ?_) (fun K hK => ?_)
            · skip
              obtain ⟨g4, c4, W4, hr4, o4, hb4, hk4⟩ := appQ W B (owns_empty 2 kE hge) _ i _ (HSRC.out W bt).1 (frsC_one _) (by omega) hs
              refine ⟨rfl, gives_append2 (.tmp 34) (.tmp 37) _ rfl rfl rfl rfl hr4 (hK _ _ hb4 ?_)⟩
              clear hr4 hK K
              rw [List.nil_append, Nat.zero_add] at o4
              rw [Nat.zero_add]
              replace bt := bt.trans hb4
              replace hs := Nat.le_trans hs hb4.size
              clear hb4 hk4 kE
              generalize W4 = W at *
              refine walkV_mv rfl (fun K hK => ?_)
              go_simp
              refine hK _ _ ((Below.refl _ _).alloc hs _) ?_
              clear hK K
              have kN := Blk.new W [Value.int .i64 n1, Value.int .i64 d1].toArray 31
              have hb := alloc_below W (.cells [Value.int .i64 n1, Value.int .i64 d1].toArray 31)
              generalize W.heap.size = gN at kN ⊢
              generalize W.alloc (.cells #[Value.int .i64 n1, Value.int .i64 d1] 31) = W at kN hb ⊢
              replace o4 := owns_below o4 hb
              replace bt := bt.trans (hb.mono hs)
              replace hs := Nat.le_trans hs hb.size
              clear hb
              obtain ⟨g5, c5, W5, hr5, o5, hb5, -⟩ := appQ W B o4 (.slice (some ⟨gN, 0, none⟩) 1 1) 1 [Value.int .i64 n1, Value.int .i64 d1] (.inr ⟨⟨gN, 0, none⟩, 1, rfl, rfl, cells_news kN⟩) (by simp [Value.oneCell']) (by omega) hs
              refine walkV_mv rfl (fun K hK => ⟨rfl, gives_append2 (.tmp 38) (.tmp 40) _ rfl rfl rfl rfl hr5 (hK _ _ hb5 ?_)⟩)
              clear hr5 o4
              replace bt := bt.trans hb5
              replace hs := Nat.le_trans hs hb5.size
              clear hb5 kN
              obtain ⟨g6, c6, W6, hr6, o6, hb6, -⟩ := appQ W5 B o5 _ (n - i) _ (HSRC.out W5 bt).2 (frsC_one _) (by omega) hs
              refine walkV_bt rfl (fun K hK => ⟨rfl, gives_append2 (.tmp 41) (.tmp 44) _ rfl rfl rfl rfl hr6 (hK _ _ ?_)⟩)
              clear hr6 o5
              replace bt := bt.trans hb6
              clear hb6
              iterate 1 (refine walkV_rd rfl (fun K hK => ?_); go_simp; refine hK _ ?_; clear hK K)
              refine walkV_nil ?_
              have HFR := hid (HFIN.out g6 c6 W6 o6 bt)
              clear o6 bt hs HFIN HSRC
              go_wp2
              all_goals (go_ret; exact HFR.out)
            · skip
              go_simp
              refine hK _ _ ((Below.refl _ _).alloc hs _) ?_
              clear hK K
              have kN := Blk.new W [Value.int .i64 n1, Value.int .i64 d1].toArray 31
              have hb := alloc_below W (.cells [Value.int .i64 n1, Value.int .i64 d1].toArray 31)
              have hne : W.heap.size ≠ gE := Nat.ne_of_gt kE.lt
              generalize W.heap.size = gN at kN hne ⊢
              generalize W.alloc (.cells #[Value.int .i64 n1, Value.int .i64 d1] 31) = W at kN hb ⊢
              replace kE := kE.below hb
              replace bt := bt.trans (hb.mono hs)
              replace hs := Nat.le_trans hs hb.size
              clear hb
              refine walkV_mv rfl (fun K hK => ?_)
              obtain ⟨g4, c4, W4, hr4, o4, hb4, hk4⟩ := appQ W B (owns_empty 2 kE hge) _ i _ (HSRC.out W bt).1 (frsC_one _) (by omega) hs
              refine ⟨rfl, gives_append2 (.tmp 34) (.tmp 37) _ rfl rfl rfl rfl hr4 (hK _ _ hb4 ?_)⟩
              clear hr4 hK K
              rw [List.nil_append, Nat.zero_add] at o4
              rw [Nat.zero_add]
              replace bt := bt.trans hb4
              replace hs := Nat.le_trans hs hb4.size
              replace kN := hk4 _ _ _ kN hne
              clear hb4 hk4 kE hne
              generalize W4 = W at *
              obtain ⟨g5, c5, W5, hr5, o5, hb5, -⟩ := appQ W B o4 (.slice (some ⟨gN, 0, none⟩) 1 1) 1 [Value.int .i64 n1, Value.int .i64 d1] (.inr ⟨⟨gN, 0, none⟩, 1, rfl, rfl, cells_news kN⟩) (by simp [Value.oneCell']) (by omega) hs
              refine walkV_mv rfl (fun K hK => ⟨rfl, gives_append2 (.tmp 38) (.tmp 40) _ rfl rfl rfl rfl hr5 (hK _ _ hb5 ?_)⟩)
              clear hr5 o4
              replace bt := bt.trans hb5
              replace hs := Nat.le_trans hs hb5.size
              clear hb5 kN
              obtain ⟨g6, c6, W6, hr6, o6, hb6, -⟩ := appQ W5 B o5 _ (n - i) _ (HSRC.out W5 bt).2 (frsC_one _) (by omega) hs
              refine walkV_bt rfl (fun K hK => ⟨rfl, gives_append2 (.tmp 41) (.tmp 44) _ rfl rfl rfl rfl hr6 (hK _ _ ?_)⟩)
              clear hr6 o5
              replace bt := bt.trans hb6
              clear hb6
              iterate 1 (refine walkV_rd rfl (fun K hK => ?_); go_simp; refine hK _ ?_; clear hK K)
              refine walkV_nil ?_
              have HFR := hid (HFIN.out g6 c6 W6 o6 bt)
              clear o6 bt hs HFIN HSRC
              go_wp2
              all_goals (go_ret; exact HFR.out)
          · skip
            go_simp
            refine hK _ _ ((Below.refl _ _).alloc hs _) ?_
            clear hK K
            have kN := Blk.new W [Value.int .i64 n1, Value.int .i64 d1].toArray 31
            have hb := alloc_below W (.cells [Value.int .i64 n1, Value.int .i64 d1].toArray 31)
            generalize W.heap.size = gN at kN ⊢
            generalize W.alloc (.cells #[Value.int .i64 n1, Value.int .i64 d1] 31) = W at kN hb ⊢
            replace bt := bt.trans (hb.mono hs)
            replace hs := Nat.le_trans hs hb.size
            clear hb
            refine walkV_mv rfl (fun K hK => ?_)
            go_simp
            refine hK _ _ ((Below.refl _ _).alloc hs _) ?_
            clear hK K
            have kE := Blk.new W #[] 31
            have hb := alloc_below W (.cells #[] 31)
            have hge := hs
            have hne : gN ≠ W.heap.size := Nat.ne_of_lt kN.lt
            generalize W.heap.size = gE at kE hge hne ⊢
            generalize W.alloc (.cells #[] 31) = W at kE hb ⊢
            replace kN := kN.below hb
            replace bt := bt.trans (hb.mono hs)
            replace hs := Nat.le_trans hs hb.size
            clear hb
            refine walkV_mv rfl (fun K hK => ?_)
            obtain ⟨g4, c4, W4, hr4, o4, hb4, hk4⟩ := appQ W B (owns_empty 2 kE hge) _ i _ (HSRC.out W bt).1 (frsC_one _) (by omega) hs
            refine ⟨rfl, gives_append2 (.tmp 34) (.tmp 37) _ rfl rfl rfl rfl hr4 (hK _ _ hb4 ?_)⟩
            clear hr4 hK K
            rw [List.nil_append, Nat.zero_add] at o4
            rw [Nat.zero_add]
            replace bt := bt.trans hb4
            replace hs := Nat.le_trans hs hb4.size
            replace kN := hk4 _ _ _ kN hne
            clear hb4 hk4 kE hne
            generalize W4 = W at *
            obtain ⟨g5, c5, W5, hr5, o5, hb5, -⟩ := appQ W B o4 (.slice (some ⟨gN, 0, none⟩) 1 1) 1 [Value.int .i64 n1, Value.int .i64 d1] (.inr ⟨⟨gN, 0, none⟩, 1, rfl, rfl, cells_news kN⟩) (by simp [Value.oneCell']) (by omega) hs
            refine walkV_mv rfl (fun K hK => ⟨rfl, gives_append2 (.tmp 38) (.tmp 40) _ rfl rfl rfl rfl hr5 (hK _ _ hb5 ?_)⟩)
            clear hr5 o4
            replace bt := bt.trans hb5
            replace hs := Nat.le_trans hs hb5.size
            clear hb5 kN
            obtain ⟨g6, c6, W6, hr6, o6, hb6, -⟩ := appQ W5 B o5 _ (n - i) _ (HSRC.out W5 bt).2 (frsC_one _) (by omega) hs
            refine walkV_bt rfl (fun K hK => ⟨rfl, gives_append2 (.tmp 41) (.tmp 44) _ rfl rfl rfl rfl hr6 (hK _ _ ?_)⟩)
            clear hr6 o5
            replace bt := bt.trans hb6
            clear hb6
            iterate 1 (refine walkV_rd rfl (fun K hK => ?_); go_simp; refine hK _ ?_; clear hK K)
            refine walkV_nil ?_
            have HFR := hid (HFIN.out g6 c6 W6 o6 bt)
            clear o6 bt hs HFIN HSRC
            go_wp2
            all_goals (go_ret; exact HFR.out)

end Go.Proofs.YtfkclcoipadhmaaGreatDoor
