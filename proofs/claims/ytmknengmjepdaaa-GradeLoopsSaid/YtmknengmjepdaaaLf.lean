/- Walk of tranklaw04.GradeLoops. -/
import Derived.Test.YtmknengmjepdaaaJx
import Derived.Test.YtmknengmjepdaaaUa
import Derived.Test.YtmknengmjepdaaaUb
import Derived.Test.YtmknengmjepdaaaVc
import Derived.Test.YtmknengmjepdaaaHa
namespace Go.Proofs.Ytmknengmjepdaaa
open Go.RowKit
attribute [local irreducible] seqS seqST

/-- The loop with its rules. -/
def cycE (p : Pat) (st : BSt) (v q : Nat) : List (Int × Rul) := (List.range q).map fun i => (st.by_ (parN p st v i), numRule p (st.by_ (parN p st v i)))
theorem cycE_vert {p : Pat} {n d : Int} {st : BSt} {v q : Nat} (h : Cycle p n d st v q) : ∀ i, i ≤ q → vert ((cycE p st v q).map (·.2)) v i = parN p st v i := by
  have hw : isWalk ((cycE p st v q).map (·.2)) v (parN p st v q) := by
    have := cycle_walk h.gain q
    unfold cycE
    rw [List.map_map]
    exact this
  intro i
  induction i with
  | zero => intro _; rw [vert_zero]; rfl
  | succ i ih =>
    intro hi
    have hg : (cycE p st v q)[i]? = some (st.by_ (parN p st v i), numRule p (st.by_ (parN p st v i))) := by
      unfold cycE
      rw [List.getElem?_map, List.getElem?_range (by omega)]
      rfl
    rw [(chain_at hw hg).2]
    rfl
theorem cyc_ok {p : Pat} {n d : Int} {st : BSt} {v q : Nat} (h : Cycle p n d st v q) : OkChain p (cycE p st v q) v v := by
  refine ⟨fun e he => ?_, ?_, fun i j hij hj => ?_⟩
  · unfold cycE at he
    obtain ⟨i, _, rfl⟩ := List.mem_map.1 he
    exact (gained_rule (h.gain i)).2.2
  · have := cycle_walk h.gain q
    rw [h.back] at this
    unfold cycE
    rw [List.map_map]
    exact this
  · have hq : (cycE p st v q).length = q := by unfold cycE; rw [List.length_map, List.length_range]
    rw [hq] at hj
    rw [cycE_vert h i (by omega), cycE_vert h j (by omega)]
    intro he
    have h1 : parN p st v (i + (q - j)) = v := by
      rw [parN_add, he, ← parN_add, show j + (q - j) = q by omega, h.back]
    exact h.first (i + (q - j)) (by omega) (by omega) h1
theorem wts_sum (n d : Int) (es : List (Int × Rul)) : wts n d (es.map (·.2)) = sumC es * d + sumD es * n := by
  induction es with
  | nil => simp [wts_nil, sumC, sumD]
  | cons e es ih =>
    rw [List.map_cons, wts_cons, ih]
    simp only [sumC, sumD, List.map_cons, List.sum_cons]
    unfold wt
    grind
theorem above_pos {c d n m : Int} (hm : 1 ≤ m) (h : 0 < c * m + d * n) : sgnQ ((c : Rat) + (d : Rat) * ((n : Rat) / (m : Rat))) = 1 := by
  have hm' : (0 : Rat) < (m : Rat) := Rat.intCast_pos.2 (by omega)
  have key : ((c : Rat) + (d : Rat) * ((n : Rat) / (m : Rat))) * (m : Rat) = ((c * m + d * n : Int) : Rat) := by
    push_cast
    grind
  obtain ⟨q, hq⟩ : ∃ q, (c : Rat) + (d : Rat) * ((n : Rat) / (m : Rat)) = q := ⟨_, rfl⟩
  rw [hq] at key ⊢
  have hpos : (0 : Rat) < ((c * m + d * n : Int) : Rat) := Rat.intCast_pos.2 h
  have hq0 : 0 < q := by
    apply Decidable.byContradiction
    intro hn
    have h1 : q ≤ 0 := Rat.not_lt.1 hn
    have h2 := Rat.mul_le_mul_of_nonneg_right h1 (Rat.le_of_lt hm')
    rw [key, Rat.zero_mul] at h2
    exact absurd hpos (Rat.not_lt.2 h2)
  unfold sgnQ
  rw [if_neg (Rat.not_lt.2 (Rat.le_of_lt hq0)), if_neg (fun e => by rw [e] at hq0; exact absurd hq0 (Rat.not_lt.2 (Rat.le_refl)))]

set_option maxHeartbeats 8000000 in
set_option maxRecDepth 100000 in
theorem GradeLoops_any (p : Pat) (n d : Int) (v : Value) (w : World) (h : PatF 0 w v p) :
    Calls Try.prog 5 #[v, .agg #[.int .i64 n, .int .i64 d]] w fun e w' => e = .returned (.bool true) ∧ Below w.heap.size w w' := by
  obtain ⟨sv, rfl, -⟩ := id h
  go_enter Try.func5, Try.ntmps5
  go_wp2_with fail
  obtain ⟨w0, hw0, k0, k1, hB, hsz⟩ := one_new w #[.int .i64 p.n, sv] #[.int .i64 n, .int .i64 d] 24 26
  rw [hw0]
  clear hw0
  have fin : Hid (∀ W, Below w0.heap.size w0 W → Below w.heap.size w W) := hid (fun W hb => hB.trans (hb.mono hB.size))
  have h0 := h.below hB
  obtain ⟨S, hS⟩ : ∃ S, w.heap.size = S := ⟨_, rfl⟩
  rw [hS] at k0 k1 hsz ⊢
  clear hS h hB
  have b1 : Below w0.heap.size w0 w0.drew := (Below.refl _ _).drew
  have z0 := fun x : Sub w0.drew => ((k0.below b1).below x.b).look 0 rfl
  have z1 := fun x : Sub w0.drew => ((k0.below b1).below x.b).look 1 rfl
  have z2 := fun x : Sub w0.drew => ((k1.below b1).below x.b).look 0 rfl
  have z3 := fun x : Sub w0.drew => ((k1.below b1).below x.b).look 1 rfl
  refine wp_seq [(0, false), (2, false), (1, true), (3, true), (4, false), (5, false), (6, false), (7, false), (8, false)] [(_, false), (_, false), (_, true), (_, true), (_, false), (_, false), (_, false), (_, false), (_, false)] (by kernel_rfl) rfl rfl (by kernel_rfl) ?_
  iterate 2 (refine seqS_read (fun K hK => ?_); go_simp; refine hK _ ?_; clear hK K)
  clear z0 z1 z2 z3
  (refine seqS_call (fun K hK => ?_); go_simp; refine (of_any p _ _ (h0.below b1)).mono ?_; rintro e w1 ⟨v1, rfl, hv1, hb1⟩; refine ⟨_, rfl, hK _ _ hb1 ?_⟩; clear hK K)
  have b2 := b1.trans (hb1.mono b1.size)
  refine seqS_call (fun K hK => ?_)
  go_simp
  refine (Loop_any (p71 p) n d _ _ (hv1.mono (Nat.zero_le _))).mono ?_
  rintro e w2 ⟨⟨vl, hcase⟩, hb2⟩
  have b3 := b2.trans (hb2.mono b2.size)
  have c0 := (k0.below b3).look 0 rfl
  have c1 := (k0.below b3).look 1 rfl
  have c2 := (k1.below b3).look 0 rfl
  have c3 := (k1.below b3).look 1 rfl
  rcases hcase with ⟨hno, rfl, rfl⟩ | ⟨hp, hs, hb, rfl, rfl⟩ | ⟨hp, hs, hb, rfl, st, u, q, hcy, hvl⟩
  · have hg : (decide (PValid p) && decide (FSize n d)) = false := by
      rcases p71_cases p with he | ⟨h1, _⟩
      · rw [he] at hno
        by_cases hp : PValid p
        · rw [decide_eq_false (fun hs => hno ⟨hp, hs⟩)]; simp
        · rw [decide_eq_false hp]; rfl
      · rw [decide_eq_false h1]; rfl
    have HG := hid hg
    refine ⟨_, rfl, hK _ _ hb2 ?_⟩
    clear hK K hno hg
    iterate 5 (refine seqS_read (fun K hK => ?_); go_simp; refine hK _ ?_; clear hK K)
    refine seqS_nil ?_
    go_wp2_with fail
    refine (Good_any p n d _ _ (h0.below b3)).mono ?_
    rintro e w3 ⟨rfl, hb3⟩
    rw [HG.out]
    have b4 := b3.trans (hb3.mono b3.size)
    clear c0 c1 c2 c3
    go_wp2_with fail
    refine (awake_any _).mono ?_
    rintro e w5 ⟨rfl, hb5⟩
    go_wp2
    go_ret
    exact ⟨rfl, fin.out _ (b4.trans (hb5.mono b4.size))⟩
  · have e71 : p71 p = p := (p71_cases p).resolve_right fun hh => hh.2 hp
    rw [e71] at hp hb
    have HP := hid hp
    have HS := hid hs
    have HB := hid hb
    have HG := hid (show (decide (PValid p) && decide (FSize n d)) = true by rw [decide_eq_true hp, decide_eq_true hs]; rfl)
    refine ⟨_, rfl, hK _ _ hb2 ?_⟩
    clear hK K hp hs hb e71
    iterate 5 (refine seqS_read (fun K hK => ?_); go_simp; refine hK _ ?_; clear hK K)
    refine seqS_nil ?_
    go_wp2_with fail
    refine (Good_any p n d _ _ (h0.below b3)).mono ?_
    rintro e w3 ⟨rfl, hb3⟩
    rw [HG.out]
    have b4 := b3.trans (hb3.mono b3.size)
    clear c0 c1 c2 c3
    have c0 := (k0.below b4).look 0 rfl
    have c1 := (k0.below b4).look 1 rfl
    have c2 := (k1.below b4).look 0 rfl
    have c3 := (k1.below b4).look 1 rfl
    go_wp2_with fail
    refine (Sound_any p n d _ _ (h0.below b4) HP.out HS.out).mono ?_
    rintro e w4 ⟨rfl, hb4⟩
    rw [HB.out]
    have b5 := b4.trans (hb4.mono b4.size)
    clear c0 c1 c2 c3
    go_wp2_with fail
    refine (awake_any _).mono ?_
    rintro e w5 ⟨rfl, hb5⟩
    go_wp2
    go_ret
    exact ⟨rfl, fin.out _ (b5.trans (hb5.mono b5.size))⟩
  · have e71 : p71 p = p := (p71_cases p).resolve_right fun hh => hh.2 hp
    rw [e71] at hp hb hcy hvl
    have HP := hid hp
    have HS := hid hs
    have HB := hid hb
    have HG := hid (show (decide (PValid p) && decide (FSize n d)) = true by rw [decide_eq_true hp, decide_eq_true hs]; rfl)
    have hlen : (cycE p st u q).length = q := by unfold cycE; rw [List.length_map, List.length_range]
    have hq16 : q ≤ 16 := by have := hcy.le; have := hp.2.1; omega
    have hmap : (cycE p st u q).map (·.1) = (List.range q).map fun i => st.by_ (parN p st u i) := by unfold cycE; rw [List.map_map]; rfl
    rw [← hmap] at hvl
    have hbd := sumcd_bd hp (cycE p st u q) (cyc_ok hcy).mem
    rw [hlen] at hbd
    have hpos : 0 < sumC (cycE p st u q) * d + sumD (cycE p st u q) * n := by
      rw [← wts_sum]
      have := hcy.wt
      unfold cycE
      rw [List.map_map]
      exact this
    have LP : Hid (∀ W, Below w2.heap.size w2 W → Calls Try.prog 33 #[.agg #[.int .i64 p.n, sv], vl] W fun e w' => e = .returned (.tuple #[.int .i64 (sumC (cycE p st u q)), .int .i64 (sumD (cycE p st u q)), .bool true]) ∧ Below W.heap.size W w') :=
      hid (fun W hb => rLoop_any p (cycE p st u q) u vl _ W ((h0.below b3).below hb) ((SlR.mono (SlR.below hvl hb) (Nat.zero_le _))) hp (cyc_ok hcy) (by rw [hlen]; exact hq16) (by rw [hlen]; exact hcy.pos))
    have AB : Hid (∀ W, Calls Try.prog 34 #[.int .i64 (sumC (cycE p st u q)), .int .i64 (sumD (cycE p st u q)), .agg #[.int .i64 n, .int .i64 d]] W fun e w' => e = .returned (.int .i64 1) ∧ Below W.heap.size W w') := hid (fun W => by
      have hfv := hs.1
      unfold FV at hfv
      have := above_any (sumC (cycE p st u q)) (sumD (cycE p st u q)) n d W (by omega) (by omega) (by omega) (by omega) (by omega)
      rw [above_pos hs.1.1 hpos] at this
      exact this)
    obtain ⟨sC, hsC⟩ : ∃ z, sumC (cycE p st u q) = z := ⟨_, rfl⟩
    obtain ⟨sD, hsD⟩ : ∃ z, sumD (cycE p st u q) = z := ⟨_, rfl⟩
    rw [hsC, hsD] at LP AB
    refine ⟨_, rfl, hK _ _ hb2 ?_⟩
    clear hK K hp hs hb e71 hcy hvl hlen hmap hbd hpos hsC hsD
    iterate 5 (refine seqS_read (fun K hK => ?_); go_simp; refine hK _ ?_; clear hK K)
    refine seqS_nil ?_
    go_wp2_with fail
    refine (Good_any p n d _ _ (h0.below b3)).mono ?_
    rintro e w3 ⟨rfl, hb3⟩
    rw [HG.out]
    have b4 := b3.trans (hb3.mono b3.size)
    clear c0 c1 c2 c3
    have c0 := (k0.below b4).look 0 rfl
    have c1 := (k0.below b4).look 1 rfl
    have c2 := (k1.below b4).look 0 rfl
    have c3 := (k1.below b4).look 1 rfl
    go_wp2_with fail
    refine (Sound_any p n d _ _ (h0.below b4) HP.out HS.out).mono ?_
    rintro e w4 ⟨rfl, hb4⟩
    rw [HB.out]
    have b5 := b4.trans (hb4.mono b4.size)
    clear c0 c1 c2 c3
    have c0 := (k0.below b5).look 0 rfl
    have c1 := (k0.below b5).look 1 rfl
    go_wp2_with fail
    refine (LP.out _ (hb3.trans (hb4.mono hb3.size))).mono ?_
    rintro e w5 ⟨rfl, hb5⟩
    have b6 := b5.trans (hb5.mono b5.size)
    clear c0 c1
    have c0 := (k1.below b6).look 0 rfl
    have c1 := (k1.below b6).look 1 rfl
    go_wp2_with fail
    refine (AB.out _).mono ?_
    rintro e w6 ⟨rfl, hb6⟩
    have b7 := b6.trans (hb6.mono b6.size)
    clear c0 c1
    go_wp2_with fail
    refine (awake_any _).mono ?_
    rintro e w7 ⟨rfl, hb7⟩
    go_wp2
    go_ret
    exact ⟨rfl, fin.out _ (b7.trans (hb7.mono b7.size))⟩

end Go.Proofs.Ytmknengmjepdaaa
