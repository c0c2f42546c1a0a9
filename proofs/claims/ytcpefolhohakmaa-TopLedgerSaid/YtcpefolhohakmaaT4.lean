/- Walks of the disk: Append, Read, Fuse, Crash, NewDisk. -/
import Derived.Test.YtcpefolhohakmaaT3
namespace Go.Proofs.Ytcpefolhohakmaa
open Go.RowKit
attribute [local irreducible] seqS seqST walkV walkJ

theorem appV (w : World) (B : Nat) {v : Value} {n : Nat} {xs : List Value} (hown : w.ownsRow B 5 1 v n xs) {v2 : Value} {b : Bts} (hv : BsR w v2 b) (hsmall : n + b.length ≤ 1000000000) (hB : B ≤ w.heap.size) (ty : TypeId) :
    ∃ v' w', (Builtin.append_ #[48, 48] ty #[v, v2]).run Try.prog w = .ok v' w' ∧ w'.ownsRow B 5 1 v' (n + b.length) (xs ++ u8V b) ∧ GrwO w w' v v' := by
  obtain ⟨ao, cp, rfl, -, -, hc⟩ := hv
  cases ao with
  | none =>
    have hb : b = [] := by
      apply Decidable.byContradiction
      intro hne
      obtain ⟨g2, off, h0, _⟩ := hc (by unfold u8V; simpa using hne)
      cases h0
    subst hb
    obtain ⟨i, hi0, -, -, -⟩ := info_parts infoU8
    obtain ⟨a, cap, rfl, hnc⟩ : ∃ a cap, v = .slice a n cap ∧ n ≤ cap := by
      obtain ⟨-, ⟨rfl, rfl⟩ | ⟨g', cap', cur, rfl, -, -, h1, -⟩⟩ := hown
      · exact ⟨_, _, rfl, Nat.le_refl _⟩
      · exact ⟨_, _, rfl, h1⟩
    exact ⟨_, w, run_append_nothing w 48 48 ty 5 i Try.underlying48 hi0 a n cap hnc _ (Src.ofNil w Try.underlying48 cp), by simpa [u8V] using hown, GrwO.refl _ _⟩
  | some ad =>
    have hcell : ∀ j u, (u8V b)[j]? = some u → w.cell? (ad.add j) = some u := by
      intro j u hj
      have hjl := (List.getElem?_eq_some_iff.1 hj).1
      obtain ⟨g2, off, h0, _, _, h3⟩ := hc (by intro e; rw [e] at hjl; simp at hjl)
      cases h0
      have := h3 j hjl
      rw [List.getD_eq_getElem?_getD, hj] at this
      simpa [Addr.add_lit] using this
    obtain ⟨i, hi0, hz, hsize, hby⟩ := info_parts infoU8
    obtain ⟨v', w', hr, h2, h3, -, h5⟩ := run_append_own_at (P := Try.prog) w B 48 ty 5 i (.int .u8 0) 1 1 Try.underlying48 hi0 hz hsize hby rfl (by decide) v n xs hown ad b.length cp (u8V b) (by rw [u8V_len]; omega) hcell (u8V_one b) (by unfold maxLen; omega) (by omega) hB
    exact ⟨v', w', hr, h2, ⟨h3, h5.imp id (fun e => ⟨_, e, Nat.le_refl _⟩)⟩⟩
theorem wpList_appV {w : World} {ops : Array Oper} {rest : List Oper} {o : Oper} {a : Act} {Q : Exit → Act → World → Prop} (hgd : o.guard = none) (s x : Operand) (ho : o.op = .call { callee := .builtin .append, args := #[s, x], argTypes := #[48, 48] })
    (B : Nat) {v : Value} {n : Nat} {xs : List Value} (hs : a.eval s = v) (hown : w.ownsRow B 5 1 v n xs) {v2 : Value} {b : Bts} (hx : a.eval x = v2) (hv : BsR w v2 b) (hsmall : n + b.length ≤ 1000000000) (hB : B ≤ w.heap.size)
    (hk : ∀ v' w', w'.ownsRow B 5 1 v' (n + b.length) (xs ++ u8V b) → GrwO w w' v v' → wpList Try.prog ops Q rest (a.put o.dst v') w') : wpList Try.prog ops Q (o :: rest) a w := by
  refine wpList_plain hgd fun K hK => ?_
  obtain ⟨v', w', hr, h1, h2⟩ := appV w B hown hv hsmall hB o.type
  unfold Oper.wp execOp
  simp only [ho, resolve, invoke, builtin, Sem.run_bind, Sem.run_pure, Result.andThen_ok, List.map_toArray, List.map_cons, List.map_nil, hs, hx, hr]
  exact hK _ _ (hk v' w' h1 h2)
theorem updN_self {α : Type} (f : Nat → α) (n : Nat) : updN f n (f n) = f := by
  funext i
  unfold updN
  split
  · rename_i h; rw [h]
  · rfl
/-- What an append to an area's row does to a disk. -/
theorem DkR.app {w w3 : World} {gd : Nat} {v : Nat → Value} {d : Dk} (h : DkR w gd v d) {n : Nat} (hn : n < 2) {x : Bts} {v3 : Value} {L : Nat} (hL : (d.b n).length = L) (hl : L + x.length ≤ d.most)
    (ho : w3.ownsRow 0 5 1 v3 (L + x.length) (u8V (d.b n) ++ u8V x)) (hg : GrwO w w3 (v n) v3) : DkR (w3.setCell ⟨gd, 3 + n * 2, none⟩ v3) gd (updN v n v3) { d with b := updN d.b n (d.b n ++ x) } ∧ DkG w (w3.setCell ⟨gd, 3 + n * 2, none⟩ v3) gd v (updN v n v3) := by
  have hne : ∀ j, (v n).ownBlock = some j → j ≠ gd := owns_blk_neT (h.own n hn) h.blk (by decide)
  have kD3 : Blk w3 gd (dkC v d) 89 := (hg.g.block gd h.blk.lt (fun e => hne gd e.symm rfl)).trans h.blk
  have hne3 : ∀ j, v3.ownBlock = some j → j ≠ gd := owns_blk_neT ho kD3 (by decide)
  have hk1 : Keep (fun b => b ≠ gd ∧ (v n).ownBlock ≠ some b) w w3 := hg.keep (fun g e hh => hh.2 e)
  have hk2 : Keep (fun b => b ≠ gd ∧ (v n).ownBlock ≠ some b) w (w3.setCell ⟨gd, 3 + n * 2, none⟩ v3) := hk1.trans (Keep.set _ (fun h => h.1 rfl) _)
  have hs : Keep (· ≠ gd) w3 (w3.setCell ⟨gd, 3 + n * 2, none⟩ v3) := Keep.set _ (fun h => h rfl) _
  have hb := kD3.set (3 + n * 2) v3
  refine ⟨?_, ⟨hk2.mono (fun b _ hb => ⟨fun e => hb (.inl e), fun e => hb ?_⟩), fun b hb => ?_⟩⟩
  · have := h.setV (n := n) (k := d.s n) (x := v3) (b' := d.b n ++ x) hn hk2 (fun c c' _ e => by
        have : ((dkC v d).setIfInBounds (3 + n * 2) v3).setIfInBounds (3 + n * 2 + 1) (.int .i64 (d.s n : Int)) = (dkC v d).setIfInBounds (3 + n * 2) v3 := by
          obtain rfl | rfl : n = 0 ∨ n = 1 := by omega
          · rfl
          · rfl
        rw [this]; exact hb) (by
        have := hs.owns ho hne3
        rw [u8V_append, List.length_append, hL]; exact this) (fun i hi hin g hg1 hg2 => by
        rcases hg.o with e | ⟨g2, e, e2⟩
        · rw [e] at hg1
          obtain ⟨rfl, rfl⟩ | ⟨rfl, rfl⟩ : (i = 0 ∧ n = 1) ∨ (i = 1 ∧ n = 0) := by omega
          · exact h.ne g hg2 hg1
          · exact h.ne g hg1 hg2
        · rw [e] at hg1
          cases hg1
          have := ((h.own i hi).lt g hg2).2
          omega) (by rw [List.length_append]; exact Nat.le_trans (h.safe n hn) (Nat.le_add_right _ _)) (by rw [List.length_append, hL]; exact hl)
    rw [updN_self] at this
    exact this
  · obtain rfl | rfl : n = 0 ∨ n = 1 := by omega
    · exact .inr (.inl e)
    · exact .inr (.inr e)
  · have hx : v3.ownBlock = some b → DS gd v b ∨ w.heap.size ≤ b := fun e => by
      rcases hg.o with h1 | ⟨g2, h1, h2⟩
      · left
        rw [h1] at e
        obtain rfl | rfl : n = 0 ∨ n = 1 := by omega
        · exact .inr (.inl e)
        · exact .inr (.inr e)
      · rw [h1] at e; cases e; exact .inr h2
    rcases hb with e | e | e
    · exact .inl (.inl e)
    · unfold updN at e
      split at e
      · exact hx e
      · exact .inl (.inr (.inl e))
    · unfold updN at e
      split at e
      · exact hx e
      · exact .inl (.inr (.inr e))
theorem dk_cV {w : World} {gd : Nat} {v : Nat → Value} {d : Dk} {t : TypeId} (h : Blk w gd (dkC v d) t) (n : Nat) (hn : n < 2) : w.cell? ⟨gd, 3 + n * 2, none⟩ = some (v n) := by
  obtain rfl | rfl : n = 0 ∨ n = 1 := by omega
  · exact h.look 3 rfl
  · exact h.look 5 rfl
def fitD (d : Dk) (n : Nat) (x : Bts) : Bool := decide (x.length ≤ d.most - (d.b n).length)
def appD (n : Nat) (x : Bts) (d : Dk) : Dk := if fitD d n x then (if spB d then { spD d with b := updN (spD d).b n ((spD d).b n ++ x) } else spD d) else d
def appE (n : Nat) (x : Bts) (d : Dk) : Int := if fitD d n x then pwE (spB d) else 13

set_option maxHeartbeats 4000000 in
set_option maxRecDepth 100000 in
theorem Append_any (gd n : Nat) (v : Nat → Value) (d : Dk) (x : Bts) (vx : Value) (w : World) (h : DkR w gd v d) (hn : n < 2) (hx : SlS (fun g => g ≠ gd) w vx x.length (u8V x)) :
    Calls Try.prog 54 #[.pointer (some ⟨gd, 0, none⟩), .int .i64 (n : Int), vx] w fun r w' => r = .returned (.int .i64 (appE n x d)) ∧ (∃ v', DkR w' gd v' (appD n x d) ∧ DkG w w' gd v v') := by
  have AT := hid (at_any2 gd n v d w h hn)
  have HD := hid h
  obtain ⟨ax, cx, rfl, hcx, hmx, -⟩ := id hx
  unfold maxLen at hmx
  have HDF : Hid (appD n x d = if fitD d n x then (if spB d then { spD d with b := updN (spD d).b n ((spD d).b n ++ x) } else spD d) else d) := hid rfl
  have HEF : Hid (appE n x d = if fitD d n x then pwE (spB d) else 13) := hid rfl
  obtain ⟨rd, hrd⟩ : ∃ z, appD n x d = z := ⟨_, rfl⟩
  obtain ⟨re, hre⟩ : ∃ z, appE n x d = z := ⟨_, rfl⟩
  rw [hrd] at HDF ⊢
  rw [hre] at HEF ⊢
  have hmo := h.most
  have hle := h.len n hn
  have hft : fitD d n x = decide (x.length ≤ d.most - (d.b n).length) := rfl
  obtain ⟨ao, cap, hv, hcv, -⟩ := h.sl hn
  obtain ⟨L, hL⟩ : ∃ L, (d.b n).length = L := ⟨_, rfl⟩
  obtain ⟨X, hX⟩ : ∃ L, x.length = L := ⟨_, rfl⟩
  rw [hL] at hle hv hft hcv
  rw [hX] at hcx hft hx ⊢
  have HX := hid hx
  have HL := hid hL
  have HXL := hid hX
  have HV := hid hv
  clear hrd hre hx h hL hX hv
  go_enter Try.func54, Try.ntmps54
  go_wp2_with fail
  refine AT.out.mono ?_
  rintro r w1 ⟨rfl, rfl⟩
  clear AT
  go_wp2_with fail
  have zv := fun y : SubT (Below w.heap.size) w.drew => (HD.out.below ((Below.refl w.heap.size w).drew.trans y.b)).cV n hn
  have zm := fun y : SubT (Below w.heap.size) w.drew => (HD.out.below ((Below.refl w.heap.size w).drew.trans y.b)).cMost
  simp only [HV.out] at zv
  have hw1 : IntKind.i64.wrap ((d.most : Int) - (L : Int)) = (d.most : Int) - (L : Int) := by
    have := Go.Lib.wrap_i64_small (d.most - L) (by omega)
    rwa [show ((d.most - L : Nat) : Int) = (d.most : Int) - (L : Int) by omega] at this
  refine wp_walkJ (T := Below (w.heap.size)) (belowV_pre _) (.rd 0 (.rd 1 (.rd 2 (.rd 3 (.rd 4 (.rd 5 (.rd 6 (.rd 7 (.rd 8 (.rd 9 (.rd 10 (.rd 11 (.rd 12 (.rd 13 (.inv []))))))))))))))) (by kernel_rfl) rfl (by kernel_rfl) (by kernel_rfl) ?_
  iterate 14 (refine walkJ_rd rfl (fun K hK => ?_); go_simp; refine hK _ ?_; clear hK K)
  refine walkJ_nil ?_
  clear zv zm
  have hb := (Below.refl w.heap.size w).drew
  have HD1 := hid (HD.out.below hb)
  have HX1 := hid (SlS.keep HX.out (Keep.of_below (S := fun _ => True) hb) (fun _ _ _ => trivial))
  have HG1 : Hid (DkG w w.drew gd v v) := hid (DkG.of_below hb)
  clear hb HD HX
  generalize w.drew = w1 at HD1 HX1 HG1 ⊢
  by_cases hf : X ≤ d.most - L
  case neg =>
    have hf2 : (d.most : Int) - (L : Int) < (X : Int) := by omega
    rw [decide_eq_false hf] at hft
    have e1 : Hid (rd = d) := hid (by rw [HDF.out, hft, if_neg (by simp)])
    have e2 : Hid (re = 13) := hid (by rw [HEF.out, hft, if_neg (by simp)])
    clear HDF HEF hft hf
    go_wp2
    go_ret
    exact ⟨ret_int e2.out.symm, v, by rw [e1.out]; exact HD1.out, HG1.out⟩
  case pos =>
    have hf2 : ¬ (d.most : Int) - (L : Int) < (X : Int) := by omega
    rw [decide_eq_true hf] at hft
    have SP := hid (spend_any gd v d w1 HD1.out)
    have e1 : Hid (rd = if spB d then { spD d with b := updN (spD d).b n ((spD d).b n ++ x) } else spD d) := hid (by rw [HDF.out, hft, if_pos rfl])
    have e2 : Hid (re = pwE (spB d)) := hid (by rw [HEF.out, hft, if_pos rfl])
    obtain ⟨sb, hsb⟩ : ∃ z, spB d = z := ⟨_, rfl⟩
    rw [hsb] at SP e1 e2
    clear HDF HEF hft hsb
    cases sb with
    | false =>
      have e3 : Hid (rd = spD d) := hid (by rw [e1.out, if_neg (by simp)])
      go_wp2_with (go_at_call 80; refine SP.out.mono ?_; rintro r w2 ⟨rfl, hd2, hk2⟩)
      go_ret
      exact ⟨ret_int e2.out.symm, v, by rw [e3.out]; exact hd2, HG1.out.trans (DkG.of_own hk2)⟩
    | true =>
      have e3 : Hid (rd = { spD d with b := updN (spD d).b n ((spD d).b n ++ x) }) := hid (by rw [e1.out, if_pos rfl])
      obtain ⟨hb1, hb2, hb3⟩ := spD_b d
      have HB1 := hid hb1
      have HB2 := hid hb2
      have HB3 := hid hb3
      clear hb1 hb2 hb3 e1
      go_wp2_with fail
      refine SP.out.mono ?_
      rintro r w2 ⟨rfl, hd2, hk2⟩
      have HD2 := hid hd2
      have HG2 := hid (HG1.out.trans (DkG.of_own hk2))
      have xv := HD2.out.cV n hn
      rw [HV.out] at xv
      have hov := HD2.out.own n hn
      rw [HB1.out, HL.out, HV.out] at hov
      have HOV := hid hov
      have HX2 : Hid (BsR w2 (.slice ax X cx) x) := hid (by have h := (SlS.keep HX1.out hk2 (fun _ _ h => h)).sl; rw [← HXL.out] at h ⊢; exact h)
      clear hd2 hk2 hov SP
      go_wp2_with (at_builtin; refine wpList_appV rfl (.tmp 43) (.tmp 44) rfl 0 rfl HOV.out rfl HX2.out (by rw [HXL.out]; omega) (Nat.zero_le _) ?_; intro v3 w3 ho3 hg3; obtain ⟨a3, c3, rfl, -, -, -⟩ := SlR.of_owns ho3; have kD3 := (hg3.g.block gd HD2.out.blk.lt (fun e => owns_blk_neT HOV.out HD2.out.blk (by decide) gd e.symm rfl)).trans HD2.out.blk; have xv3 := dk_cV kD3 n hn; have fv3 := Blk.frozen kD3 (3 + n * 2); have lv3 := Blk.lt kD3)
      have hg4 : GrwO w2 w3 (v n) (.slice a3 (L + x.length) c3) := by rw [HV.out]; exact hg3
      have hfin := HD2.out.app hn (L := L) (x := x) (by rw [HB1.out]; exact HL.out) (by rw [HB3.out, HXL.out]; omega) (by rw [HB1.out]; exact ho3) hg4
      go_ret
      exact ⟨ret_int e2.out.symm, _, by rw [e3.out]; exact hfin.1, HG2.out.trans hfin.2⟩

end Go.Proofs.Ytcpefolhohakmaa
