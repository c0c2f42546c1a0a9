/- Walk of curve.Isotone. -/
import Derived.Test.YtfkclcoipadhmaaDoorFr
import Derived.Test.YtfkclcoipadhmaaDoorQx
import Derived.Test.YtfkclcoipadhmaaDoorDh
import Derived.Test.YtfkclcoipadhmaaDoorRg
import Derived.WalkSmall
namespace Go.Proofs.YtfkclcoipadhmaaDoor
open Go.RowKit
attribute [local irreducible] seqS seqST walkV walkJ

/-- Slices of whole numbers. -/
def IntsR (lo : Nat) (w : World) (v : Value) (l : List Int) : Prop := SlR lo w v l.length (l.map fun z => .int .i64 z)
theorem IntsR.below {lo : Nat} {w w' : World} {v : Value} {l : List Int} (h : IntsR lo w v l) (hb : Below w.heap.size w w') : IntsR lo w' v l := SlR.below h hb
theorem int_cell {lo : Nat} {w : World} {ao : Option Addr} {l : List Int} (h : CellsOf lo w ao (l.map fun z => .int .i64 z)) {i : Nat} (hi : i < l.length) :
    ∃ b off, ao = some ⟨b, off, none⟩ ∧ b < w.heap.size ∧ w.cell? ⟨b, off + i, none⟩ = some (.int .i64 (l.getD i 0)) := by
  have hne : (l.map fun z => Value.int .i64 z) ≠ [] := by
    intro he
    have h9 := congrArg List.length he
    rw [List.length_map] at h9
    have h8 : l.length = 0 := h9
    omega
  obtain ⟨b, off, hao, -, hb, hx⟩ := h hne
  have h0 := hx i (by rw [List.length_map]; exact hi)
  refine ⟨b, off, hao, hb, h0.trans ?_⟩
  rw [List.getD_eq_getElem?_getD, List.getElem?_map, List.getD_eq_getElem?_getD, List.getElem?_eq_getElem hi]
  rfl
/-- The cells of blocks. -/
def bkC (b : Int × Int) : List Value := [.int .i64 b.1, .int .i64 b.2]
def bksC (l : List (Int × Int)) : List Value := l.flatMap bkC
theorem bksC_append (a b : List (Int × Int)) : bksC (a ++ b) = bksC a ++ bksC b := by unfold bksC; exact List.flatMap_append
theorem bksC_len (l : List (Int × Int)) : (bksC l).length = l.length * 2 := by
  induction l with
  | nil => rfl
  | cons a l ih => show ([_, _] ++ bksC l).length = _; rw [List.length_append, ih]; simp; omega
theorem bks_top (r : List (Int × Int)) (p : Int × Int) : bksC (p :: r).reverse = bksC r.reverse ++ [.int .i64 p.1, .int .i64 p.2] := by
  rw [List.reverse_cons, bksC_append]
  rfl
theorem good_len {S : Nat → Rat} : ∀ {st : List (Int × Int)} {e : Nat}, GoodB S st e → st.length ≤ e
  | [], e, _ => Nat.zero_le _
  | b :: r, e, ⟨s, hb, hr, _⟩ => by
    have := good_len hr
    have := hb.lt
    rw [List.length_cons]
    omega
theorem infoBlock : (Tryd.prog.info? 82).map (fun i => (i.zero, i.size, i.bytes)) = some (some (.agg #[.int .i64 0, .int .i64 0]), 2, 16) := by kernel_rfl
/-- The bounds of a block. -/
theorem blk_bd {l : List Int} {b : Int × Int} {s e : Nat} (h : BlockI (sumT l) b s e) (he : e ≤ 48) (hl : ∀ t, t < e → 0 ≤ l.getD t 0 ∧ l.getD t 0 ≤ 1000000) : 1 ≤ b.2 ∧ b.2 ≤ 48 ∧ 0 ≤ b.1 ∧ b.1 ≤ 48000000 := by
  have hS : ∀ t, t < e → 0 ≤ sumT l (t + 1) - sumT l t ∧ sumT l (t + 1) - sumT l t ≤ 1000000 := by
    intro t ht
    obtain ⟨h1, h2⟩ := hl t ht
    have e : sumT l (t + 1) - sumT l t = ((l.getD t 0 : Int) : Rat) := by
      show sumT l t + ((l.getD t 0 : Int) : Rat) - sumT l t = _
      grind
    rw [e]
    refine ⟨by exact_mod_cast h1, ?_⟩
    have e2 : (1000000 : Rat) = ((1000000 : Int) : Rat) := rfl
    rw [e2, Rat.intCast_le_intCast]
    exact h2
  have hb := sum_bd hS (s := s) e (Nat.le_of_lt h.lt) (Nat.le_refl _)
  rw [← h.sum, ← h.len] at hb
  have h3 : ((b.2 : Int) : Rat) = (((e : Int) - (s : Int) : Int) : Rat) := by rw [h.len, Rat.intCast_sub]; rfl
  have h4 : b.2 = (e : Int) - (s : Int) := by exact_mod_cast h3
  have h5 := h.lt
  have h6 : 0 ≤ b.1 := by
    have := hb.1
    exact_mod_cast this
  have h7 : b.1 ≤ 1000000 * b.2 := by
    have h8 := hb.2
    have e3 : (1000000 : Rat) * ((b.2 : Int) : Rat) = ((1000000 * b.2 : Int) : Rat) := by rw [Rat.intCast_mul]; rfl
    rw [e3, Rat.intCast_le_intCast] at h8
    exact h8
  exact ⟨by omega, by omega, h6, by omega⟩

theorem bksC_get : ∀ (l : List (Int × Int)) (i : Nat), i < l.length → (bksC l)[i * 2]? = some (.int .i64 (l.getD i (0, 0)).1) ∧ (bksC l)[i * 2 + 1]? = some (.int .i64 (l.getD i (0, 0)).2)
  | [], i, h => by cases h
  | a :: l, 0, _ => ⟨rfl, rfl⟩
  | a :: l, i + 1, h => by
    have := bksC_get l i (by simpa using h)
    have e1 : (i + 1) * 2 = i * 2 + 1 + 1 := by omega
    have e2 : (i + 1) * 2 + 1 = i * 2 + 1 + 1 + 1 := by omega
    rw [e2, e1]
    exact this
theorem good_mem {S : Nat → Rat} : ∀ {st : List (Int × Int)} {e : Nat}, GoodB S st e → ∀ b ∈ st, ∃ s e', BlockI S b s e' ∧ e' ≤ e
  | [], e, _, b, hb => by cases hb
  | p :: r, e, ⟨s, hp, hr, _⟩, b, hb => by
    rcases List.mem_cons.1 hb with rfl | hb
    · exact ⟨s, e, hp, Nat.le_refl _⟩
    · obtain ⟨s', e', h1, h2⟩ := good_mem hr b hb
      exact ⟨s', e', h1, by have := hp.lt; omega⟩
/-- The elements of the first i blocks. -/
def flatT (B : List (Int × Int)) : Nat → List Rat
  | 0 => []
  | i + 1 => flatT B i ++ List.replicate (B.getD i (0, 0)).2.toNat (meanB (B.getD i (0, 0)))
theorem flatT_take (B : List (Int × Int)) : ∀ i, i ≤ B.length → flatT B i = (B.take i).flatMap fun b => List.replicate b.2.toNat (meanB b)
  | 0, _ => rfl
  | i + 1, h => by
    rw [List.take_succ_eq_append_getElem (by omega), List.flatMap_append, ← flatT_take B i (by omega)]
    show flatT B i ++ _ = _
    rw [List.getD_eq_getElem?_getD, List.getElem?_eq_getElem (by omega)]
    simp
theorem flatT_all (st : List (Int × Int)) : flatT st.reverse st.length = flatB st := by
  rw [flatT_take _ _ (by rw [List.length_reverse]; exact Nat.le_refl _), List.take_of_length_le (by rw [List.length_reverse]; exact Nat.le_refl _)]
  rfl
theorem flatT_le (B : List (Int × Int)) {i : Nat} : ∀ {j : Nat}, i ≤ j → (flatT B i).length ≤ (flatT B j).length
  | 0, h => by
    obtain rfl : i = 0 := by omega
    exact Nat.le_refl _
  | j + 1, h => by
    by_cases he : i = j + 1
    · rw [he]; exact Nat.le_refl _
    · have := flatT_le B (i := i) (j := j) (by omega)
      show _ ≤ (flatT B j ++ _).length
      rw [List.length_append]
      omega

/-- What Isotone hands back. -/
def isoV (l : List Int) : Prop := ∀ t, t < l.length → 0 ≤ l.getD t 0 ∧ l.getD t 0 ≤ 1000000
noncomputable instance (l : List Int) : Decidable (isoV l) := Classical.propDecidable _
noncomputable def isoE (l : List Int) : Int := if 48 < l.length then 3 else if isoV l then 0 else 2
noncomputable def isoL (l : List Int) : List Rat := if isoE l = 0 then flatB (stackB l l.length) else []
theorem meanB_fits {b : Int × Int} (h1 : 1 ≤ b.2) (h2 : b.2 ≤ 48) (h3 : 0 ≤ b.1) (h4 : b.1 ≤ 48000000) : fits (meanB b) := fits_of h1 (by omega) (by omega) (by omega)
theorem fNewQ_any {s d : Int} (h1 : 1 ≤ d) (h2 : d ≤ 48) (h3 : 0 ≤ s) (h4 : s ≤ 48000000) (w : World) :
    Calls Tryd.prog 78 #[.int .i64 s, .int .i64 d] w fun e w' => e = .returned (.tuple #[frQ (meanB (s, d)), .int .i64 0]) ∧ Below w.heap.size w w' := by
  have h := fNew_any s d w (by omega) (by omega) (by omega) (by omega)
  have hf : fits ((s : Rat) / (d : Rat)) := meanB_fits (b := (s, d)) h1 h2 h3 h4
  have e1 : newN s d = ((s : Rat) / (d : Rat)).num := by unfold newN fitN; rw [if_neg (by omega), if_pos hf]
  have e2 : newD s d = (((s : Rat) / (d : Rat)).den : Int) := by unfold newD fitD; rw [if_neg (by omega), if_pos hf]
  have e3 : newE s d = 0 := by unfold newE fitE; rw [if_neg (by omega), if_pos hf]
  rw [e1, e2, e3] at h
  exact h

set_option maxHeartbeats 8000000 in
set_option maxRecDepth 100000 in
theorem Isotone_any (l : List Int) (v : Value) (w : World) (h : IntsR 0 w v l) :
    Calls Tryd.prog 33 #[v] w fun r w' => (∃ v', r = .returned (.tuple #[v', .int .i64 (isoE l)]) ∧ QsR w.heap.size w' v' (isoL l)) ∧ Below w.heap.size w w' := by
  obtain ⟨ao, cap, rfl, hcap, hmax, hc⟩ := h
  unfold maxLen at hmax
  obtain ⟨E, hE⟩ : ∃ E, isoE l = E := ⟨_, rfl⟩
  obtain ⟨R, hR⟩ : ∃ R, isoL l = R := ⟨_, rfl⟩
  have HEr : Hid (E = if 48 < l.length then 3 else if isoV l then 0 else 2) := hid hE.symm
  have HRr : Hid (R = if E = 0 then flatB (stackB l l.length) else []) := hid (by rw [← hR, ← hE]; rfl)
  rw [hE, hR]
  have HC := hid hc
  obtain ⟨L, hL⟩ : ∃ L, l.length = L := ⟨_, rfl⟩
  rw [hL] at hcap HEr HRr ⊢
  have HL := hid hL
  clear hE hR hc hL
  by_cases h48 : 48 < L
  case pos =>
    obtain rfl : E = 3 := by rw [HEr.out, if_pos h48]
    obtain rfl : R = [] := by rw [HRr.out, if_neg (by decide)]
    have h48' : (48 : Int) < (L : Int) := by omega
    clear HEr HRr
    go_enter Tryd.func33, Tryd.ntmps33
    go_wp2
    go_ret2
    exact ⟨⟨_, rfl, SlR.nil _ _⟩, Below.refl _ _⟩
  have h48' : ¬ (48 : Int) < (L : Int) := by omega
  rw [if_neg h48] at HEr
  go_enter Tryd.func33, Tryd.ntmps33
  go_wp2_with fail
  clear h48'
  go_loopw [4, 19] (fun y z wr => ∃ i : Nat, z = .int .i64 i ∧ i ≤ L ∧ (∀ t, t < i → 0 ≤ l.getD t 0 ∧ l.getD t 0 ≤ 1000000) ∧ Hid (wr.ownsRow w.heap.size 82 2 y (stackB l i).length (bksC (stackB l i).reverse)) ∧ Below w.heap.size w wr) (fun _ z _ => L - (intOf z).toNat)
  case atStart => exact ⟨0, rfl, Nat.zero_le _, fun t ht => by omega, hid (World.ownsRow_nil _ _ _ _), Below.refl _ _⟩
  case round =>
    obtain ⟨i, rfl, hi, hval, HO, hbel⟩ := hrel
    have hsr := hbel.size
    by_cases hiL : i < L
    case pos =>
      have hi2 : (i : Int) < (L : Int) := by omega
      obtain ⟨b, off, rfl, hb', x0⟩ := int_cell HC.out (show i < l.length by rw [HL.out]; exact hiL)
      replace x0 := (hbel.cell (p := ⟨b, off + i, none⟩) hb').trans x0
      have hst : stackB l (i + 1) = mergeB (stackB l i) (l.getD i 0, 1) := rfl
      have hone := block_one (S := sumT l) (x := l.getD i 0) (e := i) rfl
      obtain ⟨X, hX⟩ : ∃ X, l.getD i 0 = X := ⟨_, rfl⟩
      rw [hX] at x0 hst hone
      by_cases hx1 : X < 0
      case pos =>
        have hnv : ¬ isoV l := fun hh => by have := hh i (by rw [HL.out]; exact hiL); rw [hX] at this; omega
        obtain rfl : E = 2 := by rw [HEr.out, if_neg hnv]
        obtain rfl : R = [] := by rw [HRr.out, if_neg (by decide)]
        clear HEr HRr HO hnv
        go_wp2
        go_ret2
        exact ⟨⟨_, rfl, SlR.nil _ _⟩, hbel⟩
      by_cases hx2 : 1000000 < X
      case pos =>
        have hnv : ¬ isoV l := fun hh => by have := hh i (by rw [HL.out]; exact hiL); rw [hX] at this; omega
        obtain rfl : E = 2 := by rw [HEr.out, if_neg hnv]
        obtain rfl : R = [] := by rw [HRr.out, if_neg (by decide)]
        clear HEr HRr HO hnv
        go_wp2
        go_ret2
        exact ⟨⟨_, rfl, SlR.nil _ _⟩, hbel⟩
      have hval2 : ∀ t, t < i + 1 → 0 ≤ l.getD t 0 ∧ l.getD t 0 ≤ 1000000 := fun t ht => by
        by_cases hti : t = i
        · rw [hti, hX]; omega
        · exact hval t (by omega)
      have HVAL := hid hval2
      have HST := hid hst
      have HGD := hid (stack_good l i)
      have HONE := hid hone
      obtain ⟨ao4, cap4, hy4, -⟩ := id (SlR.of_owns HO.out)
      have bA := alloc_below wr (.cells #[.int .i64 X, .int .i64 1] 82)
      have kb := hid (Blk.new wr #[.int .i64 X, .int .i64 1] 82)
      have HOA := hid (owns_below HO.out bA)
      have hbA := hbel.trans (bA.mono hsr)
      have HO0 := HO
      clear hval hval2 hX hst hone HO bA
      subst hy4
      go_wp2_with fail
      obtain ⟨H, hH⟩ : ∃ H, wr.heap.size = H := ⟨_, rfl⟩
      obtain ⟨wA, hwA⟩ : ∃ W, wr.alloc (.cells #[.int .i64 X, .int .i64 1] 82) = W := ⟨_, rfl⟩
      rw [hwA] at kb HOA hbA ⊢
      rw [hH] at kb hsr ⊢
      have HLT : Hid (∀ k, (Value.slice ao4 (stackB l i).length cap4).ownBlock = some k → k < H) := hid (fun k hk => by rw [← hH]; exact (HO0.out.lt k hk).2)
      clear hwA hH x0 hbel HO0
      have hlt4 : ∀ k, (Value.slice ao4 (stackB l i).length cap4).ownBlock = some k → k < H := fun k hk => HLT.out k hk
      go_loopw [4, 8] (fun y z wr => ∃ st b s, z = .int .i64 ((st.length : Nat) : Int) ∧ mergeB st b = stackB l (i + 1) ∧ GoodB (sumT l) st s ∧ BlockI (sumT l) b s (i + 1) ∧ Hid (wr.ownsRow w.heap.size 82 2 y st.length (bksC st.reverse)) ∧ Hid (Blk wr H #[.int .i64 b.1, .int .i64 b.2] 82) ∧ Below w.heap.size w wr ∧ (∀ k, y.ownBlock = some k → k < H)) (fun _ z _ => (intOf z).toNat)
      case atStart => exact ⟨stackB l i, (X, 1), i, rfl, HST.out.symm, HGD.out, HONE.out, HOA, kb, hbA, hlt4⟩
      case round =>
        obtain ⟨st, b, s, rfl, hmg, hgd, hbk, HO2, HK, hbel, hrow⟩ := hrel
        have hsq := hbel.size
        have hbd := blk_bd hbk (by omega) HVAL.out
        obtain ⟨k, hk⟩ : ∃ k, st.length = k := ⟨_, rfl⟩
        rw [hk] at HO2 ⊢
        have hk48 : k ≤ 48 := by have := good_len hgd; have := hbk.lt; omega
        have hd0 := (Below.refl wr.heap.size wr).drew
        by_cases hk0 : k = 0
        case pos =>
          subst hk0
          obtain rfl : st = [] := List.length_eq_zero_iff.1 hk
          have HSB : Hid (stackB l (i + 1) = b :: []) := hid hmg.symm
          clear hmg hgd hbk hrow
          have hpos0 : ¬ (0 : Int) < 0 := by omega
          go_wp2_with fail
          refine wp_walkJ (T := Below (wr.heap.size)) (belowV_pre _) (.rd 0 (.rd 1 (.rd 2 (.rd 3 (.rd 4 (.rd 5 (.rd 6 (.rd 7 (.rd 8 (.rd 9 (.rd 10 (.rd 11 (.rd 12 (.rd 13 (.rd 14 (.rd 15 (.rd 16 (.rd 17 (.rd 18 (.rd 19 (.rd 20 (.rd 21 (.rd 22 (.inv [])))))))))))))))))))))))) (by kernel_rfl) rfl (by kernel_rfl) (by kernel_rfl) ?_
          iterate 23 (refine walkJ_rd rfl (fun K hK => ?_); go_simp; refine hK _ ?_; clear hK K)
          refine walkJ_nil ?_
          obtain ⟨Wd, hWd⟩ : ∃ Wd, wr.drew = Wd := ⟨_, rfl⟩
          rw [hWd] at hd0 ⊢
          clear hWd
          have kb := HK.out.below hd0
          have HOd := hid (owns_below HO2.out hd0)
          have hbeld := hbel.trans (hd0.mono hsq)
          have hsd := hbeld.size
          have x0 := kb.look 0 rfl
          have x1 := kb.look 1 rfl
          clear HK HO2 hbel hd0 hsq kb
          go_wp2_with (first
            | (at_builtin; refine wpList_appH rfl (.tmp 81) (.tmp 83) _ rfl w.heap.size 82 (.agg #[.int .i64 0, .int .i64 0]) 2 16 Tryd.underlying80 infoBlock rfl (by decide) 82 _ _ _ rfl HOd.out [.int .i64 b.1, .int .i64 b.2] _ (by first | rfl | simp) rfl rfl (by simp [Value.oneCell']) (by unfold maxLen; omega) (by omega) (by omega) ?_; intro g5 gcap w5 ho5 hb5 _ _ _))
          go_roundw
          case rel =>
            refine ⟨i + 1, by go_num, by omega, HVAL.out, ?_, hbeld.trans hb5⟩
            rw [HSB.out, bks_top, List.length_cons, hk]
            exact hid ho5
          case measure => simp [intOf]; omega
        case neg =>
          obtain ⟨p, r, rfl⟩ : ∃ p r, st = p :: r := by
            cases st with
            | nil => exact absurd hk.symm hk0
            | cons p r => exact ⟨p, r, rfl⟩
          obtain ⟨m, rfl⟩ : ∃ m, k = m + 1 := ⟨k - 1, by omega⟩
          have hrm : r.length = m := by rw [List.length_cons] at hk; omega
          obtain ⟨s', hp, hgr, hlt⟩ := hgd
          have hbp := blk_bd hp (by have := hbk.lt; omega) (fun t ht => HVAL.out t (by have := hbk.lt; omega))
          rw [bks_top] at HO2
          have hlen : (bksC r.reverse).length = m * 2 := by rw [bksC_len, List.length_reverse, hrm]
          obtain ⟨g, cap5, rfl⟩ : ∃ g cap, u4 = .slice (some ⟨g, 0, none⟩) (m + 1) cap := by
            rcases HO2.out.2 with ⟨-, h0⟩ | ⟨g, cap, cur, h1, -⟩
            · omega
            · exact ⟨g, cap, h1⟩
          have hgH : g < H := hrow g rfl
          have HCAP : Hid (m + 1 ≤ cap5) := hid (by
            rcases HO2.out.2 with ⟨-, h0⟩ | ⟨g', cap', cur, h1, -, -, h2, -⟩
            · omega
            · cases h1; exact h2)
          have hx0 : (bksC r.reverse ++ [Value.int .i64 p.1, Value.int .i64 p.2])[m * 2]? = some (.int .i64 p.1) := by
            rw [List.getElem?_append_right (by omega), hlen, Nat.sub_self]
            rfl
          have hx1 : (bksC r.reverse ++ [Value.int .i64 p.1, Value.int .i64 p.2])[m * 2 + 1]? = some (.int .i64 p.2) := by
            rw [List.getElem?_append_right (by omega), hlen, Nat.add_sub_cancel_left]
            rfl
          have wm1 : IntKind.i64.wrap (m : Int) = (m : Int) := by rw [IntWalk.i64_left]; unfold wrap64; omega
          have hpos0 : (0 : Int) < (m : Int) + 1 := by omega
          have hm2 : (m : Int) < (m : Int) + 1 := by omega
          have hm0 : 0 ≤ (m : Int) := by omega
          have hq1 : 0 ≤ p.1 * b.2 ∧ p.1 * b.2 ≤ 48000000 * 48 := ⟨Int.mul_nonneg (by omega) (by omega), Int.mul_le_mul (by omega) (by omega) (by omega) (by omega)⟩
          have hq2 : 0 ≤ b.1 * p.2 ∧ b.1 * p.2 ≤ 48000000 * 48 := ⟨Int.mul_nonneg (by omega) (by omega), Int.mul_le_mul (by omega) (by omega) (by omega) (by omega)⟩
          have P1 : IntKind.i64.wrap (p.1 * b.2) = p.1 * b.2 := by rw [IntWalk.i64_left]; unfold wrap64; omega
          have P2 : IntKind.i64.wrap (b.1 * p.2) = b.1 * p.2 := by rw [IntWalk.i64_left]; unfold wrap64; omega
          have P3 : IntKind.i64.wrap (p.1 + b.1) = p.1 + b.1 := by rw [IntWalk.i64_left]; unfold wrap64; omega
          have P4 : IntKind.i64.wrap (p.2 + b.2) = p.2 + b.2 := by rw [IntWalk.i64_left]; unfold wrap64; omega
          have hst : mergeB (p :: r) b = if b.1 * p.2 ≤ p.1 * b.2 then mergeB r (p.1 + b.1, p.2 + b.2) else b :: p :: r := rfl
          have hcl := (cross_le hp.pos hbk.pos).1
          rw [hst] at hmg
          have z0 := fun y : SubT (Below wr.heap.size) wr.drew => ((owns_below HO2.out (hd0.trans y.b)).cellAt (m * 2) (by omega)).trans hx0
          have z1 := fun y : SubT (Below wr.heap.size) wr.drew => ((owns_below HO2.out (hd0.trans y.b)).cellAt (m * 2 + 1) (by omega)).trans hx1
          have z2 := fun y : SubT (Below wr.heap.size) wr.drew => (HK.out.below (hd0.trans y.b)).look 0 rfl
          have z3 := fun y : SubT (Below wr.heap.size) wr.drew => (HK.out.below (hd0.trans y.b)).look 1 rfl
          go_wp2_with fail
          refine wp_walkJ (T := Below (wr.heap.size)) (belowV_pre _) (.rd 0 (.rd 1 (.rd 2 (.rd 3 (.rd 4 (.rd 5 (.rd 6 (.rd 7 (.rd 8 (.rd 9 (.rd 10 (.rd 11 (.rd 12 (.rd 13 (.rd 14 (.rd 15 (.rd 16 (.rd 17 (.rd 18 (.rd 19 (.rd 20 (.rd 21 (.rd 22 (.inv [])))))))))))))))))))))))) (by kernel_rfl) rfl (by kernel_rfl) (by kernel_rfl) ?_
          iterate 23 (refine walkJ_rd rfl (fun K hK => ?_); go_simp; refine hK _ ?_; clear hK K)
          clear z0 z1 z2 z3
          refine walkJ_nil ?_
          by_cases hc : b.1 * p.2 ≤ p.1 * b.2
          case neg =>
            rw [if_neg hc] at hmg
            have HSB : Hid (stackB l (i + 1) = b :: p :: r) := hid hmg.symm
            rw [← bks_top] at HO2
            obtain ⟨Y, hY⟩ : ∃ Y, Value.slice (some ⟨g, 0, none⟩) (m + 1) cap5 = Y := ⟨_, rfl⟩
            obtain ⟨Wd, hWd⟩ : ∃ Wd, wr.drew = Wd := ⟨_, rfl⟩
            rw [hWd] at hd0 ⊢
            rw [hY] at HO2 ⊢
            clear hWd hY hmg hst hcl hx0 hx1 hrow
            have kb := HK.out.below hd0
            have HOd := hid (owns_below HO2.out hd0)
            have hbeld := hbel.trans (hd0.mono hsq)
            have hsd := hbeld.size
            have x0 := kb.look 0 rfl
            have x1 := kb.look 1 rfl
            clear HK HO2 hbel hd0 hsq kb
            go_wp2_with (first
              | (at_builtin; refine wpList_appH rfl (.tmp 81) (.tmp 83) _ rfl w.heap.size 82 (.agg #[.int .i64 0, .int .i64 0]) 2 16 Tryd.underlying80 infoBlock rfl (by decide) 82 _ _ _ rfl HOd.out [.int .i64 b.1, .int .i64 b.2] _ (by first | rfl | simp) rfl rfl (by simp [Value.oneCell']) (by unfold maxLen; omega) (by omega) (by omega) ?_; intro g5 gcap w5 ho5 hb5 _ _ _))
            go_roundw
            case rel =>
              refine ⟨i + 1, by go_num, by omega, HVAL.out, ?_, hbeld.trans hb5⟩
              rw [HSB.out, bks_top, List.length_cons, hk]
              exact hid ho5
            case measure => simp [intOf]; omega
          case pos =>
            rw [if_pos hc] at hmg
            have HMG := hid hmg
            have HBM := hid (block_merge hp hbk (hcl hc))
            have HGR := hid hgr
            have HO4 := hid (owns_below HO2.out hd0)
            have kb := HK.out.below hd0
            have hbel4 := hbel.trans (hd0.mono hsq)
            obtain ⟨Wd, hWd⟩ : ∃ Wd, wr.drew = Wd := ⟨_, rfl⟩
            rw [hWd] at HO4 kb hbel4 ⊢
            clear hWd hmg hst hcl hd0 HO2 HK hbel hgr
            have hd0 := (Below.refl Wd.heap.size Wd).drew
            have z0 := fun y : SubT (Below Wd.heap.size) Wd.drew => ((owns_below HO4.out (hd0.trans y.b)).cellAt (m * 2) (by omega)).trans hx0
            have z1 := fun y : SubT (Below Wd.heap.size) Wd.drew => ((owns_below HO4.out (hd0.trans y.b)).cellAt (m * 2 + 1) (by omega)).trans hx1
            have z2 := fun y : SubT (Below Wd.heap.size) Wd.drew => (kb.below (hd0.trans y.b)).look 0 rfl
            have z3 := fun y : SubT (Below Wd.heap.size) Wd.drew => (kb.below (hd0.trans y.b)).look 1 rfl
            go_wp2_with fail
            refine wp_walkJ (T := Below (Wd.heap.size)) (belowV_pre _) (.rd 0 (.rd 1 (.rd 2 (.rd 3 (.rd 4 (.rd 5 (.rd 6 (.rd 7 (.rd 8 (.rd 9 (.rd 10 (.rd 11 (.rd 12 (.rd 13 (.rd 14 (.rd 15 (.rd 16 (.rd 17 (.rd 18 (.bt 19 (.inv []))))))))))))))))))))) (by kernel_rfl) rfl (by kernel_rfl) (by kernel_rfl) ?_
            iterate 19 (refine walkJ_rd rfl (fun K hK => ?_); go_simp; refine hK _ ?_; clear hK K)
            clear z0 z1 z2 z3
            have q0 := kb.look 0 rfl
            have q1 := kb.look 1 rfl
            have f2 := kb.frozen
            have hne0 : (Value.slice (some ⟨g, 0, none⟩) (m + 1) cap5).ownBlock ≠ some (⟨H, 0, none⟩ : Addr).block := by
              intro e
              have := Option.some.inj e
              simp at this
              omega
            have hne1 : (Value.slice (some ⟨g, 0, none⟩) (m + 1) cap5).ownBlock ≠ some (⟨H, 1, none⟩ : Addr).block := by
              intro e
              have := Option.some.inj e
              simp at this
              omega
            have o2 := ownsRow_pop (by rw [hlen]) (ownsRow_setCell_other (ownsRow_setCell_other HO4.out hne0 (.int .i64 (p.1 + b.1))) hne1 (.int .i64 (p.2 + b.2)))
            have b2 := Below.setCell (Below.setCell hbel4 (p := ⟨H, 0, none⟩) (by show w.heap.size ≤ H; omega) (.int .i64 (p.1 + b.1))) (p := ⟨H, 1, none⟩) (by show w.heap.size ≤ H; omega) (.int .i64 (p.2 + b.2))
            have k2 := (kb.set 0 (.int .i64 (p.1 + b.1))).set 1 (.int .i64 (p.2 + b.2))
            have hd2 := (Below.refl ((Wd.setCell ⟨H, 0, none⟩ (.int .i64 (p.1 + b.1))).setCell ⟨H, 1, none⟩ (.int .i64 (p.2 + b.2))).heap.size ((Wd.setCell ⟨H, 0, none⟩ (.int .i64 (p.1 + b.1))).setCell ⟨H, 1, none⟩ (.int .i64 (p.2 + b.2)))).drew
            have HOs := hid (owns_below o2 hd2)
            have hbels := hid (b2.trans (hd2.mono b2.size))
            have k24 := hid (k2.below hd2)
            clear hd0 HO4 kb hbel4 hne0 hne1 hx0 hx1 o2 b2 k2 hd2
            (refine walkJ_bt rfl (fun K hK => ?_); go_simp; refine hK _ _ ?_; clear hK K)
            refine walkJ_nil ?_
            obtain ⟨hcp, -⟩ : (m : Int) ≤ cap5 ∧ True := ⟨by have := HCAP.out; omega, trivial⟩
            go_wp2
            go_roundw
            case rel => exact ⟨r, (p.1 + b.1, p.2 + b.2), s', by rw [hrm], HMG.out, HGR.out, HBM.out, by rw [hrm]; exact HOs, k24, hbels.out, fun k hk => by have := hrow k hk; exact this⟩
            case measure => simp [intOf] <;> omega
    case neg =>
      obtain rfl : i = L := by omega
      have hi2 : ¬ (i : Int) < (i : Int) := by omega
      have hv : isoV l := fun t ht => hval t (by rw [HL.out] at ht; exact ht)
      obtain rfl : 0 = E := by rw [HEr.out, if_pos hv]
      have hR2 : R = flatB (stackB l i) := by rw [HRr.out, if_pos rfl]
      have hgd := stack_good l i
      have hBD : Hid (∀ j, j < (stackB l i).length → 1 ≤ ((stackB l i).reverse.getD j (0, 0)).2 ∧ ((stackB l i).reverse.getD j (0, 0)).2 ≤ 48 ∧ 0 ≤ ((stackB l i).reverse.getD j (0, 0)).1 ∧ ((stackB l i).reverse.getD j (0, 0)).1 ≤ 48000000) := hid (fun j hj => by
        have hm : (stackB l i).reverse.getD j (0, 0) ∈ stackB l i := by
          rw [List.getD_eq_getElem?_getD, List.getElem?_eq_getElem (by rw [List.length_reverse]; exact hj)]
          exact List.mem_reverse.1 (List.getElem_mem _)
        obtain ⟨s, e', h1, h2⟩ := good_mem hgd _ hm
        exact blk_bd h1 (by omega) (fun t ht => hval t (by omega)))
      have hlen48 := good_len hgd
      have hFL := flatB_len hgd
      rw [← flatT_all] at hFL hR2
      have hGET := hid (fun j (hj : j < (stackB l i).length) => bksC_get (stackB l i).reverse j (by rw [List.length_reverse]; exact hj))
      have hLR : (stackB l i).reverse.length = (stackB l i).length := List.length_reverse
      clear hval hgd HRr HEr
      generalize (stackB l i).reverse = B at *
      obtain ⟨n, hn⟩ : ∃ n, (stackB l i).length = n := ⟨_, rfl⟩
      rw [hn] at HO hBD hlen48 hFL hR2 hGET hLR
      have HFL := hid hFL
      have HR2 := hid hR2
      have hn48 : n ≤ 48 := by omega
      obtain ⟨ao4, cap4, rfl, -⟩ := id (SlR.of_owns HO.out)
      have hsr := hbel.size
      have HBW := hid hbel
      clear hn hv hFL hR2 hLR hbel
      obtain ⟨wS, rfl⟩ : ∃ W, W = wr := ⟨_, rfl⟩
      go_wp2_with fail
      go_loopw [9, 88] (fun y z wz => ∃ j : Nat, z = .int .i64 j ∧ j ≤ n ∧ Hid (wz.ownsRow wS.heap.size 32 2 y (flatT B j).length (frsC (flatT B j))) ∧ Below wS.heap.size wS wz) (fun _ z _ => n - (intOf z).toNat)
      case atStart => exact ⟨0, rfl, Nat.zero_le _, hid (World.ownsRow_nil _ _ _ _), Below.refl _ _⟩
      case round =>
        obtain ⟨j, rfl, hj, HF, hbz⟩ := hrel
        have hsz := hbz.size
        by_cases hjn : j < n
        case pos =>
          have hj2 : (j : Int) < (n : Int) := by omega
          have hx := hGET.out j hjn
          have hbd := hBD.out j hjn
          have hT : flatT B (j + 1) = flatT B j ++ List.replicate (B.getD j (0, 0)).2.toNat (meanB (B.getD j (0, 0))) := rfl
          have hle := flatT_le B (show j + 1 ≤ n by omega)
          rw [HFL.out, hT, List.length_append, List.length_replicate] at hle
          obtain ⟨b, hb⟩ : ∃ b, B.getD j (0, 0) = b := ⟨_, rfl⟩
          rw [hb] at hx hbd hT hle
          have HT := hid hT
          obtain ⟨g, cap5, he4⟩ : ∃ g cap, Value.slice ao4 n cap4 = .slice (some ⟨g, 0, none⟩) n cap := by
            rcases HO.out.2 with ⟨-, h0⟩ | ⟨g, cap, cur, h1, -⟩
            · omega
            · exact ⟨g, cap, h1⟩
          obtain ⟨rfl, rfl⟩ : ao4 = some ⟨g, 0, none⟩ ∧ cap4 = cap5 := by
            injection he4 with h1 h2 h3
            exact ⟨h1, h3⟩
          have hOz := owns_below HO.out (hbz.mono (Nat.le_refl _))
          have x0 := (hOz.cellAt (j * 2) (by omega)).trans hx.1
          have x1 := (hOz.cellAt (j * 2 + 1) (by omega)).trans hx.2
          have kB := Blk.new wr #[.int .i64 b.1, .int .i64 b.2] 82
          have bB := alloc_below wr (.cells #[.int .i64 b.1, .int .i64 b.2] 82)
          have hbB := hbz.trans (bB.mono hsz)
          have HFB := hid (owns_below HF.out bB)
          have hmn := meanB_fits hbd.1 hbd.2.1 hbd.2.2.1 hbd.2.2.2
          have NW := hid (fun w => fNewQ_any (s := b.1) (d := b.2) hbd.1 hbd.2.1 hbd.2.2.1 hbd.2.2.2 w)
          have y0 := kB.look 0 rfl
          have y1 := kB.look 1 rfl
          unfold frQ at NW
          clear he4 hx hT hb hOz HF hbz
          go_wp2_with fail
          refine (NW.out _).mono ?_
          rintro r w5 ⟨rfl, hb5⟩
          have kB5 := kB.below hb5
          have hb5' := hbB.trans (hb5.mono hbB.size)
          have HF5 := hid (owns_below HFB.out hb5)
          obtain ⟨M, hM⟩ : ∃ m, meanB (b.1, b.2) = m := ⟨_, rfl⟩
          have hM2 : meanB b = M := hM
          rw [hM] at hmn ⊢
          obtain ⟨mn, hmn1⟩ : ∃ z, M.num = z := ⟨_, rfl⟩
          obtain ⟨md, hmd1⟩ : ∃ z, (M.den : Int) = z := ⟨_, rfl⟩
          rw [hmn1, hmd1]
          have HMC : Hid (frC M = [.int .i64 mn, .int .i64 md]) := hid (by unfold frC; rw [hmn1, hmd1])
          have HT2 : Hid (flatT B (j + 1) = flatT B j ++ List.replicate b.2.toNat M) := hid (by rw [HT.out, hM2])
          have hs5 := hb5'.size
          have kM := Blk.new w5 #[.int .i64 mn, .int .i64 md] 32
          have bM := alloc_below w5 (.cells #[.int .i64 mn, .int .i64 md] 32)
          have kB6 := kB5.below bM
          have hb6 := hb5'.trans (bM.mono hs5)
          have HF6 := hid (owns_below HF5.out bM)
          have HF5L : Hid (∀ k, u9.ownBlock = some k → k < w5.heap.size) := hid (fun k hk => (HF5.out.lt k hk).2)
          have hs6 := hb6.size
          have z0 := kB6.look 0 rfl
          have z1 := kB6.look 1 rfl
          have hltB := kB5.lt
          clear x0 x1 y0 y1 NW hb5 hb5' HF5 kB5 bB hbB HFB kB hM hM2 hmn hmn1 hmd1 HT
          go_wp2_with fail
          have hneG : ∀ k, u9.ownBlock = some k → k ≠ w5.heap.size := fun k hk => by have := (HF5L.out k hk); omega
          obtain ⟨W6, hW6⟩ : ∃ W, w5.alloc (.cells #[.int .i64 mn, .int .i64 md] 32) = W := ⟨_, rfl⟩
          obtain ⟨G, hG⟩ : ∃ W, w5.heap.size = W := ⟨_, rfl⟩
          rw [hW6] at kM bM kB6 hb6 HF6 hs6 ⊢
          rw [hG] at kM hs5 hneG ⊢
          obtain ⟨q, hq⟩ : ∃ q, b.2.toNat = q := ⟨_, rfl⟩
          have hq2 : b.2 = (q : Int) := by omega
          rw [hq] at HT2 hle
          rw [hq2] at kB6 ⊢
          clear hW6 hG bM z0 z1 hltB hq hq2 kB6 hbd HF5L
          go_loopw [9, 102] (fun y z wq => ∃ t : Nat, z = .int .i64 t ∧ t ≤ q ∧ Hid (wq.ownsRow wS.heap.size 32 2 y ((flatT B j).length + t) (frsC (flatT B j ++ List.replicate t M))) ∧ Hid (Blk wq G #[.int .i64 mn, .int .i64 md] 32) ∧ Below wS.heap.size wS wq ∧ (∀ k, y.ownBlock = some k → k ≠ G)) (fun _ z _ => q - (intOf z).toNat)
          case atStart => exact ⟨0, rfl, Nat.zero_le _, by rw [List.replicate_zero, List.append_nil]; exact HF6, hid kM, hb6, hneG⟩
          case round =>
            obtain ⟨t, rfl, ht, HFt, HKt, hbt, hrowt⟩ := hrel
            have hst := hbt.size
            by_cases htq : t < q
            case pos =>
              have ht2 : (t : Int) < (q : Int) := by omega
              have c0 := HKt.out.look 0 rfl
              have c1 := HKt.out.look 1 rfl
              have hFC : frsC (flatT B j ++ List.replicate (t + 1) M) = frsC (flatT B j ++ List.replicate t M) ++ [.int .i64 mn, .int .i64 md] := by
                rw [List.replicate_succ', ← List.append_assoc, frsC_append (flatT B j ++ List.replicate t M)]
                show _ ++ (frC M ++ []) = _
                rw [HMC.out]
                rfl
              have HFC := hid hFC
              clear hFC
              go_wp2_with (first
                | (at_builtin; refine wpList_appO rfl (.tmp 104) (.tmp 106) _ rfl wS.heap.size 32 (frV 0 0) 2 16 Tryd.underlying23 infoFrac rfl (by decide) 32 _ _ _ rfl HFt.out [.int .i64 mn, .int .i64 md] _ (by first | rfl | simp) rfl rfl (by simp [Value.oneCell']) (by unfold maxLen; omega) (by omega) (by omega) ?_; intro g5 gcap w7 ho7 hb7 hgr7 _ _ hg7))
              go_roundw
              case rel =>
                refine ⟨t + 1, by go_num, by omega, ?_, hid ((World.grownBy.block hgr7 G HKt.out.lt (fun e => hrowt G e.symm rfl)).trans HKt.out), hbt.trans hb7, fun k hk => ?_⟩
                · rw [HFC.out]
                  exact hid ho7
                · obtain rfl : g5 = k := Option.some.inj hk
                  rcases hg7 with h | h
                  · exact hrowt _ h
                  · have := HKt.out.lt
                    omega
              case measure => simp [intOf]; omega
            case neg =>
              obtain rfl : q = t := by omega
              have ht2 : ¬ (q : Int) < (q : Int) := by omega
              have hlen2 : (flatT B (j + 1)).length = (flatT B j).length + q := by rw [HT2.out, List.length_append, List.length_replicate]
              have HL2 := hid hlen2
              clear hlen2
              go_wp2
              go_roundw
              case rel =>
                refine ⟨j + 1, by go_num, by omega, ?_, hbt⟩
                rw [HL2.out, HT2.out]
                exact HFt
              case measure => simp [intOf]; omega
        case neg =>
          obtain rfl : n = j := by omega
          have hj2 : ¬ (n : Int) < (n : Int) := by omega
          obtain ⟨ao9, cap9, rfl, -⟩ := id (SlR.of_owns HF.out)
          have hfin := SlR.mono (SlR.of_owns HF.out) hsr
          have hBf := HBW.out.trans (hbz.mono hsr)
          rw [← HR2.out] at hfin ⊢
          have HFIN := hid hfin
          clear hfin HF HBW
          obtain ⟨q, hq⟩ : ∃ q, R.length = q := ⟨_, rfl⟩
          rw [hq] at HFIN ⊢
          have HQ := hid hq
          clear hq
          go_wp2
          go_ret2
          refine ⟨⟨_, rfl, ?_⟩, hBf⟩
          unfold QsR
          rw [HQ.out]
          exact HFIN.out

end Go.Proofs.YtfkclcoipadhmaaDoor
