/- Walk of trankref02.Isotone. -/
import Derived.Test.YtfkclcoipadhmaaDoorGl
import Derived.Test.YtfkclcoipadhmaaDoorEa
namespace Go.Proofs.YtfkclcoipadhmaaDoor
open Go.RowKit
attribute [local irreducible] seqS seqST walkV walkJ

/-- Sums of t elements from j on. -/
def sI (l : List Int) (j : Nat) : Nat → Int
  | 0 => 0
  | t + 1 => sI l j t + l.getD (j + t) 0
theorem sI_sum (l : List Int) (j : Nat) : ∀ t, ((sI l j t : Int) : Rat) = sumT l (j + t) - sumT l j
  | 0 => by
    show ((0 : Int) : Rat) = sumT l j - sumT l j
    have : ((0 : Int) : Rat) = 0 := rfl
    rw [this]
    grind
  | t + 1 => by
    have ih := sI_sum l j t
    show ((sI l j t + l.getD (j + t) 0 : Int) : Rat) = sumT l (j + t) + ((l.getD (j + t) 0 : Int) : Rat) - sumT l j
    rw [Rat.intCast_add, ih]
    grind
theorem sI_bd {l : List Int} (hv : ∀ t, t < l.length → 0 ≤ l.getD t 0 ∧ l.getD t 0 ≤ 1000000) (j : Nat) : ∀ t, j + t ≤ l.length → 0 ≤ sI l j t ∧ sI l j t ≤ 1000000 * (t : Int)
  | 0, _ => ⟨Int.le_refl _, Int.le_refl _⟩
  | t + 1, h => by
    have ih := sI_bd hv j t (by omega)
    have hx := hv (j + t) (by omega)
    show 0 ≤ sI l j t + l.getD (j + t) 0 ∧ sI l j t + l.getD (j + t) 0 ≤ _
    omega
theorem mean_eq (l : List Int) (j t : Nat) : meanB (sI l j (t + 1), ((t + 1 : Nat) : Int)) = meanS (sumT l) j (j + t) := by
  unfold meanB meanS
  show ((sI l j (t + 1) : Int) : Rat) / (((t + 1 : Nat) : Int) : Rat) = _
  rw [sI_sum, show j + (t + 1) = j + t + 1 from rfl]
  congr 1
  have h1 : ((((t + 1 : Nat) : Int)) : Rat) = (t : Rat) + 1 := by exact_mod_cast rfl
  have h2 : (((j + t + 1 : Nat)) : Rat) = (j : Rat) + (t : Rat) + 1 := by exact_mod_cast rfl
  rw [h1, h2]
  grind
theorem low_start {S : Nat → Rat} {i j : Nat} : ∀ {k : Nat}, k ≤ i → lowTo S i j k = 1000000000
  | 0, _ => rfl
  | k + 1, h => by
    unfold lowTo
    rw [if_neg (fun hh => by omega)]
    exact low_start (by omega)
theorem fits_big : fits 1000000000 := by constructor <;> decide
theorem fits_one' : fits (-1) := by constructor <;> decide
theorem low_fits {S : Nat → Rat} {i j : Nat} : ∀ {k : Nat}, (∀ t, i ≤ t → t < k → fits (meanS S j t)) → fits (lowTo S i j k)
  | 0, _ => fits_big
  | k + 1, h => by
    have ih := low_fits (S := S) (i := i) (j := j) (k := k) (fun t h1 h2 => h t h1 (by omega))
    unfold lowTo
    split
    · rename_i hc
      exact h k hc.1 (by omega)
    · exact ih
theorem best_fits {S : Nat → Rat} {n i : Nat} : ∀ {k : Nat}, (∀ j, j < k → fits (lowTo S i j n)) → fits (bestTo S n i k)
  | 0, _ => fits_one'
  | k + 1, h => by
    have ih := best_fits (S := S) (n := n) (i := i) (k := k) (fun t h1 => h t (by omega))
    unfold bestTo
    split
    · exact h k (by omega)
    · exact ih
theorem mean_fits {l : List Int} (hv : isoV l) (h48 : l.length ≤ 48) {j k : Nat} (hjk : j ≤ k) (hk : k < l.length) : fits (meanS (sumT l) j k) := by
  obtain ⟨t, rfl⟩ : ∃ t, k = j + t := ⟨k - j, by omega⟩
  rw [← mean_eq]
  have hb := sI_bd hv j (t + 1) (by omega)
  exact meanB_fits (b := (sI l j (t + 1), ((t + 1 : Nat) : Int))) (by show (1 : Int) ≤ ((t + 1 : Nat) : Int); omega) (by show ((t + 1 : Nat) : Int) ≤ 48; omega) hb.1 (by show sI l j (t + 1) ≤ 48000000; omega)
theorem rNewQ_any {s d : Int} (h1 : 1 ≤ d) (h2 : d ≤ 48) (h3 : 0 ≤ s) (h4 : s ≤ 48000000) (w : World) :
    Calls Tryd.prog 96 #[.int .i64 s, .int .i64 d] w fun e w' => e = .returned (.tuple #[frQ (meanB (s, d)), .int .i64 0]) ∧ Below w.heap.size w w' := by
  have h := New_any s d w (by omega) (by omega) (by omega) (by omega)
  have hf : fits ((s : Rat) / (d : Rat)) := meanB_fits (b := (s, d)) h1 h2 h3 h4
  have e1 : newN s d = ((s : Rat) / (d : Rat)).num := by unfold newN fitN; rw [if_neg (by omega), if_pos hf]
  have e2 : newD s d = (((s : Rat) / (d : Rat)).den : Int) := by unfold newD fitD; rw [if_neg (by omega), if_pos hf]
  have e3 : newE s d = 0 := by unfold newE fitE; rw [if_neg (by omega), if_pos hf]
  rw [e1, e2, e3] at h
  exact h
theorem iso_len {l : List Int} (h : isoE l = 0) : (isoL l).length = l.length := by
  unfold isoL
  rw [if_pos h]
  exact flatB_len (stack_good l l.length)
theorem iso_get {l : List Int} (h : isoE l = 0) (hv : isoV l) {i : Nat} (hi : i < l.length) : (isoL l).getD i 0 = bestTo (sumT l) l.length i (i + 1) := by
  unfold isoL
  rw [if_pos h]
  exact (isotone_ref hv hi).1
theorem owns_calT' {g : Nat} {W W' : World} {B0 : Nat} {e : TypeId} {size : Nat} {v : Value} {n : Nat} {xs : List Value} (k : CalT g W W') (h : W.ownsRow B0 e size v n xs) (hg : v.ownBlock ≠ some g) : W'.ownsRow B0 e size v n xs := by
  refine h.kept (row := some g) k ?_
  cases hv : v.ownBlock with
  | none => exact .inl rfl
  | some k =>
    right
    intro e
    rw [hv] at hg
    exact hg e
theorem frsC_take (l : List Rat) {i : Nat} (hi : i < l.length) : frsC (l.take (i + 1)) = frsC (l.take i) ++ frC (l.getD i 0) := by
  rw [List.take_succ_eq_append_getElem hi, frsC_append, List.getD_eq_getElem?_getD, List.getElem?_eq_getElem hi]
  show _ ++ (frC l[i] ++ []) = _
  rw [List.append_nil]
  rfl

set_option maxHeartbeats 8000000 in
set_option maxRecDepth 100000 in
theorem rIsotone_any (l : List Int) (v : Value) (w : World) (h : IntsR 0 w v l) :
    Calls Tryd.prog 47 #[v] w fun r w' => (∃ v', r = .returned (.tuple #[v', .int .i64 (isoE l)]) ∧ QsR w.heap.size w' v' (isoL l)) ∧ Below w.heap.size w w' := by
  obtain ⟨ao, cap, rfl, hcap, hmax, hc⟩ := h
  unfold maxLen at hmax
  have HLEN := hid (fun (h : isoE l = 0) => iso_len h)
  have HGET := hid (fun (h : isoE l = 0) (hv : isoV l) (i : Nat) (hi : i < l.length) => iso_get h hv hi)
  have HNIL : Hid (isoE l ≠ 0 → isoL l = []) := hid (fun h => if_neg h)
  have HEr0 : isoE l = if 48 < l.length then 3 else if isoV l then 0 else 2 := rfl
  obtain ⟨E, hE⟩ : ∃ E, isoE l = E := ⟨_, rfl⟩
  obtain ⟨R, hR⟩ : ∃ R, isoL l = R := ⟨_, rfl⟩
  rw [hE] at HLEN HGET HNIL HEr0
  rw [hR] at HLEN HGET HNIL
  have HEr := hid HEr0
  rw [hE, hR]
  have HC := hid hc
  obtain ⟨L, hL⟩ : ∃ L, l.length = L := ⟨_, rfl⟩
  rw [hL] at hcap HEr HLEN HGET ⊢
  have HL := hid hL
  clear hE hR hc hL HEr0
  by_cases h48 : 48 < L
  case pos =>
    obtain rfl : E = 3 := by rw [HEr.out, if_pos h48]
    obtain rfl : R = [] := HNIL.out (by decide)
    have h48' : (48 : Int) < (L : Int) := by omega
    clear HEr HNIL HLEN HGET
    go_enter Tryd.func47, Tryd.ntmps47
    go_wp2
    go_ret2
    exact ⟨⟨_, rfl, SlR.nil _ _⟩, Below.refl _ _⟩
  have h48' : ¬ (48 : Int) < (L : Int) := by omega
  rw [if_neg h48] at HEr
  go_enter Tryd.func47, Tryd.ntmps47
  go_wp2_with fail
  clear h48'
  go_loopw [20] (fun z wr => ∃ i : Nat, z = .int .i64 i ∧ i ≤ L ∧ (∀ t, t < i → 0 ≤ l.getD t 0 ∧ l.getD t 0 ≤ 1000000) ∧ wr = w) (fun z _ => L - (intOf z).toNat)
  case atStart => exact ⟨0, rfl, Nat.zero_le _, fun t ht => by omega, rfl⟩
  case round =>
    obtain ⟨i, rfl, hi, hval, rfl⟩ := hrel
    by_cases hiL : i < L
    case pos =>
      have hi2 : (i : Int) < (L : Int) := by omega
      obtain ⟨b, off, rfl, hb', x0⟩ := int_cell HC.out (show i < l.length by rw [HL.out]; exact hiL)
      obtain ⟨X, hX⟩ : ∃ X, l.getD i 0 = X := ⟨_, rfl⟩
      rw [hX] at x0
      by_cases hx1 : X < 0
      case pos =>
        have hnv : ¬ isoV l := fun hh => by have := hh i (by rw [HL.out]; exact hiL); rw [hX] at this; omega
        obtain rfl : E = 2 := by rw [HEr.out, if_neg hnv]
        obtain rfl : R = [] := HNIL.out (by decide)
        clear HEr hnv HNIL HLEN HGET
        go_wp2
        go_ret2
        exact ⟨⟨_, rfl, SlR.nil _ _⟩, Below.refl _ _⟩
      by_cases hx2 : 1000000 < X
      case pos =>
        have hnv : ¬ isoV l := fun hh => by have := hh i (by rw [HL.out]; exact hiL); rw [hX] at this; omega
        obtain rfl : E = 2 := by rw [HEr.out, if_neg hnv]
        obtain rfl : R = [] := HNIL.out (by decide)
        clear HEr hnv HNIL HLEN HGET
        go_wp2
        go_ret2
        exact ⟨⟨_, rfl, SlR.nil _ _⟩, Below.refl _ _⟩
      have hval2 : ∀ t, t < i + 1 → 0 ≤ l.getD t 0 ∧ l.getD t 0 ≤ 1000000 := fun t ht => by
        by_cases hti : t = i
        · rw [hti, hX]; omega
        · exact hval t (by omega)
      have HVAL := hid hval2
      clear hval hval2 hX
      go_wp2
      go_roundw
      case rel => exact ⟨i + 1, by go_num, by omega, HVAL.out, trivial⟩
      case measure => simp [intOf]; omega
    case neg =>
      obtain rfl : i = L := by omega
      have hi2 : ¬ (i : Int) < (i : Int) := by omega
      have hv : isoV l := fun t ht => hval t (by rw [HL.out] at ht; exact ht)
      obtain rfl : 0 = E := by rw [HEr.out, if_pos hv]
      have HV := hid hv
      have HG : Hid (∀ k, k < i → R.getD k 0 = bestTo (sumT l) i k (k + 1)) := hid (HGET.out rfl hv)
      have HR : Hid (R.length = i) := hid (HLEN.out rfl)
      have HMF := hid (fun (j k : Nat) (h1 : j ≤ k) (h2 : k < i) => mean_fits hv (by rw [HL.out]; omega) h1 (by rw [HL.out]; exact h2))
      have HSB := hid (fun (j t : Nat) (h : j + t ≤ i) => sI_bd hv j t (by rw [HL.out]; exact h))
      clear hval hv HEr HLEN HGET HNIL
      obtain ⟨wS, rfl⟩ : ∃ W, W = wr := ⟨_, rfl⟩
      go_wp2_with fail
      go_loopw [6, 33] (fun y z wr => ∃ k : Nat, z = .int .i64 k ∧ k ≤ i ∧ Hid (wr.ownsRow wS.heap.size 32 2 y k (frsC (R.take k))) ∧ Below wS.heap.size wS wr) (fun _ z _ => i - (intOf z).toNat)
      case atStart => exact ⟨0, rfl, Nat.zero_le _, hid (World.ownsRow_nil _ _ _ _), Below.refl _ _⟩
      case round =>
        obtain ⟨k, rfl, hk, HO, hbel⟩ := hrel
        have hsr := hbel.size
        by_cases hki : k < i
        case pos =>
          have hk2 : (k : Int) < (i : Int) := by omega
          have kB := Blk.new wr #[.int .i64 (-1), .int .i64 1] 32
          have bB := alloc_below wr (.cells #[.int .i64 (-1), .int .i64 1] 32)
          have HOB := hid (owns_below HO.out bB)
          have HNE : Hid (u6.ownBlock ≠ some wr.heap.size) := hid (fun e => by have := (HO.out.lt _ e).2; omega)
          have hbB := hbel.trans (bB.mono hsr)
          clear HO
          go_wp2_with fail
          obtain ⟨wB, hwB⟩ : ∃ W, wr.alloc (.cells #[.int .i64 (-1), .int .i64 1] 32) = W := ⟨_, rfl⟩
          obtain ⟨gB, hgB⟩ : ∃ g, wr.heap.size = g := ⟨_, rfl⟩
          rw [hwB] at kB HOB hbB ⊢
          rw [hgB] at kB hsr HNE ⊢
          have hlB : gB < wB.heap.size := kB.lt
          clear hwB hgB bB hbel
          go_loopw [9, 10, 11, 12] (fun y _ _ _ wq => ∃ j : Nat, y = .int .i64 j ∧ j ≤ k + 1 ∧ Hid (Blk wq gB #[.int .i64 (bestTo (sumT l) i k j).num, .int .i64 ((bestTo (sumT l) i k j).den : Int)] 32) ∧ CalT gB wB wq) (fun y _ _ _ _ => k + 1 - (intOf y).toNat)
          case atStart => exact ⟨0, rfl, Nat.zero_le _, hid kB, (calT_pre gB).refl wB⟩
          case round =>
            obtain ⟨j, rfl, hj, HBB, tq⟩ := hrel
            have hsq := tq.size
            by_cases hjk : j ≤ k
            case pos =>
              have hjk2 : (j : Int) ≤ (k : Int) := by omega
              have hbq := CalT.below hbB tq hsr (Nat.le_trans hsr (Nat.le_of_lt hlB))
              obtain ⟨wq, rfl⟩ : ∃ W, W = wr := ⟨_, rfl⟩
              have hst : bestTo (sumT l) i k (j + 1) = if bestTo (sumT l) i k j < lowTo (sumT l) k j i then lowTo (sumT l) k j i else bestTo (sumT l) i k j := rfl
              have hfL : fits (lowTo (sumT l) k j i) := low_fits (fun t h1 h2 => HMF.out j t (by omega) h2)
              have hfB : fits (bestTo (sumT l) i k j) := best_fits (fun j' hj' => low_fits (fun t h1 h2 => HMF.out j' t (by omega) h2))
              have kL := Blk.new wq #[.int .i64 1000000000, .int .i64 1] 32
              have bL := alloc_below wq (.cells #[.int .i64 1000000000, .int .i64 1] 32)
              have HB2 := hid (HBB.out.below bL)
              have hlq := HBB.out.lt
              have hbL := hbq.trans (bL.mono hbq.size)
              have tL := (calT_pre gB).trans tq (CalT.of_below bL)
              have hlow0 : lowTo (sumT l) k j j = 1000000000 := low_start (by omega)
              have HST := hid hst
              have HFL := hid hfL
              have HFB := hid hfB
              clear HBB hst hfL hfB
              go_wp2_with fail
              obtain ⟨wL, hwL⟩ : ∃ W, wq.alloc (.cells #[.int .i64 1000000000, .int .i64 1] 32) = W := ⟨_, rfl⟩
              obtain ⟨gL, hgL⟩ : ∃ g, wq.heap.size = g := ⟨_, rfl⟩
              rw [hwL] at kL HB2 hbL tL bL ⊢
              rw [hgL] at kL hsq hlq bL ⊢
              have hlL : gL < wL.heap.size := kL.lt
              have hsS : wS.heap.size ≤ gL := by omega
              have HL0 := hid hlow0
              have BLQ : Hid (Below gL wq wL) := hid bL
              have HGL := hid hgL
              have TQ := hid tq
              clear hwL hgL bL hbq hlow0 tq
              go_loopw [10, 12] (fun s z wt => ∃ t q : Nat, s = .int .i64 (sI l j t) ∧ z = .int .i64 (q : Int) ∧ q = j + t ∧ q ≤ i ∧ Hid (Blk wt gL #[.int .i64 (lowTo (sumT l) k j q).num, .int .i64 ((lowTo (sumT l) k j q).den : Int)] 32) ∧ CalT gL wL wt) (fun _ z _ => i - (intOf z).toNat)
              case atStart => exact ⟨0, j, rfl, rfl, rfl, by omega, by rw [HL0.out]; exact hid kL, (calT_pre gL).refl wL⟩
              case round =>
                obtain ⟨t, q, rfl, rfl, hq, hqi, HLL, tt⟩ := hrel
                have hsT := tt.size
                by_cases hqi2 : q < i
                case pos =>
                  have hqi3 : (q : Int) < (i : Int) := by omega
                  have hbt := CalT.below hbL tt hsS (by omega)
                  obtain ⟨b, off, rfl, hb', x0⟩ := int_cell HC.out (show q < l.length by rw [HL.out]; exact hqi2)
                  replace x0 := (hbt.cell (p := ⟨b, off + q, none⟩) hb').trans x0
                  have hsI : sI l j (t + 1) = sI l j t + l.getD q 0 := by rw [hq]; rfl
                  have hb1 := HSB.out j t (by omega)
                  have hb2 := HSB.out j (t + 1) (by omega)
                  have hMq : meanB (sI l j (t + 1), ((t + 1 : Nat) : Int)) = meanS (sumT l) j q := by rw [hq]; exact mean_eq l j t
                  have hMf := HMF.out j q (by omega) hqi2
                  have hst2 : lowTo (sumT l) k j (q + 1) = if k ≤ q ∧ meanS (sumT l) j q < lowTo (sumT l) k j q then meanS (sumT l) j q else lowTo (sumT l) k j q := rfl
                  have hLf : fits (lowTo (sumT l) k j q) := low_fits (fun t h1 h2 => HMF.out j t (by omega) (by omega))
                  obtain ⟨X, hX⟩ : ∃ X, l.getD q 0 = X := ⟨_, rfl⟩
                  rw [hX] at x0 hsI
                  obtain ⟨s0, hs0⟩ : ∃ X, sI l j t = X := ⟨_, rfl⟩
                  obtain ⟨s1, hs1⟩ : ∃ X, sI l j (t + 1) = X := ⟨_, rfl⟩
                  rw [hs0] at hsI hb1
                  rw [hs1] at hsI hb2 hMq
                  rw [hs0]
                  have wX : IntKind.i64.wrap (s0 + X) = s1 := by rw [← hsI, IntWalk.i64_left]; unfold wrap64; omega
                  have wD : IntKind.i64.wrap ((q : Int) - (j : Int)) = (t : Int) := by rw [IntWalk.i64_left]; unfold wrap64; omega
                  have wT : IntKind.i64.wrap ((t : Int) + 1) = ((t + 1 : Nat) : Int) := by rw [IntWalk.i64_left]; unfold wrap64; omega
                  have NW := hid (fun w => rNewQ_any (s := s1) (d := ((t + 1 : Nat) : Int)) (by omega) (by omega) hb2.1 (by omega) w)
                  rw [hMq] at NW
                  obtain ⟨M, hM⟩ : ∃ M, meanS (sumT l) j q = M := ⟨_, rfl⟩
                  obtain ⟨Lo, hLo⟩ : ∃ M, lowTo (sumT l) k j q = M := ⟨_, rfl⟩
                  rw [hM] at NW hMf hst2
                  rw [hLo] at HLL hLf hst2
                  have OR := hid (fun w => rorder_any M Lo hMf hLf w)
                  have hcm := cmp_cases M Lo
                  obtain ⟨cz, hcz⟩ : ∃ z, cmpQ M Lo = z := ⟨_, rfl⟩
                  rw [hcz] at OR hcm
                  have HCM := hid hcm
                  have HST2 := hid hst2
                  have HS1 := hid hs1
                  have HQ := hid hq
                  unfold frQ at NW OR
                  obtain ⟨mn, hmn⟩ : ∃ z, M.num = z := ⟨_, rfl⟩
                  obtain ⟨md, hmd⟩ : ∃ z, (M.den : Int) = z := ⟨_, rfl⟩
                  obtain ⟨ln, hln⟩ : ∃ z, Lo.num = z := ⟨_, rfl⟩
                  obtain ⟨ld, hld⟩ : ∃ z, (Lo.den : Int) = z := ⟨_, rfl⟩
                  rw [hmn, hmd] at NW OR
                  rw [hln, hld] at OR HLL
                  have HMN := hid hmn
                  have HMD := hid hmd
                  have HLN := hid hln
                  have HLD := hid hld
                  obtain ⟨tn, htn⟩ : ∃ z, ((t + 1 : Nat) : Int) = z := ⟨_, rfl⟩
                  rw [htn] at NW wT
                  clear hcz hcm hst2 hM hLo hMf hLf hMq hsI hb1 hb2 hX hs0 hs1 hmn hmd hln hld hq htn hbt
                  go_wp2_with fail
                  refine (NW.out _).mono ?_
                  rintro r w5 ⟨rfl, hb5⟩
                  have kL5 := HLL.out.below hb5
                  have t5 := (calT_pre gL).trans tt (CalT.of_below hb5)
                  have hs5 := t5.size
                  have kM := Blk.new w5 #[.int .i64 mn, .int .i64 md] 32
                  have bM := alloc_below w5 (.cells #[.int .i64 mn, .int .i64 md] 32)
                  have kL6 := kL5.below bM
                  have t6 := (calT_pre gL).trans t5 (CalT.of_below bM)
                  have hlL5 := kL5.lt
                  clear NW hb5 HLL tt x0 kL5 t5
                  by_cases hkq : k ≤ q
                  case pos =>
                    have hkq2 : (k : Int) ≤ (q : Int) := by omega
                    have z0 := kL6.look 0 rfl
                    have z1 := kL6.look 1 rfl
                    have z2 := kM.look 0 rfl
                    have z3 := kM.look 1 rfl
                    go_wp2_with fail
                    refine (OR.out _).mono ?_
                    rintro r w7 ⟨rfl, hb7⟩
                    have kL7 := kL6.below hb7
                    have kM7 := kM.below hb7
                    have t7 := (calT_pre gL).trans t6 (CalT.of_below hb7)
                    clear OR hb7 kL6 kM t6 z0 z1 z2 z3 bM
                    by_cases hz : cz < 0
                    case pos =>
                      have hML : M < Lo := by
                        rcases HCM.out with ⟨h1, -⟩ | ⟨-, h2, -⟩ | ⟨-, h2, -⟩
                        · exact h1
                        · omega
                        · omega
                      have hlow : lowTo (sumT l) k j (q + 1) = M := by rw [HST2.out, if_pos ⟨hkq, hML⟩]
                      have z0 := kM7.look 0 rfl
                      have z1 := kM7.look 1 rfl
                      have z2 := kL7.look 0 rfl
                      have z3 := kL7.look 1 rfl
                      have f2 := kL7.frozen
                      have k8 := hid ((kL7.set 0 (.int .i64 mn)).set 1 (.int .i64 md))
                      have t8 := hid ((calT_pre gL).trans t7 ((calT_pre gL).trans (CalT.set gL w7 ⟨gL, 0, none⟩ rfl (.int .i64 mn)) (CalT.set gL (w7.setCell ⟨gL, 0, none⟩ (.int .i64 mn)) ⟨gL, 1, none⟩ rfl (.int .i64 md))))
                      have HLW := hid hlow
                      clear hlow hML HST2 HCM kL7 kM7 t7
                      go_wp2
                      go_roundw
                      case rel => exact ⟨t + 1, q + 1, by rw [HS1.out], by go_num, by rw [HQ.out]; omega, by omega, by rw [HLW.out, HMN.out, HMD.out]; exact k8, t8.out⟩
                      case measure => simp [intOf] <;> omega
                    case neg =>
                      have hlow : lowTo (sumT l) k j (q + 1) = Lo := by
                        rw [HST2.out, if_neg]
                        rintro ⟨-, h1⟩
                        rcases HCM.out with ⟨-, h2, -⟩ | ⟨h2, -⟩ | ⟨h2, -⟩
                        · omega
                        · exact absurd h1 (by grind)
                        · rw [h2] at h1; exact Rat.lt_irrefl h1
                      have HLW := hid hlow
                      have k8 := hid kL7
                      clear hlow HST2 HCM kL7 kM7
                      go_wp2
                      go_roundw
                      case rel => exact ⟨t + 1, q + 1, by rw [HS1.out], by go_num, by rw [HQ.out]; omega, by omega, by rw [HLW.out, HLN.out, HLD.out]; exact k8, t7⟩
                      case measure => simp [intOf] <;> omega
                  case neg =>
                    have hkq2 : ¬ (k : Int) ≤ (q : Int) := by omega
                    have hlow : lowTo (sumT l) k j (q + 1) = Lo := by
                      rw [HST2.out, if_neg]
                      rintro ⟨h1, -⟩
                      exact hkq h1
                    have HLW := hid hlow
                    have k8 := hid kL6
                    clear hlow HST2 HCM OR kL6 kM bM
                    go_wp2
                    go_roundw
                    case rel => exact ⟨t + 1, q + 1, by rw [HS1.out], by go_num, by rw [HQ.out]; omega, by omega, by rw [HLW.out, HLN.out, HLD.out]; exact k8, t6⟩
                    case measure => simp [intOf] <;> omega
                case neg =>
                  obtain rfl : i = q := by omega
                  have hqi3 : ¬ (i : Int) < (i : Int) := by omega
                  clear hq
                  have bq : Below gL wq wr := CalT.below BLQ.out tt (Nat.le_refl _) (by omega)
                  have tB3 : CalT gB wB wr := (calT_pre gB).trans TQ.out (CalT.of_below (by rw [HGL.out]; exact bq))
                  have kB3 := CalT.blk tt HB2.out (by omega)
                  have kL3 := HLL.out
                  have hst := HST.out
                  obtain ⟨Lo, hLo⟩ : ∃ M, lowTo (sumT l) k j i = M := ⟨_, rfl⟩
                  obtain ⟨Be, hBe⟩ : ∃ M, bestTo (sumT l) i k j = M := ⟨_, rfl⟩
                  have hLf := HFL.out
                  have hBf := HFB.out
                  rw [hLo] at kL3 hst hLf
                  rw [hBe] at kB3 hst hBf
                  have OR := hid (fun w => rorder_any Lo Be hLf hBf w)
                  have hcm := cmp_cases Lo Be
                  obtain ⟨cz, hcz⟩ : ∃ z, cmpQ Lo Be = z := ⟨_, rfl⟩
                  rw [hcz] at OR hcm
                  have HCM := hid hcm
                  have HST3 := hid hst
                  unfold frQ at OR
                  obtain ⟨bn, hbn⟩ : ∃ z, Be.num = z := ⟨_, rfl⟩
                  obtain ⟨bd, hbd⟩ : ∃ z, (Be.den : Int) = z := ⟨_, rfl⟩
                  obtain ⟨ln, hln⟩ : ∃ z, Lo.num = z := ⟨_, rfl⟩
                  obtain ⟨ld, hld⟩ : ∃ z, (Lo.den : Int) = z := ⟨_, rfl⟩
                  rw [hln, hld] at kL3 OR
                  rw [hbn, hbd] at kB3 OR
                  have HLN := hid hln
                  have HLD := hid hld
                  have HBN := hid hbn
                  have HBD := hid hbd
                  have z0 := kL3.look 0 rfl
                  have z1 := kL3.look 1 rfl
                  have z2 := kB3.look 0 rfl
                  have z3 := kB3.look 1 rfl
                  clear hcz hcm hst hLo hBe hLf hBf hln hld hbn hbd HLL HST HFL HFB tt HL0 bq
                  go_wp2_with fail
                  refine (OR.out _).mono ?_
                  rintro r w7 ⟨rfl, hb7⟩
                  have kL7 := kL3.below hb7
                  have kB7 := kB3.below hb7
                  have t7 := (calT_pre gB).trans tB3 (CalT.of_below hb7)
                  clear OR hb7 kL3 kB3 tB3 z0 z1 z2 z3
                  by_cases hz : cz > 0
                  case pos =>
                    have hML : Be < Lo := by
                      rcases HCM.out with ⟨-, h2, -⟩ | ⟨h1, -⟩ | ⟨-, h2, -⟩
                      · omega
                      · exact h1
                      · omega
                    have hlow : bestTo (sumT l) i k (j + 1) = Lo := by rw [HST3.out, if_pos hML]
                    have z0 := kL7.look 0 rfl
                    have z1 := kL7.look 1 rfl
                    have z2 := kB7.look 0 rfl
                    have z3 := kB7.look 1 rfl
                    have f2 := kB7.frozen
                    have k8 := hid ((kB7.set 0 (.int .i64 ln)).set 1 (.int .i64 ld))
                    have t8 := hid ((calT_pre gB).trans t7 ((calT_pre gB).trans (CalT.set gB w7 ⟨gB, 0, none⟩ rfl (.int .i64 ln)) (CalT.set gB (w7.setCell ⟨gB, 0, none⟩ (.int .i64 ln)) ⟨gB, 1, none⟩ rfl (.int .i64 ld))))
                    have HLW := hid hlow
                    clear hlow hML HST3 HCM kL7 kB7 t7
                    go_wp2
                    go_roundw
                    case rel => exact ⟨j + 1, by go_num, by omega, by rw [HLW.out, HLN.out, HLD.out]; exact k8, t8.out⟩
                    case measure => simp [intOf] <;> omega
                  case neg =>
                    have hlow : bestTo (sumT l) i k (j + 1) = Be := by
                      rw [HST3.out, if_neg]
                      intro h1
                      rcases HCM.out with ⟨h2, -⟩ | ⟨-, h2, -⟩ | ⟨h2, -⟩
                      · grind
                      · omega
                      · rw [h2] at h1; exact Rat.lt_irrefl h1
                    have HLW := hid hlow
                    have k8 := hid kB7
                    clear hlow HST3 HCM kL7 kB7
                    go_wp2
                    go_roundw
                    case rel => exact ⟨j + 1, by go_num, by omega, by rw [HLW.out, HBN.out, HBD.out]; exact k8, t7⟩
                    case measure => simp [intOf] <;> omega
            case neg =>
              obtain rfl : j = k + 1 := by omega
              have hjk2 : ¬ ((k + 1 : Nat) : Int) ≤ (k : Int) := by omega
              have kB3 := HBB.out
              rw [← HG.out k hki] at kB3
              have hFC := frsC_take R (show k < R.length by rw [HR.out]; exact hki)
              unfold frC at hFC
              obtain ⟨Be, hBe⟩ : ∃ M, R.getD k 0 = M := ⟨_, rfl⟩
              rw [hBe] at kB3 hFC
              obtain ⟨bn, hbn⟩ : ∃ z, Be.num = z := ⟨_, rfl⟩
              obtain ⟨bd, hbd⟩ : ∃ z, (Be.den : Int) = z := ⟨_, rfl⟩
              rw [hbn, hbd] at kB3 hFC
              have HFC := hid hFC
              have hbq := CalT.below hbB tq hsr (Nat.le_trans hsr (Nat.le_of_lt hlB))
              have HOQ := hid (owns_calT' tq HOB.out HNE.out)
              have z0 := kB3.look 0 rfl
              have z1 := kB3.look 1 rfl
              have hsS : wS.heap.size ≤ wr.heap.size := by omega
              clear hFC hBe hbn hbd HBB tq
              go_wp2_with (first
                | (at_builtin; refine wpList_appH rfl (.tmp 80) (.tmp 82) _ rfl wS.heap.size 32 (frV 0 0) 2 16 Tryd.underlying23 infoFrac rfl (by decide) 32 _ _ _ rfl HOQ.out [.int .i64 bn, .int .i64 bd] _ (by first | rfl | simp) rfl rfl (by simp [Value.oneCell']) (by unfold maxLen; omega) (by omega) (by omega) ?_; intro g5 gcap w7 ho7 hb7 _ _ _))
              go_roundw
              case rel =>
                refine ⟨k + 1, by go_num, by omega, ?_, hbq.trans hb7⟩
                rw [HFC.out]
                exact hid ho7
              case measure => simp [intOf] <;> omega
        case neg =>
          obtain rfl : i = k := by omega
          have hk2 : ¬ (i : Int) < (i : Int) := by omega
          obtain ⟨ao9, cap9, rfl, -⟩ := id (SlR.of_owns HO.out)
          have hfin := SlR.of_owns HO.out
          rw [List.take_of_length_le (Nat.le_of_eq HR.out)] at hfin
          have HFIN := hid hfin
          clear hfin HO
          go_wp2
          go_ret2
          refine ⟨⟨_, rfl, ?_⟩, hbel⟩
          unfold QsR
          rw [HR.out]
          exact HFIN.out

end Go.Proofs.YtfkclcoipadhmaaDoor
