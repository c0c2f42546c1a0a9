/- Walk of slices.Compact at fractions. -/
import Derived.Test.YtfkclcoipadhmaaDoorDm
namespace Go.Proofs.YtfkclcoipadhmaaDoor
open Go.RowKit
attribute [local irreducible] seqS seqST walkV walkJ

theorem rat_eq_iff' (p q : Rat) : p = q ↔ p.num = q.num ∧ (p.den : Int) = (q.den : Int) := by
  constructor
  · rintro rfl; exact ⟨rfl, rfl⟩
  · rintro ⟨h1, h2⟩
    exact Rat.ext h1 (by omega)
/-- Number t is kept when neighbours that are alike are made one. -/
def newB (l : List Rat) (t : Nat) : Bool := decide (t = 0) || decide (l.getD (t - 1) 0 ≠ l.getD t 0)
def ddTo (l : List Rat) (j : Nat) : List Rat := ((List.range j).filter (newB l)).map fun t => l.getD t 0
theorem ddTo_yes {l : List Rat} {j : Nat} (h : newB l j = true) : ddTo l (j + 1) = ddTo l j ++ [l.getD j 0] := by
  unfold ddTo; rw [List.range_succ, List.filter_append, List.map_append]; simp [h]
theorem ddTo_no {l : List Rat} {j : Nat} (h : newB l j = false) : ddTo l (j + 1) = ddTo l j := by
  unfold ddTo; rw [List.range_succ, List.filter_append, List.map_append]; simp [h]
theorem ddTo_all {l : List Rat} : ∀ {j : Nat}, j ≤ l.length → (∀ t, 1 ≤ t → t < j → l.getD (t - 1) 0 ≠ l.getD t 0) → ddTo l j = l.take j
  | 0, _, _ => rfl
  | j + 1, hj, h => by
    have hn : newB l j = true := by
      unfold newB
      by_cases h0 : j = 0
      · rw [decide_eq_true h0]; rfl
      · rw [show decide (l.getD (j - 1) 0 ≠ l.getD j 0) = true from decide_eq_true (h j (by omega) (by omega)), Bool.or_true]
    rw [ddTo_yes hn, ddTo_all (by omega) (fun t h1 h2 => h t h1 (by omega)), List.take_succ_eq_append_getElem (by omega), List.getD_eq_getElem?_getD, List.getElem?_eq_getElem (by omega)]
    rfl
/-- The row, as Compact goes. -/
structure DupI (l : List Rat) (i j : Nat) (R : List Rat) : Prop where
  lt : i < j
  le : j ≤ l.length
  len : R.length = l.length
  done : R.take i = ddTo l j
  left : ∀ k, j ≤ k + 1 → R.getD k 0 = l.getD k 0
theorem DupI.keep {l : List Rat} {i j : Nat} {R : List Rat} (h : DupI l i j R) (hj : j < l.length) (hq : l.getD (j - 1) 0 ≠ l.getD j 0) : DupI l (i + 1) (j + 1) (R.set i (l.getD j 0)) where
  lt := by have := h.lt; omega
  le := by omega
  len := by rw [List.length_set, h.len]
  done := by
    have hi : i < R.length := by have := h.lt; have := h.len; omega
    have hA : (R.take i).length = i := by rw [List.length_take]; omega
    have hn : newB l j = true := by unfold newB; rw [show decide (l.getD (j - 1) 0 ≠ l.getD j 0) = true from decide_eq_true hq, Bool.or_true]
    rw [ddTo_yes hn, ← h.done, List.set_eq_take_append_cons_drop, if_pos hi, List.take_append, hA, List.take_of_length_le (by omega), show i + 1 - i = 1 by omega]
    rfl
  left := by
    intro k hk
    have := h.lt
    rw [List.getD_eq_getElem?_getD, List.getElem?_set_ne (by omega), ← List.getD_eq_getElem?_getD]
    exact h.left k (by omega)
theorem DupI.drop {l : List Rat} {i j : Nat} {R : List Rat} (h : DupI l i j R) (hj : j < l.length) (hq : l.getD (j - 1) 0 = l.getD j 0) : DupI l i (j + 1) R where
  lt := by have := h.lt; omega
  le := by omega
  len := h.len
  done := by
    have := h.lt
    have hn : newB l j = false := by unfold newB; rw [decide_eq_false (show ¬ j = 0 by omega)]; simp only [Bool.false_or]; exact decide_eq_false (fun h => h hq)
    rw [ddTo_no hn, h.done]
  left := fun k hk => h.left k (by omega)
structure CompR (l : List Rat) (g cap : Nat) (r : Ending) (w' : World) : Prop where
  out : ∃ F, F = ddTo l l.length ∧ r = .returned (.slice (some ⟨g, 0, none⟩) F.length cap) ∧ QRow w' g F

set_option maxHeartbeats 8000000 in
set_option maxRecDepth 100000 in
theorem Compact_any (l : List Rat) (B g n cap : Nat) (w : World) (hn : l.length = n) (hn2 : n ≤ 1000) (hcap : n ≤ cap) (hmax : cap ≤ maxLen) (hgB : B ≤ g) (hgs : g < w.heap.size) (hR : QRow w g l) :
    Calls Tryd.prog 126 #[.slice (some ⟨g, 0, none⟩) n cap] w fun r w' => CompR l g cap r w' ∧ Below B w w' := by
  unfold maxLen at hmax
  have HR := hid hR
  have HN := hid hn
  clear hR hn
  have hBw : B ≤ w.heap.size := by omega
  go_enter Tryd.func126, Tryd.ntmps126
  by_cases hn1 : n < 2
  · have hn1i : (n : Int) < 2 := by omega
    have hd : ddTo l l.length = l := by
      rw [ddTo_all (Nat.le_refl _) (fun t h1 h2 => by rw [HN.out] at h2; omega), List.take_length]
    have HD := hid hd
    clear hd
    go_wp2
    go_ret
    exact ⟨⟨l, HD.out.symm, by rw [HN.out]; rfl, HR.out⟩, Below.refl _ _⟩
  have hn1i : ¬ (n : Int) < 2 := by omega
  go_wp2_with fail
  go_loopw [3] (fun x' wr => ∃ i : Nat, x' = .int .i64 i ∧ 1 ≤ i ∧ i ≤ n ∧ Hid (∀ t, 1 ≤ t → t < i → l.getD (t - 1) 0 ≠ l.getD t 0) ∧ Below w.heap.size w wr) (fun x' _ => n - (intOf x').toNat)
  case atStart => exact ⟨1, rfl, Nat.le_refl _, by omega, hid (fun t h1 h2 => by omega), Below.refl _ _⟩
  case round =>
    obtain ⟨i, rfl, hi1, hi, HNO, hbel⟩ := hrel
    have HQ : Hid (QRow wr g l) := hid (RowF.below HR.out hgs hbel)
    have hBb : Below B w wr := hbel.mono hBw
    by_cases hin : i < n
    · have hin2 : (i : Int) < (n : Int) := by omega
      have hI1 : i - 1 < n := by omega
      have wI : IntKind.i64.wrap ((i : Int) - 1) = ((i - 1 : Nat) : Int) := by rw [IntWalk.i64_left]; unfold wrap64; omega
      go_wp2_with fail
      have hgr : g < wr.heap.size := by have := hbel.size; omega
      have hd := (Below.refl wr.heap.size wr).drew
      have hq := fun x : SubT (Below wr.heap.size) wr.drew => QRow.get (show QRow x.w g l from RowF.below HQ.out hgr (hd.trans x.b)) (i := i) (by rw [HN.out]; exact hin)
      have hq' := fun x : SubT (Below wr.heap.size) wr.drew => QRow.get (show QRow x.w g l from RowF.below HQ.out hgr (hd.trans x.b)) (i := i - 1) (by rw [HN.out]; exact hI1)
      obtain ⟨S, hS⟩ : ∃ S, l.getD i 0 = S := ⟨_, rfl⟩
      obtain ⟨U, hU⟩ : ∃ S, l.getD (i - 1) 0 = S := ⟨_, rfl⟩
      rw [hS] at hq
      rw [hU] at hq'
      have s0 := fun x : SubT (Below wr.heap.size) wr.drew => (hq x).1
      have s1 := fun x : SubT (Below wr.heap.size) wr.drew => (hq x).2.1
      have s2 := fun x : SubT (Below wr.heap.size) wr.drew => (hq' x).1
      have s3 := fun x : SubT (Below wr.heap.size) wr.drew => (hq' x).2.1
      have HS := hid hS
      have HU := hid hU
      clear hq hq' hS hU
      have hre := rat_eq_iff' S U
      obtain ⟨n1, hn1⟩ : ∃ z, S.num = z := ⟨_, rfl⟩
      obtain ⟨d1, hd1⟩ : ∃ z, (S.den : Int) = z := ⟨_, rfl⟩
      obtain ⟨n2, hn2⟩ : ∃ z, U.num = z := ⟨_, rfl⟩
      obtain ⟨d2, hd2⟩ : ∃ z, (U.den : Int) = z := ⟨_, rfl⟩
      rw [hn1, hd1, hn2, hd2] at hre
      rw [hn1] at s0
      rw [hd1] at s1
      rw [hn2] at s2
      rw [hd2] at s3
      have HRE := hid hre
      clear hre
      clear hn1 hd1 hn2 hd2
      have go_on : S ≠ U → ∀ t, 1 ≤ t → t < i + 1 → l.getD (t - 1) 0 ≠ l.getD t 0 := by
        intro hne t h1 h2
        by_cases hti : t = i
        · rw [hti, HS.out, HU.out]
          exact fun e => hne e.symm
        · exact HNO.out t h1 (by omega)
      have HGO := hid go_on
      clear go_on
      have hbd := hbel.trans (hd.mono hbel.size)
      by_cases hnn : n1 = n2
      · by_cases hdd : d1 = d2
        · have hSU := hid (HRE.out.2 ⟨hnn, hdd⟩)
          subst hnn hdd
          refine wp_walkJ (T := Below (wr.heap.size)) (belowV_pre _) (.rd 0 (.rd 1 (.rd 2 (.rd 3 (.rd 4 (.rd 5 (.rd 6 (.rd 7 (.rd 8 (.rd 9 (.inv []))))))))))) (by kernel_rfl) rfl (by kernel_rfl) (by kernel_rfl) ?_
          iterate 10 (refine walkJ_rd rfl (fun K hK => ?_); go_simp; refine hK _ ?_; clear hK K)
          refine walkJ_nil ?_
          clear s0 s1 s2 s3
          have HQd : Hid (QRow wr.drew g l) := hid (RowF.below HR.out hgs hbd)
          have hBd : Below B w wr.drew := hbd.mono hBw
          have hD : DupI l i (i + 1) l := by
            refine ⟨Nat.lt_succ_self _, by rw [HN.out]; exact hin, rfl, ?_, fun k _ => rfl⟩
            have hnb : newB l i = false := by
              unfold newB
              rw [decide_eq_false (show ¬ i = 0 by omega), Bool.false_or]
              exact decide_eq_false (fun h => h (by rw [HS.out, HU.out]; exact hSU.out.symm))
            rw [ddTo_no hnb, ddTo_all (by rw [HN.out]; omega) HNO.out]
          have HD := hid hD
          clear hD hd hbel HQ hBb HNO HGO HRE HS HU hbd
          obtain ⟨w2, hw2⟩ : ∃ w2, wr.drew = w2 := ⟨_, rfl⟩
          have hg2 : g < w2.heap.size := by rw [← hw2]; exact hgr
          rw [hw2] at HQd hBd ⊢
          clear hw2
          have hi3 : (i : Int) ≤ (n : Int) := by omega
          have hi4 : (i : Int) ≤ (cap : Int) := by omega
          have hnc : (n : Int) ≤ (cap : Int) := by omega
          go_wp2_with fail
          go_loopw [3, 5] (fun x' y' wr => ∃ (c k : Nat) (R : List Rat), x' = .int .i64 c ∧ y' = .int .i64 k ∧ 1 ≤ k ∧ i + k ≤ n ∧ i ≤ c ∧ Hid (DupI l c (i + k) R) ∧ Hid (QRow wr g R) ∧ Below B w wr ∧ w2.heap.size ≤ wr.heap.size) (fun _ y' _ => n - (intOf y').toNat)
          case atStart => exact ⟨i, 1, l, rfl, rfl, Nat.le_refl _, by omega, Nat.le_refl _, HD, HQd, hBd, Nat.le_refl _⟩
          case round =>
            obtain ⟨c, k, R, rfl, rfl, hk1, hk, hic, HI, HQ, hbel, hsz⟩ := hrel
            have hck := HI.out.lt
            have hRl : R.length = n := by rw [HI.out.len]; exact HN.out
            have hgr : g < wr.heap.size := by omega
            by_cases hkn : i + k < n
            · have hkn2 : (k : Int) < ((n - i : Nat) : Int) := by omega
              have hkn3 : k < n - i := by omega
              have hkn4 : k - 1 < n - i := by omega
              have hcn : c < n := by omega
              have hcn2 : (c : Int) < (n : Int) := by omega
              have wK : IntKind.i64.wrap ((k : Int) - 1) = ((k - 1 : Nat) : Int) := by rw [IntWalk.i64_left]; unfold wrap64; omega
              go_wp2_with fail
              have hd := (Below.refl wr.heap.size wr).drew
              have hq := fun x : SubT (Below wr.heap.size) wr.drew => QRow.get (show QRow x.w g R from RowF.below HQ.out hgr (hd.trans x.b)) (i := i + k) (by rw [hRl]; exact hkn)
              have hq' := fun x : SubT (Below wr.heap.size) wr.drew => QRow.get (show QRow x.w g R from RowF.below HQ.out hgr (hd.trans x.b)) (i := i + k - 1) (by rw [hRl]; omega)
              rw [HI.out.left (i + k) (by omega), show (i + k) * 2 = i * 2 + k * 2 by omega] at hq
              rw [HI.out.left (i + k - 1) (by omega), show (i + k - 1) * 2 = i * 2 + (k - 1) * 2 by omega] at hq'
              obtain ⟨S, hS⟩ : ∃ S, l.getD (i + k) 0 = S := ⟨_, rfl⟩
              obtain ⟨U, hU⟩ : ∃ S, l.getD (i + k - 1) 0 = S := ⟨_, rfl⟩
              rw [hS] at hq
              rw [hU] at hq'
              have s0 := fun x : SubT (Below wr.heap.size) wr.drew => (hq x).1
              have s1 := fun x : SubT (Below wr.heap.size) wr.drew => (hq x).2.1
              have s2 := fun x : SubT (Below wr.heap.size) wr.drew => (hq' x).1
              have s3 := fun x : SubT (Below wr.heap.size) wr.drew => (hq' x).2.1
              have HS := hid hS
              have HU := hid hU
              clear hq hq' hS hU
              have hre := rat_eq_iff' S U
              have HRE := hid hre
              clear hre
              by_cases hnn : S.num = U.num
              · by_cases hdd : (S.den : Int) = (U.den : Int)
                · have hSU := HRE.out.2 ⟨hnn, hdd⟩
                  subst hSU
                  clear hnn hdd
                  refine wp_walkJ (T := Below (wr.heap.size)) (belowV_pre _) (.rd 0 (.rd 1 (.rd 2 (.rd 3 (.rd 4 (.rd 5 (.rd 6 (.rd 7 (.rd 8 (.rd 9 (.inv []))))))))))) (by kernel_rfl) rfl (by kernel_rfl) (by kernel_rfl) ?_
                  iterate 10 (refine walkJ_rd rfl (fun K hK => ?_); go_simp; refine hK _ ?_; clear hK K)
                  refine walkJ_nil ?_
                  clear s0 s1 s2 s3
                  have HD2 := hid (HI.out.drop (by rw [HN.out]; exact hkn) (by rw [HU.out, HS.out]))
                  have HQd : Hid (QRow wr.drew g R) := hid (RowF.below HQ.out hgr hd)
                  have hbd : Below B w wr.drew := hbel.trans (hd.mono (by omega))
                  clear hd
                  go_wp2
                  go_roundw
                  case rel => exact ⟨c, k + 1, R, rfl, by go_num, by omega, by omega, hic, HD2, HQd, hbd, hsz⟩
                  case measure => simp [intOf]; omega
                · have hSU : S ≠ U := fun e => hdd (HRE.out.1 e).2
                  refine wp_walkJ (T := Below (wr.heap.size)) (belowV_pre _) (.rd 0 (.rd 1 (.rd 2 (.rd 3 (.rd 4 (.rd 5 (.rd 6 (.rd 7 (.rd 8 (.rd 9 (.inv []))))))))))) (by kernel_rfl) rfl (by kernel_rfl) (by kernel_rfl) ?_
                  iterate 10 (refine walkJ_rd rfl (fun K hK => ?_); go_simp; refine hK _ ?_; clear hK K)
                  refine walkJ_nil ?_
                  clear s0 s1 s2 s3
                  try clear hdd
                  try clear hnn
                  have HD2 := hid (HI.out.keep (by rw [HN.out]; exact hkn) (by rw [HU.out, HS.out]; exact fun e => hSU e.symm))
                  rw [HS.out] at HD2
                  have HQd : Hid (QRow wr.drew g R) := hid (RowF.below HQ.out hgr hd)
                  obtain ⟨w3, hw3⟩ : ∃ w3, wr.drew = w3 := ⟨_, rfl⟩
                  have hbd : Below B w wr.drew := hbel.trans (hd.mono (by omega))
                  have hsd : w2.heap.size ≤ wr.drew.heap.size := hsz
                  rw [hw3] at HQd hbd hsd ⊢
                  clear hw3 hSU
                  obtain ⟨y0, y1, f0, f1⟩ := HQd.out.get (i := c) (by rw [hRl]; omega)
                  obtain ⟨u0, u1, -, -⟩ := HQd.out.get (i := i + k) (by rw [hRl]; omega)
                  rw [HI.out.left (i + k) (by omega), HS.out, show (i + k) * 2 = i * 2 + k * 2 by omega] at u0 u1
                  have HQ4 := hid (HQd.out.set (i := c) (by rw [hRl]; omega) S)
                  have hbel4 := (hbd.setCell (p := ⟨g, c * 2, none⟩) hgB (.int .i64 S.num)).setCell (p := ⟨g, c * 2 + 1, none⟩) hgB (.int .i64 (S.den : Int))
                  have hs4 : w2.heap.size ≤ ((w3.setCell ⟨g, c * 2, none⟩ (.int .i64 S.num)).setCell ⟨g, c * 2 + 1, none⟩ (.int .i64 (S.den : Int))).heap.size := by simpa [World.setCell] using hsd
                  have HS4 := hid hs4
                  clear hs4 hsd hbd hd
                  go_wp2
                  go_roundw
                  case rel => exact ⟨c + 1, k + 1, R.set c S, by go_num, by go_num, by omega, by omega, by omega, HD2, HQ4, hbel4, HS4.out⟩
                  case measure => simp [intOf]; omega
              · have hSU : S ≠ U := fun e => hnn (HRE.out.1 e).1
                refine wp_walkJ (T := Below (wr.heap.size)) (belowV_pre _) (.rd 0 (.rd 1 (.rd 2 (.rd 3 (.rd 4 (.rd 5 (.rd 6 (.rd 7 (.rd 8 (.rd 9 (.inv []))))))))))) (by kernel_rfl) rfl (by kernel_rfl) (by kernel_rfl) ?_
                iterate 10 (refine walkJ_rd rfl (fun K hK => ?_); go_simp; refine hK _ ?_; clear hK K)
                refine walkJ_nil ?_
                clear s0 s1 s2 s3
                try clear hdd
                try clear hnn
                have HD2 := hid (HI.out.keep (by rw [HN.out]; exact hkn) (by rw [HU.out, HS.out]; exact fun e => hSU e.symm))
                rw [HS.out] at HD2
                have HQd : Hid (QRow wr.drew g R) := hid (RowF.below HQ.out hgr hd)
                obtain ⟨w3, hw3⟩ : ∃ w3, wr.drew = w3 := ⟨_, rfl⟩
                have hbd : Below B w wr.drew := hbel.trans (hd.mono (by omega))
                have hsd : w2.heap.size ≤ wr.drew.heap.size := hsz
                rw [hw3] at HQd hbd hsd ⊢
                clear hw3 hSU
                obtain ⟨y0, y1, f0, f1⟩ := HQd.out.get (i := c) (by rw [hRl]; omega)
                obtain ⟨u0, u1, -, -⟩ := HQd.out.get (i := i + k) (by rw [hRl]; omega)
                rw [HI.out.left (i + k) (by omega), HS.out, show (i + k) * 2 = i * 2 + k * 2 by omega] at u0 u1
                have HQ4 := hid (HQd.out.set (i := c) (by rw [hRl]; omega) S)
                have hbel4 := (hbd.setCell (p := ⟨g, c * 2, none⟩) hgB (.int .i64 S.num)).setCell (p := ⟨g, c * 2 + 1, none⟩) hgB (.int .i64 (S.den : Int))
                have hs4 : w2.heap.size ≤ ((w3.setCell ⟨g, c * 2, none⟩ (.int .i64 S.num)).setCell ⟨g, c * 2 + 1, none⟩ (.int .i64 (S.den : Int))).heap.size := by simpa [World.setCell] using hsd
                have HS4 := hid hs4
                clear hs4 hsd hbd hd
                go_wp2
                go_roundw
                case rel => exact ⟨c + 1, k + 1, R.set c S, by go_num, by go_num, by omega, by omega, by omega, HD2, HQ4, hbel4, HS4.out⟩
                case measure => simp [intOf]; omega
            · obtain ⟨K, hK⟩ : ∃ K, n - i = K := ⟨_, rfl⟩
              obtain rfl : k = K := by omega
              have hkn2 : ¬ (k : Int) < ((n - i : Nat) : Int) := by omega
              have hkn3 : n - i ≤ k := by omega
              have hnik : i + k = n := by omega
              have hdone := HI.out.done
              rw [hnik, ← HN.out] at hdone
              have HDN := hid hdone
              have hcn : c < n := by omega
              have htl : (R.take c).length = c := by rw [List.length_take]; omega
              have HTL := hid htl
              have hsp : frsC R = frsC (R.take c) ++ frsC (R.drop c) := by rw [← frsC_append, List.take_append_drop]
              have hQ := HQ.out
              unfold QRow at hQ
              rw [hsp] at hQ
              have hov := RowF.over (vs := zerosQ (n - c)) (c := []) (by rw [List.append_nil]; exact hQ) (by rw [zerosQ_len, frsC_len, List.length_drop, hRl])
              rw [frsC_len, htl, Nat.zero_add, List.append_nil] at hov
              have hRd : RowF wr g (c * 2) (frsC (R.drop c)) := by
                intro j u hj
                have h0 := hQ (c * 2 + j) u (by rw [List.getElem?_append_right (by rw [frsC_len, htl]; omega), frsC_len, htl, show c * 2 + j - c * 2 = j by omega]; exact hj)
                rw [Nat.zero_add] at h0
                exact h0
              have hcl : ∀ (ty : TypeId) (c' : Nat), (Builtin.clear_ #[23] ty #[.slice (some ⟨g, c * 2, none⟩) (n - c) c']).run Tryd.prog wr = .ok (.tuple #[]) (wr.setCells g (c * 2) (zerosQ (n - c))) := fun ty c' =>
                run_clear_q wr g c (n - c) c' ty _ (by omega) (by rw [frsC_len, List.length_drop, hRl]) hRd
              have HFB := hid (setCells_below hgB (zerosQ (n - c)) (c * 2) hbel)
              have HFQ : Hid (QRow (wr.setCells g (c * 2) (zerosQ (n - c))) g (R.take c)) := hid (by
                intro j u hj
                exact hov j u (by rw [List.getElem?_append_left (List.getElem?_eq_some_iff.1 hj).1]; exact hj))
              have hcn2 : (c : Int) ≤ (n : Int) := by omega
              have hcn3 : (c : Int) ≤ (cap : Int) := by omega
              clear hov hRd hQ hsp htl hdone hbel hK
              go_wp2
              go_ret
              exact ⟨⟨R.take c, HDN.out, by rw [HTL.out]; rfl, HFQ.out⟩, HFB.out⟩
        · refine wp_walkJ (T := Below (wr.heap.size)) (belowV_pre _) (.rd 0 (.rd 1 (.rd 2 (.rd 3 (.rd 4 (.rd 5 (.rd 6 (.rd 7 (.rd 8 (.rd 9 (.inv []))))))))))) (by kernel_rfl) rfl (by kernel_rfl) (by kernel_rfl) ?_
          iterate 10 (refine walkJ_rd rfl (fun K hK => ?_); go_simp; refine hK _ ?_; clear hK K)
          refine walkJ_nil ?_
          clear s0 s1 s2 s3
          have HNO2 := hid (HGO.out (fun e => hdd (HRE.out.1 e).2))
          clear hdd
          go_wp2
          go_roundw
          case rel => exact ⟨i + 1, by go_num, by omega, by omega, HNO2, hbd⟩
          case measure => simp [intOf]; omega
      · refine wp_walkJ (T := Below (wr.heap.size)) (belowV_pre _) (.rd 0 (.rd 1 (.rd 2 (.rd 3 (.rd 4 (.rd 5 (.rd 6 (.rd 7 (.rd 8 (.rd 9 (.inv []))))))))))) (by kernel_rfl) rfl (by kernel_rfl) (by kernel_rfl) ?_
        iterate 10 (refine walkJ_rd rfl (fun K hK => ?_); go_simp; refine hK _ ?_; clear hK K)
        refine walkJ_nil ?_
        clear s0 s1 s2 s3
        have HNO2 := hid (HGO.out (fun e => hnn (HRE.out.1 e).1))
        clear hnn
        go_wp2
        go_roundw
        case rel => exact ⟨i + 1, by go_num, by omega, by omega, HNO2, hbd⟩
        case measure => simp [intOf]; omega
    · obtain rfl : n = i := by omega
      have hin2 : ¬ (n : Int) < (n : Int) := by omega
      have hd : ddTo l l.length = l := by
        rw [ddTo_all (Nat.le_refl _) (fun t h1 h2 => HNO.out t h1 (by rw [← HN.out]; exact h2)), List.take_length]
      have HD := hid hd
      clear hd
      go_wp2
      go_ret
      exact ⟨⟨l, HD.out.symm, by rw [HN.out]; rfl, HQ.out⟩, hBb⟩

end Go.Proofs.YtfkclcoipadhmaaDoor
