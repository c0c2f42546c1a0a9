/- Walks of curve.Scale, trankref02.Scale. -/
import Derived.Test.YtfkclcoipadhmaaDoorEc
import Derived.Test.YtfkclcoipadhmaaDoorDh
namespace Go.Proofs.YtfkclcoipadhmaaDoor
open Go.RowKit
attribute [local irreducible] seqS seqST walkV walkJ

/-- Two fractions that may be missing, as a point. -/
def pairO (a b : Rat) : Option Pt := (fitO a).bind fun x => (fitO b).map fun y => (x, y)
/-- A row of points, one after another. -/
def rowO (F : Pt → Option Pt) (c : List Pt) : Nat → Option (List Pt)
  | 0 => some []
  | k + 1 => (rowO F c k).bind fun o => (F (c.getD k (0, 0))).map fun p => o ++ [p]
theorem rowO_stay {F : Pt → Option Pt} {c : List Pt} {k : Nat} (h : rowO F c k = none) : ∀ {m : Nat}, k ≤ m → rowO F c m = none := by
  intro m hm
  induction m with
  | zero => obtain rfl : k = 0 := by omega
            exact h
  | succ m ih =>
    by_cases hk : k = m + 1
    · rw [← hk]; exact h
    · show (rowO F c m).bind _ = none
      rw [ih (by omega)]
      rfl
theorem rowO_some {F : Pt → Option Pt} {c : List Pt} {k : Nat} {o : List Pt} {p : Pt} (h : rowO F c k = some o) (h2 : F (c.getD k (0, 0)) = some p) : rowO F c (k + 1) = some (o ++ [p]) := by
  show (rowO F c k).bind _ = _
  rw [h, Option.bind_some, h2]
  rfl
theorem rowO_none {F : Pt → Option Pt} {c : List Pt} {k : Nat} (h2 : F (c.getD k (0, 0)) = none) : rowO F c (k + 1) = none := by
  show (rowO F c k).bind _ = _
  rw [h2]
  cases rowO F c k <;> rfl
theorem rowO_step {F : Pt → Option Pt} {c : List Pt} {i : Nat} {ok : Bool} {o : List Pt} {p : Pt} (h : ok = (rowO F c i).isSome) (h1 : ok = true → rowO F c i = some o) (h2 : (ok && (F (c.getD i (0, 0))).isSome) = true → F (c.getD i (0, 0)) = some p) :
    (ok && (F (c.getD i (0, 0))).isSome) = (rowO F c (i + 1)).isSome ∧ ((ok && (F (c.getD i (0, 0))).isSome) = true → rowO F c (i + 1) = some (o ++ [p])) := by
  cases ok with
  | false =>
    have hn : rowO F c i = none := by
      cases hs : rowO F c i with
      | none => rfl
      | some x => rw [hs] at h; cases h
    rw [rowO_stay hn (Nat.le_succ i)]
    exact ⟨rfl, fun h => by cases h⟩
  | true =>
    cases hf : F (c.getD i (0, 0)) with
    | none => rw [rowO_none hf]; exact ⟨rfl, fun h => by cases h⟩
    | some p' =>
      rw [hf] at h2
      have e : p' = p := Option.some.inj (h2 rfl)
      subst e
      rw [rowO_some (h1 rfl) hf]
      exact ⟨rfl, fun _ => rfl⟩
theorem pair_cal (ok : Bool) (a b : Rat) : copK (copK ok a) b = (ok && (pairO a b).isSome) ∧ ((ok && (pairO a b).isSome) = true → pairO a b = some (copV ok a, copV (copK ok a) b)) := by
  unfold pairO
  cases ok with
  | false => exact ⟨rfl, fun h => by cases h⟩
  | true =>
    by_cases ha : fits a
    · rw [(cop_yes ha).1, (cop_yes ha).2]
      unfold fitO
      rw [if_pos ha, Option.bind_some]
      by_cases hb : fits b
      · rw [(cop_yes hb).1, (cop_yes hb).2, if_pos hb]
        exact ⟨rfl, fun _ => rfl⟩
      · rw [(cop_over hb).1, if_neg hb]
        exact ⟨rfl, fun h => by cases h⟩
    · rw [(cop_over ha).1]
      unfold fitO
      rw [if_neg ha]
      exact ⟨rfl, fun h => by cases h⟩

/-- What Scale hands back. -/
def scaOK (c : List P4) (n1 d1 n2 d2 : Int) : Prop := RV c ∧ FV n1 d1 ∧ FV n2 d2 ∧ 0 < n1 ∧ 0 < n2
instance (c : List P4) (n1 d1 n2 d2 : Int) : Decidable (scaOK c n1 d1 n2 d2) := inferInstanceAs (Decidable (_ ∧ _))
def scaF (n1 d1 n2 d2 : Int) (p : Pt) : Option Pt := pairO (p.1 * vq (n1, d1)) (p.2 * vq (n2, d2))
def scaE (c : List P4) (n1 d1 n2 d2 : Int) : Int := if scaOK c n1 d1 n2 d2 then (match rowO (scaF n1 d1 n2 d2) (toQ c) c.length with | some _ => 0 | none => 5) else 2
def scaL (c : List P4) (n1 d1 n2 d2 : Int) : List Pt := if scaOK c n1 d1 n2 d2 then (rowO (scaF n1 d1 n2 d2) (toQ c) c.length).getD [] else []

set_option maxHeartbeats 8000000 in
set_option maxRecDepth 100000 in
theorem Scale_any (c : List P4) (n1 d1 n2 d2 : Int) (v : Value) (w : World) (h : P4R 0 w v c) (hz : Z0 w) :
    Calls Tryd.prog 27 #[v, .agg #[.int .i64 n1, .int .i64 d1], .agg #[.int .i64 n2, .int .i64 d2]] w fun r w' => (∃ v', r = .returned (.tuple #[v', .int .i64 (scaE c n1 d1 n2 d2)]) ∧ PsR w.heap.size w' v' (scaL c n1 d1 n2 d2)) ∧ Below w.heap.size w w' := by
  have VA := hid (fun w h hz => cValid_any c v w h hz)
  obtain ⟨ao, cap, rfl, hcap, hmax, hc⟩ := id h
  unfold maxLen at hmax
  obtain ⟨E, hE⟩ : ∃ E, scaE c n1 d1 n2 d2 = E := ⟨_, rfl⟩
  obtain ⟨R, hR⟩ : ∃ R, scaL c n1 d1 n2 d2 = R := ⟨_, rfl⟩
  rw [hE, hR]
  have HE := hid hE
  have HR := hid hR
  obtain ⟨L, hL⟩ : ∃ L, c.length = L := ⟨_, rfl⟩
  rw [hL] at VA hcap h ⊢
  have HL := hid hL
  have k0 := (Blk.new w #[.int .i64 n1, .int .i64 d1] 32).alloc (.cells #[.int .i64 n2, .int .i64 d2] 32)
  have k1 := Blk.new (w.alloc (.cells #[.int .i64 n1, .int .i64 d1] 32)) #[.int .i64 n2, .int .i64 d2] 32
  have b0 := ((Below.refl w.heap.size w).alloc (Nat.le_refl _) (.cells #[.int .i64 n1, .int .i64 d1] 32)).alloc (by simp) (.cells #[.int .i64 n2, .int .i64 d2] 32)
  rw [World.size_alloc] at k1
  clear hE hR hL hc
  go_enter Tryd.func27, Tryd.ntmps27
  go_wp2_with fail
  obtain ⟨w0, hw0⟩ : ∃ w0, (w.alloc (.cells #[.int .i64 n1, .int .i64 d1] 32)).alloc (.cells #[.int .i64 n2, .int .i64 d2] 32) = w0 := ⟨_, rfl⟩
  rw [hw0] at k0 k1 b0 ⊢
  clear hw0
  have h0 := h.below b0
  have hz0 := hz.below b0
  refine (VA.out _ h0 hz0).mono ?_
  rintro r w1 ⟨rfl, hb1⟩
  have hB := b0.trans (hb1.mono b0.size)
  have k01 := k0.below hb1
  have k11 := k1.below hb1
  have h1 := h0.below hb1
  have hz1 := hz0.below hb1
  clear VA h0 hz0 h hz k0 k1 b0 hb1
  by_cases hrv : RV c
  case neg =>
    rw [decide_eq_false hrv]
    have hno : ¬ scaOK c n1 d1 n2 d2 := fun h => hrv h.1
    have e1 : E = 2 := by rw [← HE.out]; exact if_neg hno
    have e2 : R = [] := by rw [← HR.out]; exact if_neg hno
    subst e1 e2
    clear hno
    go_wp2
    go_ret2
    exact ⟨⟨_, rfl, SlR.nil _ _⟩, hB⟩
  rw [decide_eq_true hrv]
  have HRV := hid hrv
  have c0 := k01.look 0 rfl
  have c1 := k01.look 1 rfl
  clear hrv
  go_wp2_with fail
  refine (fValid_any n1 d1 _).mono ?_
  rintro r w2 ⟨rfl, hb2⟩
  replace hB := hB.trans (hb2.mono hB.size)
  have k02 := k01.below hb2
  have k12 := k11.below hb2
  have h2 := h1.below hb2
  have hz2 := hz1.below hb2
  clear k01 k11 h1 hz1 hb2 c0 c1
  by_cases hf1 : FV n1 d1
  case neg =>
    rw [decide_eq_false hf1]
    have hno : ¬ scaOK c n1 d1 n2 d2 := fun h => hf1 h.2.1
    have e1 : E = 2 := by rw [← HE.out]; exact if_neg hno
    have e2 : R = [] := by rw [← HR.out]; exact if_neg hno
    subst e1 e2
    clear hno
    go_wp2
    go_ret2
    exact ⟨⟨_, rfl, SlR.nil _ _⟩, hB⟩
  rw [decide_eq_true hf1]
  have HF1 := hid hf1
  have c0 := k12.look 0 rfl
  have c1 := k12.look 1 rfl
  clear hf1
  go_wp2_with fail
  refine (fValid_any n2 d2 _).mono ?_
  rintro r w3 ⟨rfl, hb3⟩
  replace hB := hB.trans (hb3.mono hB.size)
  have k03 := k02.below hb3
  have k13 := k12.below hb3
  have h3 := h2.below hb3
  have hz3 := hz2.below hb3
  clear k02 k12 h2 hz2 hb3 c0 c1
  have x0 := k03.look 0 rfl
  have x1 := k03.look 1 rfl
  have x2 := k13.look 0 rfl
  have x3 := k13.look 1 rfl
  by_cases hf2 : FV n2 d2
  case neg =>
    rw [decide_eq_false hf2]
    have hno : ¬ scaOK c n1 d1 n2 d2 := fun h => hf2 h.2.2.1
    have e1 : E = 2 := by rw [← HE.out]; exact if_neg hno
    have e2 : R = [] := by rw [← HR.out]; exact if_neg hno
    subst e1 e2
    clear hno
    go_wp2
    go_ret2
    exact ⟨⟨_, rfl, SlR.nil _ _⟩, hB⟩
  rw [decide_eq_true hf2]
  have HF2 := hid hf2
  clear hf2
  by_cases hp1 : n1 ≤ 0
  case pos =>
    have hno : ¬ scaOK c n1 d1 n2 d2 := fun h => by have := h.2.2.2.1; omega
    have e1 : E = 2 := by rw [← HE.out]; exact if_neg hno
    have e2 : R = [] := by rw [← HR.out]; exact if_neg hno
    subst e1 e2
    clear hno
    go_wp2
    go_ret2
    exact ⟨⟨_, rfl, SlR.nil _ _⟩, hB⟩
  by_cases hp2 : n2 ≤ 0
  case pos =>
    have hno : ¬ scaOK c n1 d1 n2 d2 := fun h => by have := h.2.2.2.2; omega
    have e1 : E = 2 := by rw [← HE.out]; exact if_neg hno
    have e2 : R = [] := by rw [← HR.out]; exact if_neg hno
    subst e1 e2
    clear hno
    go_wp2
    go_ret2
    exact ⟨⟨_, rfl, SlR.nil _ _⟩, hB⟩
  have hok : scaOK c n1 d1 n2 d2 := ⟨HRV.out, HF1.out, HF2.out, by omega, by omega⟩
  have e1 : scaE c n1 d1 n2 d2 = (match rowO (scaF n1 d1 n2 d2) (toQ c) c.length with | some _ => 0 | none => 5) := if_pos hok
  have e2 : scaL c n1 d1 n2 d2 = (rowO (scaF n1 d1 n2 d2) (toQ c) c.length).getD [] := if_pos hok
  have HX : Hid (rowO (scaF n1 d1 n2 d2) (toQ c) L = none → E = 5 ∧ R = []) := hid (fun hh => by rw [← HE.out, ← HR.out, e1, e2, HL.out, hh]; exact ⟨rfl, rfl⟩)
  have HY : Hid (∀ l, rowO (scaF n1 d1 n2 d2) (toQ c) L = some l → E = 0 ∧ R = l) := hid (fun l hh => by rw [← HE.out, ← HR.out, e1, e2, HL.out, hh]; exact ⟨rfl, rfl⟩)
  have hq : PsR 0 w3 (.slice ao L cap) (toQ c) := P4R.toQ (h3 : P4R 0 w3 (.slice ao L cap) c) HRV.out
  have hcv := rv_cv HRV.out
  have hlen := toQ_len c
  rw [HL.out] at hlen
  generalize toQ c = C at hq hcv hlen HX HY
  have hL2 : 2 ≤ L := by have := hcv.two; omega
  have hL48 : L ≤ 48 := by have := hcv.most; omega
  have CVC := hid hcv
  have HCL := hid hlen
  obtain ⟨ao2, cap2, he2, -, -, hcc⟩ := hq
  obtain ⟨rfl, -⟩ : ao2 = ao ∧ True := by
    injection he2 with g1 g2 g3
    exact ⟨g1.symm, trivial⟩
  obtain ⟨b, off, rfl, hb, -, -, -, -⟩ := p_cell hcc (show 0 < C.length by omega)
  have HCC := hid hcc
  have M1 := hid (fun p hp g ok w hz hk => calc_mul p (vq (n1, d1)) hp (vq_fits HF1.out) g ok w hz hk)
  have M2 := hid (fun p hp g ok w hz hk => calc_mul p (vq (n2, d2)) hp (vq_fits HF2.out) g ok w hz hk)
  rw [frQ_vq HF1.out] at M1
  rw [frQ_vq HF2.out] at M2
  obtain ⟨K1, hK1⟩ : ∃ k, vq (n1, d1) = k := ⟨_, rfl⟩
  obtain ⟨K2, hK2⟩ : ∃ k, vq (n2, d2) = k := ⟨_, rfl⟩
  rw [hK1] at M1
  rw [hK2] at M2
  have HSF : Hid (∀ p, scaF n1 d1 n2 d2 p = pairO (p.1 * K1) (p.2 * K2)) := hid (fun p => by unfold scaF; rw [hK1, hK2])
  generalize scaF n1 d1 n2 d2 = F at HSF HX HY
  obtain ⟨B, hBs⟩ : ∃ B, w3.heap.size = B := ⟨_, rfl⟩
  have HBS := hid hBs
  have HB := hid hB
  have HZ := hid hz3
  have kg := Blk.new w3 #[.int .i64 0] 68
  have ba := alloc_below w3 (.cells #[.int .i64 0] 68)
  have hsb : B + 1 ≤ (w3.alloc (.cells #[.int .i64 0] 68)).heap.size := by rw [← hBs]; simp
  obtain ⟨w4, hw4⟩ : ∃ w4, w3.alloc (.cells #[.int .i64 0] 68) = w4 := ⟨_, rfl⟩
  rw [hw4, hBs] at kg
  rw [hw4, hBs] at ba
  rw [hw4] at hsb
  have K03 := hid k03
  have K13 := hid k13
  have hlt0 : w.heap.size < B := by rw [← hBs]; exact k03.lt
  have hlt1 : w.heap.size + 1 < B := by rw [← hBs]; exact k13.lt
  rw [hBs] at hb
  have HKG : Hid (CalB w4 B true) := hid kg
  clear e1 e2 hok hK1 hK2 hcv hlen he2 hcc h3 hz3 k03 k13 hB HE HR kg
  go_wp2_with fail
  clear hw4 hBs
  go_loopw [9, 37] (fun y x wr => ∃ i : Nat, x = .int .i64 i ∧ i ≤ L ∧ (∃ ok l, ok = (rowO F C i).isSome ∧ (ok = true → rowO F C i = some l) ∧ l.length = i ∧ Hid (wr.ownsRow (B + 1) 52 4 y i (ptsC l)) ∧ Hid (CalB wr B ok)) ∧ Below B w3 wr ∧ B + 1 ≤ wr.heap.size) (fun _ x _ => L - (intOf x).toNat)
  case atStart => exact ⟨0, rfl, Nat.zero_le _, ⟨true, [], rfl, fun _ => rfl, rfl, hid (World.ownsRow_nil _ _ _ _), HKG⟩, ba, hsb⟩
  case round =>
    obtain ⟨i, rfl, hi, ⟨ok, l, hok, hokl, hll, HO, HK⟩, hbel, hsr⟩ := hrel
    have hzr : Z0 wr := HZ.out.below (by rw [HBS.out]; exact hbel)
    have kr0 : Blk wr w.heap.size #[.int .i64 n1, .int .i64 d1] 32 := K03.out.below' hbel hlt0
    have kr1 : Blk wr (w.heap.size + 1) #[.int .i64 n2, .int .i64 d2] 32 := K13.out.below' hbel hlt1
    by_cases hiL : i < L
    · have hi2 : (i : Int) < (L : Int) := by omega
      obtain ⟨b', off', he, hb', x0, x1, x2, x3⟩ := p_cell HCC.out (show i < C.length by rw [HCL.out]; exact hiL)
      cases he
      replace x0 := (hbel.cell (p := ⟨b, off + i * 4, none⟩) hb).trans x0
      replace x1 := (hbel.cell (p := ⟨b, off + i * 4 + 1, none⟩) hb).trans x1
      replace x2 := (hbel.cell (p := ⟨b, off + i * 4 + 2, none⟩) hb).trans x2
      replace x3 := (hbel.cell (p := ⟨b, off + i * 4 + 3, none⟩) hb).trans x3
      have hP := CVC.out.fit i (by rw [HCL.out]; exact hiL)
      have hst := fun p h2 => rowO_step (p := p) hok hokl h2
      obtain ⟨P, hPe⟩ : ∃ P, C.getD i (0, 0) = P := ⟨_, rfl⟩
      rw [hPe] at x0 x1 x2 x3 hP hst
      have hpc := pair_cal ok (P.1 * K1) (P.2 * K2)
      rw [← HSF.out P] at hpc
      have hst2 := hst _ hpc.2
      rw [← hpc.1] at hst2
      have MA := hid (fun w hz hk => M1.out P.1 hP.1 B ok w hz hk)
      have MB := hid (fun w hz hk => M2.out P.2 hP.2 B (copK ok (P.1 * K1)) w hz hk)
      obtain ⟨k1', hk1'⟩ : ∃ k, copK ok (P.1 * K1) = k := ⟨_, rfl⟩
      rw [hk1'] at MA MB hst2
      obtain ⟨k2', hk2'⟩ : ∃ k, copK k1' (P.2 * K2) = k := ⟨_, rfl⟩
      rw [hk2'] at MB hst2
      obtain ⟨v1, hv1⟩ : ∃ k, copV ok (P.1 * K1) = k := ⟨_, rfl⟩
      obtain ⟨v2, hv2⟩ : ∃ k, copV k1' (P.2 * K2) = k := ⟨_, rfl⟩
      rw [hv1] at MA hst2
      rw [hv2] at MB hst2
      unfold frQ at MA MB
      have HST := hid hst2
      have HLL := hid hll
      obtain ⟨p1, hp1⟩ : ∃ z, v1.num = z := ⟨_, rfl⟩
      obtain ⟨p2, hp2⟩ : ∃ z, (v1.den : Int) = z := ⟨_, rfl⟩
      obtain ⟨p3, hp3⟩ : ∃ z, v2.num = z := ⟨_, rfl⟩
      obtain ⟨p4, hp4⟩ : ∃ z, (v2.den : Int) = z := ⟨_, rfl⟩
      have HPC : Hid (ptsC [(v1, v2)] = [.int .i64 p1, .int .i64 p2, .int .i64 p3, .int .i64 p4]) := hid (by rw [← hp1, ← hp2, ← hp3, ← hp4]; rfl)
      rw [hp1, hp2] at MA
      rw [hp3, hp4] at MB
      clear hst hst2 hpc hPe hk1' hk2' hv1 hv2 hP hok hokl hll hp1 hp2 hp3 hp4
      go_wp2_with fail
      have bA := alloc_below wr (.cells #[.int .i64 P.1.num, .int .i64 (P.1.den : Int), .int .i64 P.2.num, .int .i64 (P.2.den : Int)] 52)
      have kp := Blk.new wr #[.int .i64 P.1.num, .int .i64 (P.1.den : Int), .int .i64 P.2.num, .int .i64 (P.2.den : Int)] 52
      have hbr : B ≤ wr.heap.size := by omega
      have HOA := owns_below HO.out bA
      have HKA := CalB.below HK.out bA
      have krA := kr0.below bA
      have krB := kr1.below bA
      have hzA := hzr.below bA
      have hbA := hbel.trans (bA.mono hbr)
      have hsA := Nat.le_trans hsr bA.size
      obtain ⟨W, hW⟩ : ∃ W, wr.alloc (.cells #[.int .i64 P.1.num, .int .i64 (P.1.den : Int), .int .i64 P.2.num, .int .i64 (P.2.den : Int)] 52) = W := ⟨_, rfl⟩
      obtain ⟨H, hH⟩ : ∃ H, wr.heap.size = H := ⟨_, rfl⟩
      rw [hW] at kp HOA HKA krA krB hzA hbA hsA ⊢
      rw [hH] at kp hbr ⊢
      clear hW hH bA x0 x1 x2 x3 kr0 kr1 hzr hbel hsr HO HK
      have hd : CalT B W W.drew := CalT.of_below (Below.refl W.heap.size W).drew
      have hHB : H ≠ B := fun e => by
        rw [e] at kp
        exact calB_one (off := 0) HKA (kp.look 1 rfl)
      have tx := fun x : SubT (CalT B) W.drew => (calT_pre B).trans hd x.b
      have z0 := fun x : SubT (CalT B) W.drew => (CalT.blk (tx x) kp hHB).look 0 rfl
      have z1 := fun x : SubT (CalT B) W.drew => (CalT.blk (tx x) kp hHB).look 1 rfl
      have z2 := fun x : SubT (CalT B) W.drew => (CalT.blk (tx x) kp hHB).look 2 rfl
      have z3 := fun x : SubT (CalT B) W.drew => (CalT.blk (tx x) kp hHB).look 3 rfl
      have z4 := fun x : SubT (CalT B) W.drew => (CalT.blk (tx x) krA (by omega)).look 0 rfl
      have z5 := fun x : SubT (CalT B) W.drew => (CalT.blk (tx x) krA (by omega)).look 1 rfl
      have z6 := fun x : SubT (CalT B) W.drew => (CalT.blk (tx x) krB (by omega)).look 0 rfl
      have z7 := fun x : SubT (CalT B) W.drew => (CalT.blk (tx x) krB (by omega)).look 1 rfl
      clear tx
      refine wp_walkJ (T := CalT B) (calT_pre B) (.rd 0 (.rd 1 (.rd 2 (.rd 3 (.rd 5 (.rd 6 (.rd 7 (.mv 4 (.mv 8 (.rd 9 (.mv 10 (.bt 11 (.rd 12 (.inv [])))))))))))))) (by kernel_rfl) rfl (by kernel_rfl) (by kernel_rfl) ?_
      iterate 7 (refine walkJ_rd rfl (fun K hK => ?_); go_simp; refine hK _ ?_; clear hK K)
      clear z0 z1 z2 z3 z4 z5 z6 z7
      have hkd : CalB W.drew B ok := CalB.below HKA (Below.refl W.heap.size W).drew
      have hzd := hzA.below (Below.refl W.heap.size W).drew
      (refine walkJ_mv rfl (fun K hK => ?_); go_simp; refine (MA.out _ hzd hkd).mono ?_; rintro e w5 ⟨rfl, hk5, ht5⟩; refine ⟨_, rfl, hK _ _ ht5 ?_⟩; clear hK K)
      have hz5 := hzd.calT hkd ht5
      (refine walkJ_mv rfl (fun K hK => ?_); go_simp; refine (MB.out _ hz5 hk5).mono ?_; rintro e w6 ⟨rfl, hk6, ht6⟩; refine ⟨_, rfl, hK _ _ ht6 ?_⟩; clear hK K)
      have tw6 := (calT_pre B).trans ((calT_pre B).trans hd ht5) ht6
      have ho6 := owns_calT tw6 HOA (Nat.lt_succ_self B)
      have hb6 := CalT.below hbA tw6 (Nat.le_refl _) (Nat.le_trans (Nat.le_succ B) hsA)
      have hs6 := Nat.le_trans hsA tw6.size
      iterate 1 (refine walkJ_rd rfl (fun K hK => ?_); go_simp; refine hK _ ?_; clear hK K)
      (refine walkJ_mv rfl (fun K hK => ?_); go_simp; refine hK _ _ (CalT.of_below (alloc_below _ _)) ?_; clear hK K)
      have kN := Blk.new w6 [Value.int .i64 p1, Value.int .i64 p2, Value.int .i64 p3, Value.int .i64 p4].toArray 52
      have ba7 := alloc_below w6 (.cells [Value.int .i64 p1, Value.int .i64 p2, Value.int .i64 p3, Value.int .i64 p4].toArray 52)
      have ho7 := owns_below ho6 ba7
      have hk7 := CalB.below hk6 ba7
      have hb7 := hb6.trans (ba7.mono (by omega))
      have hs7 := Nat.le_trans hs6 ba7.size
      refine walkJ_bt rfl (fun K hK => ⟨rfl, gives_app (.tmp 41) (.tmp 51) 22 22 rfl rfl (B + 1) 52 (.agg #[.int .i64 0, .int .i64 0, .int .i64 0, .int .i64 0]) 4 32 Tryd.underlying22 infoPoint rfl (by decide) rfl ho7 [Value.int .i64 p1, Value.int .i64 p2, Value.int .i64 p3, Value.int .i64 p4] w6.heap.size kN rfl rfl (by simp [Value.oneCell']) (by unfold maxLen; omega) (by omega) (by omega) (fun g8 cap8 w8 ho8 hgr8 hbg8 => hK _ _ ?_)⟩)
      clear hK K
      iterate 1 (refine walkJ_rd rfl (fun K hK => ?_); go_simp; refine hK _ ?_; clear hK K)
      refine walkJ_nil ?_
      have hown : ∀ k, u9.ownBlock = some k → B + 1 ≤ k := fun k hk => (ho7.lt k hk).1
      have hk8 : CalB w8 B k2' := (World.grownBy.block hgr8 B hk7.lt (fun e => by have := hown B e.symm; omega)).trans hk7
      have hb8 : Below B w3 w8 := hb7.grown hgr8 (by omega) (fun j hj => by have := hown j hj; omega)
      have hs8 := Nat.le_trans hs7 hgr8.size
      rw [← HPC.out, ← ptsC_append] at ho8
      have HO8 := hid ho8
      have HK8 := hid hk8
      clear ho8 hk8 hgr8 ho7 hk7 hb7 ho6 hb6 hk6 ht6 ht5 tw6 kN ba7 hd hkd hzd hz5 hk5 HOA HKA krA krB hzA hbA kp
      go_wp2
      go_roundw
      case rel => exact ⟨i + 1, by go_num, by omega, ⟨k2', l ++ [(v1, v2)], HST.out.1, HST.out.2, by rw [List.length_append, HLL.out]; rfl, HO8, HK8⟩, hb8, hs8⟩
      case measure => simp [intOf]; omega
    · obtain rfl : L = i := by omega
      have hi2 : ¬ (L : Int) < (L : Int) := by omega
      obtain ⟨ao3, c3, rfl, -⟩ := id (SlR.of_owns HO.out)
      have hBw : Below w.heap.size w wr := HB.out.trans ((show Below w3.heap.size w3 wr by rw [HBS.out]; exact hbel).mono HB.out.size)
      have hr := SlR.mono (SlR.of_owns HO.out) (show w.heap.size ≤ B + 1 by omega)
      have c0 := HK.out.look 0 rfl
      cases ok with
      | true =>
        obtain ⟨rfl, rfl⟩ := HY.out l (hokl rfl)
        have HRR := hid hr
        have HLL := hid hll
        clear hok hokl hr hll HX HY
        go_wp2
        go_ret2
        refine ⟨⟨_, rfl, ?_⟩, hBw⟩
        unfold PsR
        rw [HLL.out]
        exact HRR.out
      | false =>
        have hs : rowO F C L = none := by
          cases hs : rowO F C L with
          | none => rfl
          | some l' => rw [hs] at hok; cases hok
        obtain ⟨rfl, rfl⟩ := HX.out hs
        clear hok hokl hs hr hll HX HY
        go_wp2_with fail
        have hd := (Below.refl wr.heap.size wr).drew
        have z0 := fun x : SubT (Below wr.heap.size) wr.drew => (Blk.below HK.out (hd.trans x.b)).look 0 rfl
        refine wp_walkJ (T := Below (wr.heap.size)) (belowV_pre _) (.rd 0 (.rd 1 (.rd 2 (.rd 3 (.inv []))))) (by kernel_rfl) rfl (by kernel_rfl) (by kernel_rfl) ?_
        iterate 4 (refine walkJ_rd rfl (fun K hK => ?_); go_simp; refine hK _ ?_; clear hK K)
        refine walkJ_nil ?_
        go_wp2
        go_ret2
        exact ⟨⟨_, rfl, SlR.nil _ _⟩, hBw.trans (hd.mono hBw.size)⟩

end Go.Proofs.YtfkclcoipadhmaaDoor
