/- Several of my texts in one: Gv, Gw, Gx, Gy. -/
import Derived.Test.YtfkclcoipadhmaaDoorVi
import Derived.Test.YtfkclcoipadhmaaDoorEc
import Derived.Test.YtfkclcoipadhmaaDoorDz
import Derived.Test.YtfkclcoipadhmaaDoorFt
import Derived.Test.YtfkclcoipadhmaaDoorRg
import Derived.Test.YtfkclcoipadhmaaDoorEf
/- Walk of trankref02.Hull. -/
namespace Go.Proofs.YtfkclcoipadhmaaDoor
open Go.RowKit
attribute [local irreducible] seqS seqST walkV walkJ

/-- What Convex and Concave hand back. -/
noncomputable def hulE (c : List P4) : Int := if RV c then (if HulF (toQ c) then 0 else 5) else 2
noncomputable def hulR (up : Bool) (c : List P4) : List Pt := if hulE c = 0 then hulL up (toQ c) else []
/-- The points of the corners below t. -/
def hulT (up : Bool) (C : List Pt) (t : Nat) : List Pt := (hullTo C.length (slpW up C) t).map fun i => C.getD i (0, 0)
theorem hulT_yes {up : Bool} {C : List Pt} {t : Nat} (h : cornerB C.length (slpW up C) t = true) : hulT up C (t + 1) = hulT up C t ++ [C.getD t (0, 0)] := by
  unfold hulT
  rw [hullTo_yes ((cornerB_iff _ _ _).1 h), List.map_append]
  rfl
theorem hulT_no {up : Bool} {C : List Pt} {t : Nat} (h : cornerB C.length (slpW up C) t = false) : hulT up C (t + 1) = hulT up C t := by
  unfold hulT
  rw [hullTo_no (fun hh => by rw [(cornerB_iff _ _ _).2 hh] at h; cases h)]
theorem hulT_len (up : Bool) (C : List Pt) (t : Nat) : (hulT up C t).length ≤ t := by
  unfold hulT hullTo
  rw [List.length_map]
  have := List.length_filter_le (cornerB C.length (slpW up C)) (List.range t)
  rw [List.length_range] at this
  exact this

set_option maxHeartbeats 8000000 in
set_option maxRecDepth 100000 in
theorem rHull_any (c : List P4) (up : Bool) (v : Value) (w : World) (h : P4R 0 w v c) :
    Calls Tryd.prog 45 #[v, .int .i64 (if up then 1 else -1)] w fun r w' => (∃ v', r = .returned (.tuple #[v', .int .i64 (hulE c)]) ∧ PsR w.heap.size w' v' (hulR up c)) ∧ Below w.heap.size w w' := by
  have VA := hid (r2Valid_any c v w h)
  obtain ⟨ac, cc, rfl, hcc1, hcc2, -⟩ := id h
  unfold maxLen at hcc2
  obtain ⟨E, hE⟩ : ∃ E, hulE c = E := ⟨_, rfl⟩
  obtain ⟨R, hR⟩ : ∃ R, hulR up c = R := ⟨_, rfl⟩
  have hEE : E = if RV c then (if HulF (toQ c) then 0 else 5) else 2 := hE.symm
  have hRR : R = if E = 0 then hulL up (toQ c) else [] := by rw [← hR, ← hE]; rfl
  rw [hE, hR]
  have HEE := hid hEE
  have HRR := hid hRR
  clear hE hR hEE hRR
  obtain ⟨wy, hwy⟩ : ∃ z : Int, (if up then 1 else -1) = z := ⟨_, rfl⟩
  have HWY := hid hwy
  rw [hwy]
  clear hwy
  go_enter Tryd.func45, Tryd.ntmps45
  go_wp2_with fail
  refine VA.out.mono ?_
  rintro r w1 ⟨rfl, hB⟩
  have hc1 := h.below hB
  clear VA h
  by_cases hrc : RV c
  case neg =>
    rw [decide_eq_false hrc]
    obtain rfl : E = 2 := by rw [HEE.out, if_neg hrc]
    obtain rfl : R = [] := by rw [HRR.out, if_neg (by decide)]
    go_wp2
    go_ret2
    exact ⟨⟨_, rfl, SlR.nil _ _⟩, hB⟩
  rw [decide_eq_true hrc]
  have hEE := HEE.out
  rw [if_pos hrc] at hEE
  have pc := P4R.toQ hc1 hrc
  have hcv := rv_cv hrc
  have lc := toQ_len c
  have hRR := HRR.out
  clear HEE HRR hc1 hrc
  generalize toQ c = C at pc hcv lc hEE hRR
  rw [← lc] at pc hcc1 ⊢
  have HEE := hid hEE
  have HRR := hid hRR
  have HCV := hid hcv
  have HPC := hid pc
  have h48 := hcv.most
  have h2 := hcv.two
  obtain ⟨ao2, cap2, he2, -, -, hcc⟩ := pc
  obtain ⟨rfl, -⟩ : ao2 = ac ∧ True := by
    injection he2 with g1 g2 g3
    exact ⟨g1.symm, trivial⟩
  have HCC := hid hcc
  obtain ⟨L, hL⟩ : ∃ L, C.length = L := ⟨_, rfl⟩
  have HL := hid hL
  have HLT : Hid (hulT up C L = hulL up C) := hid (by rw [← hL]; rfl)
  have HTY := hid (fun t h => hulT_yes (up := up) (C := C) (t := t) h)
  have HTN := hid (fun t h => hulT_no (up := up) (C := C) (t := t) h)
  rw [hL] at hcc1 h48 h2 HPC ⊢
  have hget : ∀ (k : Nat), k < L → ∃ b off, ao2 = some ⟨b, off, none⟩ ∧ b < w1.heap.size ∧ ∀ W, Below w1.heap.size w1 W → W.cell? ⟨b, off + k * 4, none⟩ = some (.int .i64 (C.getD k (0, 0)).1.num) ∧ W.cell? ⟨b, off + k * 4 + 1, none⟩ = some (.int .i64 ((C.getD k (0, 0)).1.den : Int)) ∧ W.cell? ⟨b, off + k * 4 + 2, none⟩ = some (.int .i64 (C.getD k (0, 0)).2.num) ∧ W.cell? ⟨b, off + k * 4 + 3, none⟩ = some (.int .i64 ((C.getD k (0, 0)).2.den : Int)) := by
    intro k hk
    obtain ⟨b, off, he, hb, x0, x1, x2, x3⟩ := p_cell HCC.out (show k < C.length by rw [HL.out]; exact hk)
    exact ⟨b, off, he, hb, fun W hW => ⟨(hW.cell (p := ⟨b, off + k * 4, none⟩) hb).trans x0, (hW.cell (p := ⟨b, off + k * 4 + 1, none⟩) hb).trans x1, (hW.cell (p := ⟨b, off + k * 4 + 2, none⟩) hb).trans x2, (hW.cell (p := ⟨b, off + k * 4 + 3, none⟩) hb).trans x3⟩⟩
  have HGET := hid hget
  have HB := hid hB
  have hs1 := hB.size
  clear hEE hRR hcv hcc hL he2 hget lc hB
  go_wp2_with fail
  go_loopw [18] (fun x wr => ∃ i : Nat, x = .int .i64 i ∧ i ≤ L ∧ Hid (∀ a b, a < b → b < i → (slO (C.getD a (0, 0)) (C.getD b (0, 0))).isSome = true) ∧ Below w1.heap.size w1 wr) (fun x _ => L - (intOf x).toNat)
  case atStart => exact ⟨0, rfl, Nat.zero_le _, hid (fun a b _ h => by omega), Below.refl _ _⟩
  case round =>
    obtain ⟨i, rfl, hi, HF, hbel⟩ := hrel
    have hsr := hbel.size
    by_cases hiL : i < L
    case pos =>
      have hi2 : (i : Int) < (L : Int) := by omega
      obtain ⟨wS, rfl⟩ : ∃ W, W = wr := ⟨_, rfl⟩
      go_wp2_with fail
      go_loopw [22] (fun x wr => ∃ k : Nat, x = .int .i64 k ∧ k ≤ i ∧ Hid (∀ a, a < k → (slO (C.getD a (0, 0)) (C.getD i (0, 0))).isSome = true) ∧ Below w1.heap.size w1 wr) (fun x _ => i - (intOf x).toNat)
      case atStart => exact ⟨0, rfl, Nat.zero_le _, hid (fun a h => by omega), hbel⟩
      case round =>
        clear hbel hsr
        obtain ⟨k, rfl, hk, HK, hbel⟩ := hrel
        have hsr := hbel.size
        by_cases hki : k < i
        case pos =>
          have hk2 : (k : Int) < (i : Int) := by omega
          have hkL : (k : Int) < (L : Int) := by omega
          obtain ⟨b, off, rfl, hb, GK⟩ := HGET.out k (by omega)
          obtain ⟨bi, ofi, hei, hbi, GI⟩ := HGET.out i hiL
          obtain ⟨rfl, rfl⟩ : b = bi ∧ off = ofi := by simpa using hei
          have SL := hid (fun w => rSlope_any (C.getD k (0, 0)) (C.getD i (0, 0)) (HCV.out.fit k (by rw [HL.out]; omega)) (HCV.out.fit i (by rw [HL.out]; omega)) (fun e => by have := (HCV.out.lt hki (by rw [HL.out]; exact hiL)).1; rw [e] at this; exact Rat.lt_irrefl this) w)
          have hnf : slO (C.getD k (0, 0)) (C.getD i (0, 0)) = none → ¬ HulF C := fun hn hf => by
            have := hf k i hki (by rw [HL.out]; exact hiL)
            rw [hn] at this
            cases this
          have hst : (slO (C.getD k (0, 0)) (C.getD i (0, 0))).isSome = true → ∀ a, a < k + 1 → (slO (C.getD a (0, 0)) (C.getD i (0, 0))).isSome = true := fun hs a ha => by
            by_cases hak : a = k
            · rw [hak]; exact hs
            · exact HK.out a (by omega)
          obtain ⟨o, ho⟩ : ∃ o, slO (C.getD k (0, 0)) (C.getD i (0, 0)) = o := ⟨_, rfl⟩
          rw [ho] at SL hnf hst
          obtain ⟨P, hPe⟩ : ∃ P, C.getD k (0, 0) = P := ⟨_, rfl⟩
          obtain ⟨Q, hQe⟩ : ∃ P, C.getD i (0, 0) = P := ⟨_, rfl⟩
          rw [hPe] at GK SL
          rw [hQe] at GI SL
          unfold ptQ at SL
          obtain ⟨s1, hs1e⟩ : ∃ z, oN o = z := ⟨_, rfl⟩
          obtain ⟨t1, ht1e⟩ : ∃ z, oD o = z := ⟨_, rfl⟩
          obtain ⟨u1, hu1e⟩ : ∃ z, oE o = z := ⟨_, rfl⟩
          rw [hs1e, ht1e, hu1e] at SL
          have HNF := hid hnf
          have HST := hid hst
          have HE3 := hid hu1e
          have HGK := hid GK
          have HGI := hid GI
          clear hs1e ht1e hu1e hnf hst ho hPe hQe GK GI hei hbi
          go_wp2_with fail
          have hd0 := (Below.refl wr.heap.size wr).drew
          have bx := fun x : SubT (Below wr.heap.size) wr.drew => hbel.trans ((hd0.trans x.b).mono hbel.size)
          have z0 := fun x : SubT (Below wr.heap.size) wr.drew => (HGK.out x.w (bx x)).1
          have z1 := fun x : SubT (Below wr.heap.size) wr.drew => (HGK.out x.w (bx x)).2.1
          have z2 := fun x : SubT (Below wr.heap.size) wr.drew => (HGK.out x.w (bx x)).2.2.1
          have z3 := fun x : SubT (Below wr.heap.size) wr.drew => (HGK.out x.w (bx x)).2.2.2
          have z4 := fun x : SubT (Below wr.heap.size) wr.drew => (HGI.out x.w (bx x)).1
          have z5 := fun x : SubT (Below wr.heap.size) wr.drew => (HGI.out x.w (bx x)).2.1
          have z6 := fun x : SubT (Below wr.heap.size) wr.drew => (HGI.out x.w (bx x)).2.2.1
          have z7 := fun x : SubT (Below wr.heap.size) wr.drew => (HGI.out x.w (bx x)).2.2.2
          clear bx
          refine wp_walkJ (T := Below (wr.heap.size)) (belowV_pre _) (.rd 0 (.rd 1 (.rd 2 (.rd 3 (.rd 4 (.rd 5 (.rd 6 (.rd 7 (.inv [8, 9, 10, 11, 12, 13, 14]))))))))) (by kernel_rfl) rfl (by kernel_rfl) (by kernel_rfl) ?_
          iterate 8 (refine walkJ_rd rfl (fun K hK => ?_); go_simp; refine hK _ ?_; clear hK K)
          clear z0 z1 z2 z3 z4 z5 z6 z7 hd0
          have hd := (Below.refl wr.heap.size wr).drew
          obtain ⟨Wd, hWd⟩ : ∃ Wd, wr.drew = Wd := ⟨_, rfl⟩
          have hs9 : wr.heap.size = Wd.heap.size := by rw [← hWd]; rfl
          rw [hWd] at hd ⊢
          clear hWd
          have HS9 := hid hs9
          clear hs9
          refine walkJ_inv (CallI wr.heap.size wr 8 9 10 11 12 13 14 (.tuple #[.agg #[.int .i64 s1, .int .i64 t1], .int .i64 u1]) (.agg #[.int .i64 s1, .int .i64 t1]) (.int .i64 u1) 32 2 #[.int .i64 s1, .int .i64 t1]) [(8, 34), (9, 25), (10, 35), (11, 36), (12, 8), (14, 9)] (by kernel_rfl) ?_ ?_ ?_
          · exact ⟨hd, fun h => (by cases h), fun h => (by cases h), fun h => (by cases h), fun h => (by cases h), fun h => (by cases h), fun h => (by cases h)⟩
          · refine stepsI_cons [] [9, 10, 11, 13, 14] [] rfl (by kernel_rfl) (by kernel_rfl) (by kernel_rfl) (fun K l V x hx hl hds hn hI hK => ?_) ?_
            · go_simp
              have hsx : wr.heap.size ≤ x.heap.size := by rw [HS9.out]; exact hx.size
              refine (SL.out _).mono ?_
              rintro e w9 ⟨rfl, hb9⟩
              refine ⟨_, rfl, hK _ _ (hb9.mono hsx) ?_⟩
              exact ⟨hI.b.trans (hb9.mono hsx), fun _ => rfl, fun h => hI.m h, fun h => hI.e0 h, fun h => hI.e1 h, fun h => (hI.a h).below hb9, fun h => hI.z h⟩
            refine stepsI_cons [8] [10, 11, 13, 14] [(8, 34)] rfl (by kernel_rfl) (by kernel_rfl) (by kernel_rfl) (fun K l V x hx hl hds hn hI hK => ?_) ?_
            · go_simp
              refine hK _ _ (Below.refl _ _) ?_
              exact ⟨hI.b, fun h => hI.c h, fun _ => hI.c hl.1, fun h => hI.e0 h, fun h => hI.e1 h, fun h => hI.a h, fun h => hI.z h⟩
            refine stepsI_cons [8, 9] [13, 14] [(8, 34), (9, 25)] rfl (by kernel_rfl) (by kernel_rfl) (by kernel_rfl) (fun K l V x hx hl hds hn hI hK => ?_) ?_
            · simp only [putsP, hI.m hl.2.1]
              go_simp
              refine hK _ _ (Below.refl _ _) ?_
              exact ⟨hI.b, fun h => hI.c h, fun h => hI.m h, fun _ => rfl, fun h => hI.e1 h, fun h => hI.a h, fun h => hI.z h⟩
            refine stepsI_cons [8, 9] [14] [(8, 34), (9, 25)] rfl (by kernel_rfl) (by kernel_rfl) (by kernel_rfl) (fun K l V x hx hl hds hn hI hK => ?_) ?_
            · simp only [putsP, hI.m hl.2.1]
              go_simp
              refine hK _ _ (Below.refl _ _) ?_
              exact ⟨hI.b, fun h => hI.c h, fun h => hI.m h, fun h => hI.e0 h, fun _ => rfl, fun h => hI.a h, fun h => hI.z h⟩
            refine stepsI_cons [] [13, 14] [] rfl (by kernel_rfl) (by kernel_rfl) (by kernel_rfl) (fun K l V x hx hl hds hn hI hK => ?_) ?_
            · go_simp
              have hsx : wr.heap.size ≤ x.heap.size := by rw [HS9.out]; exact hx.size
              have hb9 := alloc_below x (.cells #[.int .i64 0, .int .i64 0] 32)
              refine hK _ _ (hb9.mono hsx) ?_
              exact ⟨hI.b.trans (hb9.mono hsx), fun h => hI.c h, fun h => hI.m h, fun h => hI.e0 h, fun h => hI.e1 h, fun _ => VarI.new x _ _ hsx rfl hds.1, fun h => hI.z h⟩
            refine stepsI_cons [8, 9, 10, 12] [14] [(8, 34), (9, 25), (10, 35), (12, 8)] rfl (by kernel_rfl) (by kernel_rfl) (by kernel_rfl) (fun K l V x hx hl hds hn hI hK => ?_) ?_
            · obtain ⟨g, cs, e1, e2, e3, e4, -⟩ := hI.a hl.2.2.2.1
              have hb9 := row_below (Below.refl wr.heap.size x) e2 #[.int .i64 s1, .int .i64 t1]
              refine ⟨rfl, gives_store_row 32 (.tmp 8) (.tmp 35) rfl g _ e1 (hI.e0 hl.2.2.1) 32 cs e3 pinfoFrac e4 (by simp [Value.oneCell']) (hK _ _ hb9 ?_)⟩
              refine ⟨hI.b.trans hb9, fun h => hI.c h, fun h => hI.m h, fun h => hI.e0 h, fun h => hI.e1 h, fun _ => ?_, fun h => hI.z h⟩
              show VarI _ _ (V 12) _ _ _ _
              rw [e1]
              exact VarI.filled e2 e3 rfl
            refine stepsI_cons [8, 9, 10, 11, 12, 13] [] [(8, 34), (9, 25), (10, 35), (11, 36), (12, 8)] rfl (by kernel_rfl) (by kernel_rfl) (by kernel_rfl) (fun K l V x hx hl hds hn hI hK => ?_) ?_
            · simp only [putsP, hI.e1 hl.2.2.2.1]
              go_simp
              refine hK _ _ (Below.refl _ _) ?_
              exact ⟨hI.b, fun h => hI.c h, fun h => hI.m h, fun h => hI.e0 h, fun h => hI.e1 h, fun h => hI.a h, fun _ => rfl⟩
            exact stepsI_nil
          intro V W2 hW2 hI
          obtain ⟨gI, eI1, geI, kI⟩ := (hI.a rfl).out
          have qI0 := hI.c rfl
          have qI1 := hI.m rfl
          have qI2 := hI.e0 rfl
          have qI3 := hI.e1 rfl
          have qI4 := hI.z rfl
          have hbI := hI.b
          clear hI hd HS9 hW2
          simp only [putsP, qI0, qI1, qI2, qI3, qI4, eI1]
          go_simp
          clear qI0 qI1 qI2 qI3 qI4 eI1
          have hbel2 := hbel.trans (hbI.mono hbel.size)
          have hBf := HB.out.trans (hbel2.mono hs1)
          clear hbI hbel HGK HGI SL
          cases o with
          | none =>
            obtain rfl : 5 = u1 := HE3.out
            obtain rfl : E = 5 := by rw [HEE.out, if_neg (HNF.out rfl)]
            obtain rfl : R = [] := by rw [HRR.out, if_neg (by decide)]
            go_wp2
            go_ret2
            exact ⟨⟨_, rfl, SlR.nil _ _⟩, hBf⟩
          | some s =>
            obtain rfl : 0 = u1 := HE3.out
            have HK2 := hid (HST.out rfl)
            clear HST HNF HE3
            go_wp2
            go_roundw
            case rel => exact ⟨k + 1, by go_num, by omega, HK2, hbel2⟩
            case measure => simp [intOf] <;> omega
        case neg =>
          obtain rfl : i = k := by omega
          have hk2 : ¬ (i : Int) < (i : Int) := by omega
          have HF2 : Hid (∀ a b, a < b → b < i + 1 → (slO (C.getD a (0, 0)) (C.getD b (0, 0))).isSome = true) := hid (fun a b hab hb => by
            by_cases hbi : b = i
            · rw [hbi]; exact HK.out a (by omega)
            · exact HF.out a b hab (by omega))
          go_wp2
          go_roundw
          case rel => exact ⟨i + 1, by go_num, by omega, HF2, hbel⟩
          case measure => simp [intOf] <;> omega
    case neg =>
      obtain rfl : i = L := by omega
      have hi2 : ¬ (i : Int) < (i : Int) := by omega
      have hf : HulF C := fun a b hab hb => HF.out a b hab (by rw [HL.out] at hb; exact hb)
      obtain rfl : E = 0 := by rw [HEE.out, if_pos hf]
      have hR2 : R = hulT up C i := by rw [HRR.out, if_pos rfl, HLT.out]
      have HR2 := hid hR2
      obtain ⟨wS, rfl⟩ : ∃ W, W = wr := ⟨_, rfl⟩
      clear HEE HRR hf HF hR2 HLT
      go_wp2_with fail
      go_loopw [10, 44] (fun y x wr => ∃ t : Nat, x = .int .i64 t ∧ t ≤ i ∧ Hid (wr.ownsRow w1.heap.size 52 4 y (hulT up C t).length (ptsC (hulT up C t))) ∧ Below w1.heap.size w1 wr) (fun _ x _ => i - (intOf x).toNat)
      case atStart => exact ⟨0, rfl, Nat.zero_le _, hid (World.ownsRow_nil _ _ _ _), hbel⟩
      case round =>
        clear hbel hsr
        obtain ⟨t, rfl, ht, HO, hbel⟩ := hrel
        have hsr := hbel.size
        by_cases hti : t < i
        case pos =>
          have ht2 : (t : Int) < (i : Int) := by omega
          obtain ⟨b, off, rfl, hb, GK⟩ := HGET.out t hti
          obtain ⟨x0, x1, x2, x3⟩ := GK wr hbel
          have CO := hid (fun w h => corner_any C (.slice (some ⟨b, off, none⟩) i cc) HCV.out up t (by rw [HL.out]; exact hti) w h)
          have hyes := HTY.out t
          have hno := HTN.out t
          rw [HWY.out] at CO
          obtain ⟨K, hK⟩ : ∃ k, cornerB C.length (slpW up C) t = k := ⟨_, rfl⟩
          rw [hK] at CO hyes hno
          have hlen := hulT_len up C t
          obtain ⟨P, hPe⟩ : ∃ P, C.getD t (0, 0) = P := ⟨_, rfl⟩
          rw [hPe] at x0 x1 x2 x3 hyes
          have HYES := hid hyes
          have HNO := hid hno
          obtain ⟨p1, hp1⟩ : ∃ z, P.1.num = z := ⟨_, rfl⟩
          obtain ⟨p2, hp2⟩ : ∃ z, (P.1.den : Int) = z := ⟨_, rfl⟩
          obtain ⟨p3, hp3⟩ : ∃ z, P.2.num = z := ⟨_, rfl⟩
          obtain ⟨p4, hp4⟩ : ∃ z, (P.2.den : Int) = z := ⟨_, rfl⟩
          have HPV : Hid (ptsC [P] = [.int .i64 p1, .int .i64 p2, .int .i64 p3, .int .i64 p4]) := hid (by rw [← hp1, ← hp2, ← hp3, ← hp4]; rfl)
          rw [hp1] at x0
          rw [hp2] at x1
          rw [hp3] at x2
          rw [hp4] at x3
          have kP := Blk.new wr #[.int .i64 p1, .int .i64 p2, .int .i64 p3, .int .i64 p4] 52
          have bP := alloc_below wr (.cells #[.int .i64 p1, .int .i64 p2, .int .i64 p3, .int .i64 p4] 52)
          have HOP := hid (owns_below HO.out bP)
          have hbP := hbel.trans (bP.mono hsr)
          clear HO hbel GK hK hyes hno hPe hp1 hp2 hp3 hp4
          go_wp2_with fail
          refine (CO.out _ (PsR.below HPC.out hbP)).mono ?_
          rintro r w5 ⟨rfl, hb5⟩
          have kP5 := kP.below hb5
          have HO5 := hid (owns_below HOP.out hb5)
          have hb5' := hbP.trans (hb5.mono hbP.size)
          have hs5 := hb5'.size
          clear CO kP bP HOP hbP hb5 x0 x1 x2 x3
          cases K with
          | false =>
            have HT2 := hid (HNO.out rfl)
            clear HNO HYES kP5
            go_wp2
            go_roundw
            case rel => exact ⟨t + 1, by go_num, by omega, by rw [HT2.out]; exact HO5, hb5'⟩
            case measure => simp [intOf] <;> omega
          | true =>
            have HT2 := hid (HYES.out rfl)
            have y0 := kP5.look 0 rfl
            have y1 := kP5.look 1 rfl
            have y2 := kP5.look 2 rfl
            have y3 := kP5.look 3 rfl
            clear HNO HYES
            go_wp2_with (first
              | (at_builtin; refine wpList_appH rfl (.tmp 53) (.tmp 55) _ rfl w1.heap.size 52 (.agg #[.int .i64 0, .int .i64 0, .int .i64 0, .int .i64 0]) 4 32 Tryd.underlying22 infoPoint rfl (by decide) 52 _ _ _ rfl HO5.out [.int .i64 p1, .int .i64 p2, .int .i64 p3, .int .i64 p4] _ (by first | rfl | simp) rfl rfl (by simp [Value.oneCell']) (by unfold maxLen; omega) (by omega) (by omega) ?_; intro g5 gcap w7 ho7 hb7 _ _ _))
            go_roundw
            case rel =>
              refine ⟨t + 1, by go_num, by omega, ?_, hb5'.trans hb7⟩
              rw [HT2.out, List.length_append, ptsC_append, HPV.out]
              exact hid ho7
            case measure => simp [intOf] <;> omega
        case neg =>
          obtain rfl : i = t := by omega
          have ht2 : ¬ (i : Int) < (i : Int) := by omega
          obtain ⟨a9, c9, rfl, -⟩ := id (SlR.of_owns HO.out)
          have hr := SlR.mono (SlR.of_owns HO.out) hs1
          rw [← HR2.out] at hr ⊢
          have HR := hid hr
          have hBf := HB.out.trans (hbel.mono hs1)
          obtain ⟨q, hq⟩ : ∃ q, R.length = q := ⟨_, rfl⟩
          rw [hq] at HR ⊢
          have HQ := hid hq
          clear hr HO hq
          go_wp2
          go_ret2
          refine ⟨⟨_, rfl, ?_⟩, hBf⟩
          unfold PsR
          rw [HQ.out]
          exact HR.out

end Go.Proofs.YtfkclcoipadhmaaDoor

/- Rows of slopes; worlds in which all below a number but two blocks stands. -/
namespace Go.Proofs.YtfkclcoipadhmaaDoor
open Go.RowKit

structure BelX (g S B : Nat) (a b : World) : Prop where
  os : b.os = a.os
  tape : b.tape = a.tape
  output : b.output = a.output
  size : a.heap.size ≤ b.heap.size
  block : ∀ k, k < B → k ≠ g → k ≠ S → b.heap[k]? = a.heap[k]?
theorem BelX.refl (g S B : Nat) (w : World) : BelX g S B w w := ⟨rfl, rfl, rfl, Nat.le_refl _, fun _ _ _ _ => rfl⟩
theorem BelX.of_belG {g S B : Nat} {a b c : World} (h : BelX g S B a b) (k : BelG g B b c) : BelX g S B a c :=
  ⟨k.os.trans h.os, k.tape.trans h.tape, k.output.trans h.output, Nat.le_trans h.size k.size, fun i hi h1 h2 => (k.block i hi h1).trans (h.block i hi h1 h2)⟩
theorem BelX.set {g S B : Nat} {a b : World} (h : BelX g S B a b) {p : Addr} (hp : p.block = S) (v : Value) : BelX g S B a (b.setCell p v) :=
  ⟨h.os, h.tape, h.output, by simpa [World.setCell] using h.size, fun i hi h1 h2 => (Below.heap_setCell b p v i (fun e => h2 (by rw [e, hp]))).trans (h.block i hi h1 h2)⟩
theorem BelX.below {g S B C : Nat} {w a b : World} (h : Below C w a) (k : BelX g S B a b) (hC : C ≤ B) (hg : C ≤ g) (hS : C ≤ S) : Below C w b :=
  h.trans ⟨k.os, k.tape, k.output, k.size, fun i hi => k.block i (by omega) (by omega) (by omega)⟩
theorem BelG.below {g B C : Nat} {w a b : World} (h : Below C w a) (k : BelG g B a b) (hC : C ≤ B) (hg : C ≤ g) : Below C w b :=
  h.trans ⟨k.os, k.tape, k.output, k.size, fun i hi => k.block i (by omega) (by omega)⟩
theorem BelG.of_below {g B : Nat} {a b : World} (h : Below a.heap.size a b) (hB : B ≤ a.heap.size) : BelG g B a b := ⟨h.os, h.tape, h.output, h.size, fun k hk _ => h.block k (by omega)⟩
theorem BelG.of_grown {g B : Nat} {a b : World} {row : Option Nat} (h : a.grownBy b row) (hB : B ≤ a.heap.size) (hr : ∀ k, row = some k → B ≤ k) : BelG g B a b :=
  ⟨World.grownBy.os h, World.grownBy.tape h, World.grownBy.output h, World.grownBy.size h, fun k hk _ => World.grownBy.block h k (by omega) (fun e => by have := hr k e.symm; omega)⟩
theorem SlR.belX {g S B lo n : Nat} {w w' : World} {v : Value} {xs : List Value} (h : SlR lo w v n xs) (k : BelX g S B w w') (hB : w.heap.size ≤ B) (hg : g < lo) (hS : S < lo) : SlR lo w' v n xs := by
  obtain ⟨ao, cap, rfl, h1, h2, hc⟩ := h
  refine ⟨ao, cap, rfl, h1, h2, fun hx => ?_⟩
  obtain ⟨b, off, e, hlo, hb, hcell⟩ := hc hx
  refine ⟨b, off, e, hlo, Nat.lt_of_lt_of_le hb k.size, fun j hj => ?_⟩
  rw [World.cell?_of_block (k.block b (by omega) (by omega) (by omega))]
  exact hcell j hj
/-- The slopes from point a to the m next ones. -/
def slpR (C : List Pt) (a m : Nat) : List Rat := (List.range m).map fun j => slpQ C a (a + 1 + j)
theorem slpR_len (C : List Pt) (a m : Nat) : (slpR C a m).length = m := by unfold slpR; rw [List.length_map, List.length_range]
theorem slpR_succ (C : List Pt) (a m : Nat) : slpR C a (m + 1) = slpR C a m ++ [slpQ C a (a + 1 + m)] := by
  unfold slpR
  rw [List.range_succ, List.map_append]
  rfl
theorem slpR_get (C : List Pt) (a : Nat) {m j : Nat} (h : j < m) : (slpR C a m).getD j 0 = slpQ C a (a + 1 + j) := by
  unfold slpR
  rw [List.getD_eq_getElem?_getD, List.getElem?_map, List.getElem?_range h]
  rfl
/-- The slopes that have come up by (i, j) are within the limits. -/
def OkP (C : List Pt) (i j : Nat) : Prop := ∀ a b, a < b → b < C.length → (a < i ∨ (a = i ∧ b < i + 1 + j)) → (slO (C.getD a (0, 0)) (C.getD b (0, 0))).isSome = true
theorem okP_start (C : List Pt) : OkP C 0 0 := fun a b h1 _ h3 => by omega
theorem okP_row {C : List Pt} {i : Nat} (hi : i < C.length) : OkP C i (C.length - i - 1) ↔ OkP C (i + 1) 0 := by
  constructor
  · intro h a b h1 h2 h3
    exact h a b h1 h2 (by omega)
  · intro h a b h1 h2 h3
    exact h a b h1 h2 (by omega)
theorem okP_all {C : List Pt} {i : Nat} (hi : C.length ≤ i) : OkP C i 0 ↔ HulF C := by
  constructor
  · intro h a b h1 h2
    exact h a b h1 h2 (by omega)
  · intro h a b h1 h2 _
    exact h a b h1 h2
theorem okP_step {C : List Pt} {i j : Nat} (h : i + 1 + j < C.length) : OkP C i (j + 1) ↔ OkP C i j ∧ (slO (C.getD i (0, 0)) (C.getD (i + 1 + j) (0, 0))).isSome = true := by
  constructor
  · intro hh
    exact ⟨fun a b h1 h2 h3 => hh a b h1 h2 (by omega), hh i (i + 1 + j) (by omega) h (by omega)⟩
  · rintro ⟨h1, h2⟩ a b h3 h4 h5
    by_cases he : a = i ∧ b = i + 1 + j
    · rw [he.1, he.2]; exact h2
    · exact h1 a b h3 h4 (by omega)
theorem calK_step {C : List Pt} {i j : Nat} {ok : Bool} (h : ok = true ↔ OkP C i j) (hj : i + 1 + j < C.length) : calK ok (slO (C.getD i (0, 0)) (C.getD (i + 1 + j) (0, 0))) = true ↔ OkP C i (j + 1) := by
  rw [okP_step hj, ← h]
  unfold calK
  cases ok <;> simp
theorem calV_slp {C : List Pt} {i j : Nat} {ok : Bool} (h : calK ok (slO (C.getD i (0, 0)) (C.getD j (0, 0))) = true) : calV ok (slO (C.getD i (0, 0)) (C.getD j (0, 0))) = slpQ C i j ∧ ok = true := by
  obtain ⟨h1, q, h2, h3⟩ := calV_of h
  exact ⟨by rw [h3]; exact slO_is h2, h1⟩
theorem set_set {α : Type} (l : List α) (i : Nat) (x y : α) : ((l.set i x).toArray.setIfInBounds i y) = (l.set i y).toArray := by
  simp
theorem list_look {l : List Value} {i : Nat} {x : Value} (hi : i < l.length) : (l.set i x).toArray[i]? = some x := by
  simp [hi]

end Go.Proofs.YtfkclcoipadhmaaDoor

/- Walk of curve.hull. -/
namespace Go.Proofs.YtfkclcoipadhmaaDoor
open Go.RowKit
attribute [local irreducible] seqS seqST walkV walkJ

theorem infoRow : (Tryd.prog.info? 23).map (fun i => (i.zero, i.size, i.bytes)) = some (some (.slice none 0 0), 1, 24) := by kernel_rfl
theorem made_nil (n : Nat) : madeCells (Value.slice none 0 0).cells (n * 1) = (List.replicate n (Value.slice none 0 0)).toArray := by
  apply Array.ext'
  rw [Nat.mul_one]
  exact toList_madeCells_one _ _
/-- Rows of slopes that are whole. -/
def RowsO (C : List Pt) (lo : Nat) (w : World) (rows : List Value) (i : Nat) : Prop := ∀ a, a < i → QsR lo w (rows.getD a undef) (slpR C a (C.length - a - 1))
theorem RowsO.belX {C : List Pt} {g S B lo : Nat} {w w' : World} {rows : List Value} {i : Nat} (h : RowsO C lo w rows i) (k : BelX g S B w w') (hB : w.heap.size ≤ B) (hg : g < lo) (hS : S < lo) : RowsO C lo w' rows i :=
  fun a ha => SlR.belX (h a ha) k hB hg hS
theorem RowsO.below {C : List Pt} {lo : Nat} {w w' : World} {rows : List Value} {i : Nat} (h : RowsO C lo w rows i) (k : Below w.heap.size w w') : RowsO C lo w' rows i :=
  fun a ha => QsR.below (h a ha) k

theorem hul_cmp (up : Bool) (x y : Rat) : ∃ z : Int, IntKind.i64.wrap (cmpQ x y * (if up then -1 else 1)) = z ∧ (z ≤ 0 ↔ swV up x ≤ swV up y) := by
  refine ⟨_, rfl, ?_⟩
  unfold swV
  rcases cmp_cases x y with ⟨h, e, -⟩ | ⟨h, e, -⟩ | ⟨h, e, -⟩
  · rw [e]
    cases up with
    | true => exact ⟨fun hh => absurd hh (by decide), fun hh => by exfalso; simp only [if_true] at hh; grind⟩
    | false => exact ⟨fun _ => by simp only [if_false, Bool.false_eq_true]; grind, fun _ => by decide⟩
  · rw [e]
    cases up with
    | true => exact ⟨fun _ => by simp only [if_true]; grind, fun _ => by decide⟩
    | false => exact ⟨fun hh => absurd hh (by decide), fun hh => by exfalso; simp only [if_false, Bool.false_eq_true] at hh; grind⟩
  · rw [e, h]
    cases up with
    | true => exact ⟨fun _ => Rat.le_refl, fun _ => by decide⟩
    | false => exact ⟨fun _ => Rat.le_refl, fun _ => by decide⟩
theorem hulT_next {up : Bool} {C : List Pt} (hc : CV C) {a : Nat} (ha : a + 1 < C.length) (hco : CornerP C.length (slpW up C) a) :
    ∃ b, b = a + 1 + nxtJ (fun j => slpW up C a (a + 1 + j)) (C.length - a - 1) ∧ a < b ∧ b < C.length ∧ CornerP C.length (slpW up C) b ∧ hulT up C (b + 1) = hulT up C (a + 1) ++ [C.getD b (0, 0)] := by
  obtain ⟨b, h1, h2, h3, h4, h5⟩ := hul_next hc up ha hco
  refine ⟨b, h1, h2, h3, h4, ?_⟩
  unfold hulT
  rw [h5, List.map_append]
  rfl
theorem slp_fit_of {C : List Pt} (hf : HulF C) {i j : Nat} (h : i < j) (hj : j < C.length) : fits (slpQ C i j) := by
  have := hf i j h hj
  cases hs : slO (C.getD i (0, 0)) (C.getD j (0, 0)) with
  | none => rw [hs] at this; cases this
  | some s => rw [← slp_of hs]; exact slO_fits hs
theorem nxtJ_lt (sg : Nat → Rat) : ∀ j m, j ≤ m → 0 < m → nxtJ sg j < m
  | 0, _, _, h => h
  | j + 1, _, h, _ => Nat.lt_of_lt_of_le (nxt_ok sg j).1 h

set_option maxHeartbeats 8000000 in
set_option maxRecDepth 100000 in
theorem hull_any (c : List P4) (up : Bool) (v : Value) (w : World) (h : P4R 0 w v c) (hz : Z0 w) :
    Calls Tryd.prog 93 #[v, .int .i64 (if up then -1 else 1)] w fun r w' => (∃ v', r = .returned (.tuple #[v', .int .i64 (hulE c)]) ∧ PsR w.heap.size w' v' (hulR up c)) ∧ Below w.heap.size w w' := by
  have VA := hid (cValid_any c v w h hz)
  obtain ⟨ac, cc, rfl, hcc1, hcc2, -⟩ := id h
  unfold maxLen at hcc2
  obtain ⟨E, hE⟩ : ∃ E, hulE c = E := ⟨_, rfl⟩
  obtain ⟨R, hR⟩ : ∃ R, hulR up c = R := ⟨_, rfl⟩
  have hEE : E = if RV c then (if HulF (toQ c) then 0 else 5) else 2 := hE.symm
  have hRR : R = if E = 0 then hulL up (toQ c) else [] := by rw [← hR, ← hE]; rfl
  rw [hE, hR]
  have HEE := hid hEE
  have HRR := hid hRR
  clear hE hR hEE hRR
  obtain ⟨wy, hwy⟩ : ∃ z : Int, (if up then -1 else 1) = z := ⟨_, rfl⟩
  have HWY := hid hwy
  rw [hwy]
  clear hwy
  go_enter Tryd.func93, Tryd.ntmps93
  go_wp2_with fail
  refine VA.out.mono ?_
  rintro r w1 ⟨rfl, hB⟩
  have hc1 := h.below hB
  have hz1 := hz.below hB
  clear VA h hz
  by_cases hrc : RV c
  case neg =>
    rw [decide_eq_false hrc]
    obtain rfl : E = 2 := by rw [HEE.out, if_neg hrc]
    obtain rfl : R = [] := by rw [HRR.out, if_neg (by decide)]
    go_wp2
    go_ret2
    exact ⟨⟨_, rfl, SlR.nil _ _⟩, hB⟩
  rw [decide_eq_true hrc]
  have hEE := HEE.out
  rw [if_pos hrc] at hEE
  have pc := P4R.toQ hc1 hrc
  have hcv := rv_cv hrc
  have lc := toQ_len c
  have hRR := HRR.out
  clear HEE HRR hc1 hrc
  generalize toQ c = C at pc hcv lc hEE hRR
  rw [← lc] at pc hcc1 ⊢
  have HEE := hid hEE
  have HRR := hid hRR
  have HCV := hid hcv
  have h48 := hcv.most
  have h2 := hcv.two
  obtain ⟨ao2, cap2, he2, -, -, hcc⟩ := pc
  obtain ⟨rfl, -⟩ : ao2 = ac ∧ True := by
    injection he2 with g1 g2 g3
    exact ⟨g1.symm, trivial⟩
  have HCC := hid hcc
  obtain ⟨n, hL⟩ : ∃ L, C.length = L := ⟨_, rfl⟩
  have HL := hid hL
  have HLT : Hid (hulT up C n = hulL up C) := hid (by rw [← hL]; rfl)
  rw [hL] at hcc1 h48 h2 ⊢
  obtain ⟨b, off, rfl, hb, -, -, -, -⟩ := p_cell HCC.out (show 0 < C.length by rw [HL.out]; omega)
  have hget : ∀ (k : Nat), k < n → ∀ W, Below w1.heap.size w1 W → W.cell? ⟨b, off + k * 4, none⟩ = some (.int .i64 (C.getD k (0, 0)).1.num) ∧ W.cell? ⟨b, off + k * 4 + 1, none⟩ = some (.int .i64 ((C.getD k (0, 0)).1.den : Int)) ∧ W.cell? ⟨b, off + k * 4 + 2, none⟩ = some (.int .i64 (C.getD k (0, 0)).2.num) ∧ W.cell? ⟨b, off + k * 4 + 3, none⟩ = some (.int .i64 ((C.getD k (0, 0)).2.den : Int)) := by
    intro k hk W hW
    obtain ⟨b', off', he, hb', x0, x1, x2, x3⟩ := p_cell HCC.out (show k < C.length by rw [HL.out]; exact hk)
    cases he
    exact ⟨(hW.cell (p := ⟨b, off + k * 4, none⟩) hb').trans x0, (hW.cell (p := ⟨b, off + k * 4 + 1, none⟩) hb').trans x1, (hW.cell (p := ⟨b, off + k * 4 + 2, none⟩) hb').trans x2, (hW.cell (p := ⟨b, off + k * 4 + 3, none⟩) hb').trans x3⟩
  have hs1 := hB.size
  have HB := hid hB
  have kC := Blk.new w1 #[.int .i64 0] 68
  have bC := alloc_below w1 (.cells #[.int .i64 0] 68)
  have hzC := hz1.below bC
  obtain ⟨wC, hwC⟩ : ∃ W, w1.alloc (.cells #[.int .i64 0] 68) = W := ⟨_, rfl⟩
  obtain ⟨g, hg⟩ : ∃ g, w1.heap.size = g := ⟨_, rfl⟩
  have hgC : wC.heap.size = g + 1 := by rw [← hwC, ← hg]; simp
  rw [hwC] at kC bC hzC
  rw [hg] at kC bC hget hb hs1
  have HGET := hid hget
  have kS := Blk.new wC (madeCells (Value.slice none 0 0).cells (n * 1)) 23
  have bS := alloc_below wC (.cells (madeCells (Value.slice none 0 0).cells (n * 1)) 23)
  obtain ⟨wM, hwM⟩ : ∃ W, wC.alloc (.cells (madeCells (Value.slice none 0 0).cells (n * 1)) 23) = W := ⟨_, rfl⟩
  rw [hwM] at kS bS
  rw [hgC] at kS
  rw [made_nil] at kS
  have kM : CalB wM g true := Blk.below kC bS
  have hzM := hzC.below bS
  have hbM : Below g w1 wM := bC.trans (bS.mono (by omega))
  have hsM : g + 1 < wM.heap.size := kS.lt
  have HG := hid hg
  have HWC := hid hwC
  have HWM := hid hwM
  have HGC := hid hgC
  have HZ1 := hid hz1
  clear hEE hRR hcv hcc hL he2 hget lc hB hwC hwM hg hgC bC bS kC hzC hz1 hzM
  go_wp2_with (at_make; refine wpList_mks rfl (.tmp 21) (.tmp 21) 128 rfl 23 (.slice none 0 0) 1 24 Tryd.underlying128 infoRow _ _ n rfl rfl (by omega) (by omega) ?_; rw [HG.out]; rw [HWC.out]; rw [HWM.out]; rw [HGC.out])
  go_loopw [24] (fun x wr => ∃ (i : Nat) (ok : Bool) (rows : List Value), x = .int .i64 i ∧ i ≤ n ∧ rows.length = n ∧ Hid (∀ a, i ≤ a → a < n → rows.getD a undef = .slice none 0 0) ∧ Hid (Blk wr (g + 1) rows.toArray 23) ∧ Hid (ok = true ↔ OkP C i 0) ∧ Hid (CalB wr g ok) ∧ Hid (ok = true → RowsO C (g + 2) wr rows i) ∧ Below g w1 wr ∧ g + 2 ≤ wr.heap.size) (fun x _ => n - (intOf x).toNat)
  case atStart =>
    refine ⟨0, true, List.replicate n (.slice none 0 0), rfl, Nat.zero_le _, List.length_replicate, hid (fun a _ ha => ?_), hid kS, hid ⟨fun _ => okP_start C, fun _ => rfl⟩, hid kM, hid (fun _ a ha => by omega), hbM, by omega⟩
    rw [List.getD_eq_getElem?_getD, List.getElem?_replicate, if_pos ha]
    rfl
  case round =>
    clear kS kM hbM hsM
    obtain ⟨i, ok, rows, rfl, hi, hrl, HNL, HS, HOK, HK, HRO, hbel, hsr⟩ := hrel
    by_cases hin : i < n
    case pos =>
      have hi2 : (i : Int) < (n : Int) := by omega
      obtain ⟨wI, rfl⟩ : ∃ W, W = wr := ⟨_, rfl⟩
      obtain ⟨B, hBI⟩ : ∃ B, wI.heap.size = B := ⟨_, rfl⟩
      have HBI := hid hBI
      rw [hBI] at hsr
      clear hBI
      obtain ⟨d1, hd1⟩ : ∃ m, n - i = m := ⟨_, rfl⟩
      obtain ⟨m, hm⟩ : ∃ m, n - i - 1 = m := ⟨_, rfl⟩
      have wD : IntKind.i64.wrap ((n : Int) - (i : Int)) = (d1 : Int) := by rw [IntWalk.i64_left]; unfold wrap64; omega
      have wD1 : IntKind.i64.wrap ((d1 : Int) - 1) = (m : Int) := by rw [IntWalk.i64_left]; unfold wrap64; omega
      have hmn : i + 1 + m = n := by omega
      have hrow0 : rows.set i (.slice none 0 0) = rows := by
        have h9 := HNL.out i (Nat.le_refl _) hin
        rw [List.getD_eq_getElem?_getD, List.getElem?_eq_getElem (by omega)] at h9
        have h8 : rows[i]'(by omega) = .slice none 0 0 := h9
        rw [← h8, List.set_getElem_self]
      have HS0 : Hid (Blk wI (g + 1) (rows.set i (.slice none 0 0)).toArray 23) := hid (by rw [hrow0]; exact HS.out)
      have HMN := hid hmn
      clear hd1 hm hrow0 hmn HS
      go_wp2_with fail
      go_loopw [31] (fun x wr => ∃ (j : Nat) (ok' : Bool) (u : Value) (xs : List Value), x = .int .i64 j ∧ j ≤ m ∧ Hid (Blk wr (g + 1) (rows.set i u).toArray 23) ∧ Hid (wr.ownsRow B 32 2 u j xs) ∧ Hid (ok' = true ↔ OkP C i j) ∧ Hid (ok' = true → xs = frsC (slpR C i j)) ∧ Hid (CalB wr g ok') ∧ Hid (BelX g (g + 1) B wI wr)) (fun x _ => m - (intOf x).toNat)
      case atStart => exact ⟨0, ok, .slice none 0 0, [], rfl, Nat.zero_le _, HS0, hid (World.ownsRow_nil _ _ _ _), HOK, hid (fun _ => rfl), HK, hid (BelX.refl _ _ _ _)⟩
      case round =>
        obtain ⟨j, ok', u, xs, rfl, hj, HS2, HO2, HOK2, HXS, HK2, HX2⟩ := hrel
        have hmn := HMN.out
        have hbw := BelX.below hbel HX2.out (show g ≤ B by omega) (Nat.le_refl g) (Nat.le_succ g)
        have hsB : B ≤ wr.heap.size := by rw [← HBI.out]; exact HX2.out.size
        by_cases hjm : j < m
        case pos =>
          have hj2 : (j : Int) < (m : Int) := by omega
          have hj48 : j + 1 ≤ 48 := by omega
          obtain ⟨i1, hi1⟩ : ∃ k, i + 1 = k := ⟨_, rfl⟩
          obtain ⟨q, hq⟩ : ∃ k, i + 1 + j = k := ⟨_, rfl⟩
          have wI1 : IntKind.i64.wrap ((i : Int) + 1) = (i1 : Int) := by rw [IntWalk.i64_left]; unfold wrap64; omega
          have wIJ : IntKind.i64.wrap ((i1 : Int) + (j : Int)) = (q : Int) := by rw [IntWalk.i64_left]; unfold wrap64; omega
          have hqn : q < n := by omega
          have hq2 : (q : Int) < (n : Int) := by omega
          have hri := (HCV.out.lt (show i < q by omega) (by rw [HL.out]; exact hqn)).1
          have SL := hid (fun w hz hk => slope_any (C.getD i (0, 0)) (C.getD q (0, 0)) (HCV.out.fit i (by rw [HL.out]; omega)) (HCV.out.fit q (by rw [HL.out]; omega)) (fun e => by rw [e] at hri; exact Rat.lt_irrefl hri) g ok' w hz hk)
          have hst := calK_step HOK2.out (show i + 1 + j < C.length by rw [HL.out]; omega)
          have hvs := fun h => calV_slp (C := C) (i := i) (j := q) (ok := ok') h
          have hsu := slpR_succ C i j
          rw [hq] at hst hsu
          obtain ⟨k3, hk3⟩ : ∃ o, calK ok' (slO (C.getD i (0, 0)) (C.getD q (0, 0))) = o := ⟨_, rfl⟩
          obtain ⟨v3, hv3⟩ : ∃ o, calV ok' (slO (C.getD i (0, 0)) (C.getD q (0, 0))) = o := ⟨_, rfl⟩
          rw [hk3, hv3] at SL hvs
          rw [hk3] at hst
          have HST := hid hst
          have HVS := hid hvs
          have HSU := hid hsu
          unfold frQ ptQ at SL
          obtain ⟨P, hPe⟩ : ∃ P, C.getD i (0, 0) = P := ⟨_, rfl⟩
          obtain ⟨Q, hQe⟩ : ∃ P, C.getD q (0, 0) = P := ⟨_, rfl⟩
          have gP := HGET.out i hin
          have gQ := HGET.out q hqn
          rw [hPe] at gP SL
          rw [hQe] at gQ SL
          have HGP := hid gP
          have HGQ := hid gQ
          have hir : i < rows.length := by omega
          have hd := (Below.refl wr.heap.size wr).drew
          have kSd := HS2.out.below hd
          have hbd := hbw.trans (hd.mono (show g ≤ wr.heap.size by omega))
          have hkd : CalB wr.drew g ok' := CalB.below HK2.out hd
          have hzd : Z0 wr.drew := HZ1.out.below (by rw [HG.out]; exact hbd)
          have hod := HO2.out.drew
          have hXd : BelX g (g + 1) B wI wr.drew := HX2.out.of_belG (BelG.of_below hd hsB)
          have hsBd : B ≤ wr.drew.heap.size := hsB
          obtain ⟨au, cu, rfl, -⟩ := id (SlR.of_owns HO2.out)
          have z0 := fun y : SubT (BelG g B) wr.drew => (y.b.blk kSd (show g + 1 < B by omega) (by omega)).look i (list_look hir)
          have z1 := fun y : SubT (BelG g B) wr.drew => (HGP.out y.w (BelG.below hbd y.b (by omega) (Nat.le_refl _))).1
          have z2 := fun y : SubT (BelG g B) wr.drew => (HGP.out y.w (BelG.below hbd y.b (by omega) (Nat.le_refl _))).2.1
          have z3 := fun y : SubT (BelG g B) wr.drew => (HGP.out y.w (BelG.below hbd y.b (by omega) (Nat.le_refl _))).2.2.1
          have z4 := fun y : SubT (BelG g B) wr.drew => (HGP.out y.w (BelG.below hbd y.b (by omega) (Nat.le_refl _))).2.2.2
          have z5 := fun y : SubT (BelG g B) wr.drew => (HGQ.out y.w (BelG.below hbd y.b (by omega) (Nat.le_refl _))).1
          have z6 := fun y : SubT (BelG g B) wr.drew => (HGQ.out y.w (BelG.below hbd y.b (by omega) (Nat.le_refl _))).2.1
          have z7 := fun y : SubT (BelG g B) wr.drew => (HGQ.out y.w (BelG.below hbd y.b (by omega) (Nat.le_refl _))).2.2.1
          have z8 := fun y : SubT (BelG g B) wr.drew => (HGQ.out y.w (BelG.below hbd y.b (by omega) (Nat.le_refl _))).2.2.2
          clear hri hst hvs hsu hk3 hv3 gP gQ hPe hQe hi1 HS2 HO2 HK2 HX2 hd hmn
          have HQQ := hid hq
          clear hq
          go_wp2_with fail
          refine wp_walkJ (T := BelG g B) (belG_pre g B) (.rd 0 (.rd 1 (.rd 2 (.rd 3 (.rd 4 (.rd 5 (.rd 6 (.rd 7 (.rd 8 (.rd 9 (.rd 10 (.rd 11 (.rd 12 (.rd 13 (.rd 14 (.rd 15 (.rd 16 (.mv 17 (.mv 18 (.mv 19 (.rd 20 (.bt 21 (.inv []))))))))))))))))))))))) (by kernel_rfl) rfl (by kernel_rfl) (by kernel_rfl) ?_
          iterate 17 (refine walkJ_rd rfl (fun K hK => ?_); go_simp; refine hK _ ?_; clear hK K)
          clear z0 z1 z2 z3 z4 z5 z6 z7 z8
          (refine walkJ_mv rfl (fun K hK => ?_); go_simp; refine (SL.out _ hzd hkd).mono ?_; rintro e w3 ⟨rfl, hk3, ht3⟩; refine ⟨_, rfl, hK _ _ (BelG.of_calT ht3 hsBd) ?_⟩; clear hK K)
          have hG3 : BelG g B wr.drew w3 := BelG.of_calT ht3 hsBd
          have kS3 := hG3.blk kSd (show g + 1 < B by omega) (by omega)
          have hX3 := hXd.of_belG hG3
          have hs3 : B ≤ w3.heap.size := Nat.le_trans hsBd ht3.size
          have ho3 := owns_calT ht3 hod (show g < B by omega)
          (refine walkJ_mv rfl (fun K hK => ?_); go_simp; refine hK _ _ (BelG.of_below (alloc_below _ _) hs3) ?_; clear hK K)
          have kN := Blk.new w3 [Value.int .i64 v3.num, Value.int .i64 (v3.den : Int)].toArray 32
          have ba3 := alloc_below w3 (.cells [Value.int .i64 v3.num, Value.int .i64 (v3.den : Int)].toArray 32)
          have kS4 := kS3.below ba3
          have hX4 := hX3.of_belG (BelG.of_below ba3 hs3)
          have ho4 := owns_below ho3 ba3
          have hk4 := CalB.below hk3 ba3
          have hs4 := Nat.le_trans hs3 ba3.size
          refine walkJ_mv rfl (fun K hK => ⟨rfl, gives_app (.tmp 39) (.tmp 52) 23 23 rfl rfl B 32 (frV 0 0) 2 16 Tryd.underlying23 infoFrac rfl (by decide) rfl ho4 [Value.int .i64 v3.num, Value.int .i64 (v3.den : Int)] w3.heap.size kN rfl rfl (by simp [Value.oneCell']) (by unfold maxLen; omega) (by omega) hs4 (fun g5 cap5 w5 ho5 hgr5 hbg5 => hK _ _ (BelG.of_grown hgr5 hs4 (fun k hk => (ho4.lt k hk).1)) ?_)⟩)
          clear hK K
          have hG5 : BelG g B (w3.alloc (.cells [Value.int .i64 v3.num, Value.int .i64 (v3.den : Int)].toArray 32)) w5 := BelG.of_grown hgr5 hs4 (fun k hk => (ho4.lt k hk).1)
          have kS5 := hG5.blk kS4 (show g + 1 < B by omega) (by omega)
          have hX5 := hX4.of_belG hG5
          have hk5 : CalB w5 g k3 := (World.grownBy.block hgr5 g hk4.lt (fun e => by have := (ho4.lt g e.symm).1; omega)).trans hk4
          rw [← show frsC [v3] = [Value.int .i64 v3.num, Value.int .i64 (v3.den : Int)] from rfl] at ho5
          (refine walkJ_rd rfl (fun K hK => ?_); go_simp; refine hK _ ?_; clear hK K)
          have q0 := kS5.look i (list_look hir)
          have f0 := kS5.frozen
          have kS6 := kS5.set i (.slice (some ⟨g5, 0, none⟩) (j + 1) cap5)
          rw [set_set] at kS6
          have KS6 := hid kS6
          have HO6 := hid (ownsRow_setCell_below ho5 (a := ⟨g + 1, i, none⟩) (show g + 1 < B by omega) (.slice (some ⟨g5, 0, none⟩) (j + 1) cap5))
          have HK6 := hid (Blk.other hk5 (p := ⟨g + 1, i, none⟩) (show g ≠ g + 1 by omega) (.slice (some ⟨g5, 0, none⟩) (j + 1) cap5))
          have HX6 := hid (hX5.set (p := ⟨g + 1, i, none⟩) rfl (.slice (some ⟨g5, 0, none⟩) (j + 1) cap5))
          have HXS6 : Hid (k3 = true → xs ++ frsC [v3] = frsC (slpR C i (j + 1))) := hid (fun h => by
            obtain ⟨e1, e2⟩ := HVS.out h
            rw [HSU.out, frsC_append, HXS.out e2, e1])
          clear kS5 kS6 ho5 hk5 hX5 hgr5 ho4 hk4 hX4 kS4 kN ba3 ho3 hX3 kS3 hG3 hG5 ht3 hk3 hzd hkd hod hXd kSd hbd hs3 hs4 hsBd SL HGP HGQ hsB hbw
          (refine walkJ_bt rfl (fun K hK => ?_); go_simp; refine hK _ _ ?_; clear hK K)
          refine walkJ_nil ?_
          go_wp2
          go_roundw
          case rel => exact ⟨j + 1, k3, _, _, by go_num, by omega, KS6, HO6, HST, HXS6, HK6, HX6⟩
          case measure => simp [intOf] <;> omega
        case neg =>
          obtain rfl : m = j := by omega
          have hj2 : ¬ (m : Int) < (m : Int) := by omega
          have e1 : C.length - i - 1 = m := by rw [HL.out]; omega
          have HOK3 : Hid (ok' = true ↔ OkP C (i + 1) 0) := hid (by
            have h9 := HOK2.out
            rw [← e1] at h9
            exact h9.trans (okP_row (by rw [HL.out]; exact hin)))
          have hir : i < rows.length := by omega
          have HRO3 : Hid (ok' = true → RowsO C (g + 2) wr (rows.set i u) (i + 1)) := hid (fun h a ha => by
            have h8 : OkP C i 0 := fun a b h1 h2 h3 => HOK2.out.1 h a b h1 h2 (by omega)
            have h9 := HRO.out (HOK.out.2 h8)
            by_cases hai : a = i
            · subst hai
              have e2 : (rows.set a u).getD a undef = u := by
                rw [List.getD_eq_getElem?_getD, List.getElem?_set_self hir]
                rfl
              rw [e2, e1]
              have h7 := SlR.mono (SlR.of_owns HO2.out) (show g + 2 ≤ B by omega)
              rw [HXS.out h] at h7
              unfold QsR
              rw [slpR_len]
              exact h7
            · have e2 : (rows.set i u).getD a undef = rows.getD a undef := by
                rw [List.getD_eq_getElem?_getD, List.getElem?_set_ne (Ne.symm hai), ← List.getD_eq_getElem?_getD]
              rw [e2]
              exact (RowsO.belX h9 HX2.out (Nat.le_of_eq HBI.out) (by omega) (by omega)) a (by omega))
          have HNL3 : Hid (∀ a, i + 1 ≤ a → a < n → (rows.set i u).getD a undef = .slice none 0 0) := hid (fun a h1 h2 => by
            rw [List.getD_eq_getElem?_getD, List.getElem?_set_ne (by omega), ← List.getD_eq_getElem?_getD]
            exact HNL.out a (by omega) h2)
          have hs9 : g + 2 ≤ wr.heap.size := by omega
          clear e1 hmn
          go_wp2
          go_roundw
          case rel => exact ⟨i + 1, ok', rows.set i u, by go_num, by omega, by rw [List.length_set]; exact hrl, HNL3, HS2, HOK3, HK2, HRO3, hbw, hs9⟩
          case measure => simp [intOf] <;> omega
    case neg =>
      obtain rfl : n = i := by omega
      have hi2 : ¬ (n : Int) < (n : Int) := by omega
      have hBw : Below w.heap.size w wr := HB.out.trans ((show Below w1.heap.size w1 wr by rw [HG.out]; exact hbel).mono HB.out.size)
      have c0 := HK.out.look 0 rfl
      cases ok with
      | false =>
        have hnf : ¬ HulF C := fun hf => by
          have := HOK.out.2 ((okP_all (Nat.le_of_eq HL.out)).2 hf)
          cases this
        obtain rfl : E = 5 := by rw [HEE.out, if_neg hnf]
        obtain rfl : R = [] := by rw [HRR.out, if_neg (by decide)]
        clear hnf HS
        go_wp2_with fail
        have hd := (Below.refl wr.heap.size wr).drew
        have z0 := fun x : SubT (Below wr.heap.size) wr.drew => (Blk.below HK.out (hd.trans x.b)).look 0 rfl
        refine wp_walkJ (T := Below (wr.heap.size)) (belowV_pre _) (.rd 0 (.rd 1 (.rd 2 (.rd 3 (.inv []))))) (by kernel_rfl) rfl (by kernel_rfl) (by kernel_rfl) ?_
        iterate 4 (refine walkJ_rd rfl (fun K hK => ?_); go_simp; refine hK _ ?_; clear hK K)
        refine walkJ_nil ?_
        go_wp2
        go_ret2
        exact ⟨⟨_, rfl, SlR.nil _ _⟩, hBw.trans (hd.mono hBw.size)⟩
      | true =>
        have hf : HulF C := (okP_all (Nat.le_of_eq HL.out)).1 (HOK.out.1 rfl)
        obtain rfl : E = 0 := by rw [HEE.out, if_pos hf]
        have hR2 : R = hulT up C n := by rw [HRR.out, if_pos rfl, HLT.out]
        have HR2 := hid hR2
        have HROW := hid (HRO.out rfl)
        have HFL := hid hf
        clear HEE HRR hf hR2 HRO HOK HNL HLT
        obtain ⟨wF, rfl⟩ : ∃ W, W = wr := ⟨_, rfl⟩
        have g0 := HGET.out 0 (by omega) wF hbel
        simp only [Nat.zero_mul, Nat.add_zero] at g0
        obtain ⟨x0, x1, x2, x3⟩ := g0
        have hT1 : hulT up C (0 + 1) = [C.getD 0 (0, 0)] := by
          unfold hulT
          rw [hullTo_one]
          rfl
        obtain ⟨P, hPe⟩ : ∃ P, C.getD 0 (0, 0) = P := ⟨_, rfl⟩
        rw [hPe] at x0 x1 x2 x3 hT1
        obtain ⟨p1, hp1⟩ : ∃ z, P.1.num = z := ⟨_, rfl⟩
        obtain ⟨p2, hp2⟩ : ∃ z, (P.1.den : Int) = z := ⟨_, rfl⟩
        obtain ⟨p3, hp3⟩ : ∃ z, P.2.num = z := ⟨_, rfl⟩
        obtain ⟨p4, hp4⟩ : ∃ z, (P.2.den : Int) = z := ⟨_, rfl⟩
        have hPC : ptsC (hulT up C (0 + 1)) = [.int .i64 p1, .int .i64 p2, .int .i64 p3, .int .i64 p4] := by rw [hT1, ← hp1, ← hp2, ← hp3, ← hp4]; rfl
        have hPL : (hulT up C (0 + 1)).length = 1 := by rw [hT1]; rfl
        rw [hp1] at x0
        rw [hp2] at x1
        rw [hp3] at x2
        rw [hp4] at x3
        have kA := Blk.new wF #[.int .i64 p1, .int .i64 p2, .int .i64 p3, .int .i64 p4] 52
        have bA := alloc_below wF (.cells #[.int .i64 p1, .int .i64 p2, .int .i64 p3, .int .i64 p4] 52)
        have HO0 : Hid ((wF.alloc (.cells #[.int .i64 p1, .int .i64 p2, .int .i64 p3, .int .i64 p4] 52)).ownsRow wF.heap.size 52 4 (.slice (some ⟨wF.heap.size, 0, none⟩) 1 1) (hulT up C (0 + 1)).length (ptsC (hulT up C (0 + 1)))) := hid (by rw [hPL, hPC]; exact owns_four kA (Nat.le_refl _))
        have HBA := hid bA
        have HCO0 := hid (corner_zero C.length (slpW up C))
        obtain ⟨nm, hnm⟩ : ∃ k, n - 1 = k := ⟨_, rfl⟩
        have wN1 : IntKind.i64.wrap ((n : Int) - 1) = (nm : Int) := by rw [IntWalk.i64_left]; unfold wrap64; omega
        have hnm1 : nm + 1 = n := by omega
        have HNM := hid hnm1
        have HBE := hid hbel
        clear hPe hp1 hp2 hp3 hp4 hT1 hPC hPL kA bA hnm hnm1 hbel
        go_wp2_with fail
        clear x0 x1 x2 x3 c0
        go_loopw [11, 12] (fun y x wr => ∃ a : Nat, x = .int .i64 a ∧ a ≤ nm ∧ Hid (CornerP C.length (slpW up C) a) ∧ Hid (wr.ownsRow wF.heap.size 52 4 y (hulT up C (a + 1)).length (ptsC (hulT up C (a + 1)))) ∧ Hid (Below wF.heap.size wF wr)) (fun _ x _ => nm - (intOf x).toNat)
        case atStart => exact ⟨0, rfl, Nat.zero_le _, HCO0, HO0, HBA⟩
        case round =>
          clear HCO0 HO0 HBA
          obtain ⟨a, rfl, ha, HCO, HO, HBQ⟩ := hrel
          have hn48 : n ≤ 48 := h48
          have hnm1 := HNM.out
          by_cases han : a < nm
          case pos =>
            have ha2 : (a : Int) < (nm : Int) := by omega
            have han2 : (a : Int) < (n : Int) := by omega
            obtain ⟨wQ, rfl⟩ : ∃ W, W = wr := ⟨_, rfl⟩
            have hsQ := HBQ.out.size
            obtain ⟨m, hm⟩ : ∃ m, C.length - a - 1 = m := ⟨_, rfl⟩
            have hm1 : a + 1 + m = n := by have := HL.out; omega
            obtain ⟨ar, cr, her, hcr1, hcr2, hcrr⟩ := HROW.out a (by omega)
            have hcrr2 := CellsOf.below hcrr HBQ.out
            rw [slpR_len, hm] at her hcr1
            rw [hm] at hcrr2
            have har : a < rows.length := by omega
            have kRow := (HS.out.below HBQ.out)
            have hlk : rows.toArray[a]? = some (.slice ar m cr) := by
              rw [← her, List.getD_eq_getElem?_getD, List.getElem?_eq_getElem har]
              simp [har]
            have HLK := hid hlk
            have HRC := hid hcrr2
            have HFIT := hid (fun j (hj : j < m) => slp_fit_of (C := C) HFL.out (i := a) (j := a + 1 + j) (by omega) (by rw [HL.out]; omega))
            obtain ⟨nb, hb1, hb2, hb3, hb4, hb5⟩ := hulT_next (up := up) HCV.out (show a + 1 < C.length by rw [HL.out]; omega) HCO.out
            rw [hm] at hb1
            rw [HL.out] at hb3
            have HB1 := hid hb1
            have HB4 := hid hb4
            have HB5 := hid hb5
            have hmpos : 0 < m := by omega
            unfold maxLen at hcr2
            have c1 := kRow.look a hlk
            clear her hcrr hcrr2 hlk hb1 hb4 hb5 hm HCO
            have HKR := hid kRow
            have HM1 := hid hm1
            clear hm1 kRow
            have hm48 : m ≤ 48 := by have := HM1.out; omega
            clear hnm1
            go_wp2_with fail
            clear c1
            go_loopw [13, 75] (fun z x wr => ∃ j : Nat, x = .int .i64 j ∧ j ≤ m ∧ z = .int .i64 ((nxtJ (fun j => slpW up C a (a + 1 + j)) j : Nat) : Int) ∧ Below wQ.heap.size wQ wr) (fun _ x _ => m - (intOf x).toNat)
            case atStart => exact ⟨0, rfl, Nat.zero_le _, rfl, Below.refl _ _⟩
            case round =>
              obtain ⟨j, rfl, hj, rfl, hbq⟩ := hrel
              have hsr2 := hbq.size
              by_cases hjm : j < m
              case pos =>
                have hj2 : (j : Int) < (m : Int) := by omega
                have hst : nxtJ (fun j => slpW up C a (a + 1 + j)) (j + 1) = if slpW up C a (a + 1 + j) ≤ slpW up C a (a + 1 + nxtJ (fun j => slpW up C a (a + 1 + j)) j) then j else nxtJ (fun j => slpW up C a (a + 1 + j)) j := rfl
                have hbm := nxtJ_lt (fun j => slpW up C a (a + 1 + j)) j m (by omega) hmpos
                obtain ⟨bt, hbt⟩ : ∃ k, nxtJ (fun j => slpW up C a (a + 1 + j)) j = k := ⟨_, rfl⟩
                rw [hbt] at hst hbm ⊢
                have hbm2 : (bt : Int) < (m : Int) := by omega
                have fs := HFIT.out j hjm
                have fb := HFIT.out bt hbm
                obtain ⟨bs, os, hes, hbs, s0, s1⟩ := q_cell HRC.out (show j < (slpR C a m).length by rw [slpR_len]; exact hjm)
                obtain ⟨bs', os', hes', hbs', b0, b1⟩ := q_cell HRC.out (show bt < (slpR C a m).length by rw [slpR_len]; exact hbm)
                obtain ⟨rfl, rfl⟩ : bs = bs' ∧ os = os' := by rw [hes] at hes'; simpa using hes'
                rw [slpR_get C a hjm] at s0 s1
                rw [slpR_get C a hbm] at b0 b1
                have hcm := hul_cmp up (slpQ C a (a + 1 + j)) (slpQ C a (a + 1 + bt))
                rw [HWY.out, ← slpW_sw, ← slpW_sw] at hcm
                obtain ⟨pz, hpz, hpz2⟩ := hcm
                have OR := hid (fun w => order_any (slpQ C a (a + 1 + j)) (slpQ C a (a + 1 + bt)) fs fb w)
                obtain ⟨cz, hcz⟩ : ∃ z, cmpQ (slpQ C a (a + 1 + j)) (slpQ C a (a + 1 + bt)) = z := ⟨_, rfl⟩
                rw [hcz] at OR hpz
                unfold frQ at OR
                obtain ⟨S1, hS1⟩ : ∃ z, slpQ C a (a + 1 + j) = z := ⟨_, rfl⟩
                obtain ⟨S2, hS2⟩ : ∃ z, slpQ C a (a + 1 + bt) = z := ⟨_, rfl⟩
                rw [hS1] at OR s0 s1
                rw [hS2] at OR b0 b1
                obtain ⟨n1, hn1⟩ : ∃ z, S1.num = z := ⟨_, rfl⟩
                obtain ⟨d1, hd1⟩ : ∃ z, (S1.den : Int) = z := ⟨_, rfl⟩
                obtain ⟨n2, hn2⟩ : ∃ z, S2.num = z := ⟨_, rfl⟩
                obtain ⟨d2, hd2⟩ : ∃ z, (S2.den : Int) = z := ⟨_, rfl⟩
                rw [hn1] at OR s0
                rw [hd1] at OR s1
                rw [hn2] at OR b0
                rw [hd2] at OR b1
                have HST := hid hst
                have HPZ2 := hid hpz2
                have HBT := hid hbt
                replace s0 := (hbq.cell (p := ⟨bs, os + j * 2, none⟩) hbs).trans s0
                replace s1 := (hbq.cell (p := ⟨bs, os + j * 2 + 1, none⟩) hbs).trans s1
                replace b0 := (hbq.cell (p := ⟨bs, os + bt * 2, none⟩) hbs).trans b0
                replace b1 := (hbq.cell (p := ⟨bs, os + bt * 2 + 1, none⟩) hbs).trans b1
                have kT := Blk.new wr #[.int .i64 n1, .int .i64 d1] 32
                have bT := alloc_below wr (.cells #[.int .i64 n1, .int .i64 d1] 32)
                have kR := (HKR.out.below hbq).below bT
                have hbT := hbq.trans (bT.mono hsr2)
                have hbsr : bs < wr.heap.size := Nat.lt_of_lt_of_le hbs hsr2
                have c0 := (bT.cell (p := ⟨bs, os + bt * 2, none⟩) hbsr).trans b0
                have c1 := (bT.cell (p := ⟨bs, os + bt * 2 + 1, none⟩) hbsr).trans b1
                subst hes
                clear hst hbt fs fb hes' hbs' hcz hS1 hS2 hn1 hd1 hn2 hd2 hpz2 b0 b1 hbq
                go_wp2_with fail
                obtain ⟨W, hW⟩ : ∃ W, wr.alloc (.cells #[.int .i64 n1, .int .i64 d1] 32) = W := ⟨_, rfl⟩
                obtain ⟨gT, hgT⟩ : ∃ g, wr.heap.size = g := ⟨_, rfl⟩
                have hlsr : bs < W.heap.size := by rw [← hW]; simp; omega
                rw [hW] at kT kR hbT c0 c1 ⊢
                rw [hgT] at kT ⊢
                clear hW hgT bT s0 s1
                have hd := (Below.refl W.heap.size W).drew
                have z0 := fun y : SubT (Below W.heap.size) W.drew => (kT.below (hd.trans y.b)).look 0 rfl
                have z1 := fun y : SubT (Below W.heap.size) W.drew => (kT.below (hd.trans y.b)).look 1 rfl
                have z2 := fun y : SubT (Below W.heap.size) W.drew => (kR.below (hd.trans y.b)).look a HLK.out
                have z3 := fun y : SubT (Below W.heap.size) W.drew => ((hd.trans y.b).cell (p := ⟨bs, os + bt * 2, none⟩) hlsr).trans c0
                have z4 := fun y : SubT (Below W.heap.size) W.drew => ((hd.trans y.b).cell (p := ⟨bs, os + bt * 2 + 1, none⟩) hlsr).trans c1
                refine wp_walkJ (T := Below (W.heap.size)) (belowV_pre _) (.rd 0 (.rd 1 (.rd 2 (.rd 3 (.rd 4 (.rd 5 (.rd 6 (.rd 7 (.rd 9 (.mv 8 (.rd 10 (.rd 11 (.inv []))))))))))))) (by kernel_rfl) rfl (by kernel_rfl) (by kernel_rfl) ?_
                iterate 9 (refine walkJ_rd rfl (fun K hK => ?_); go_simp; refine hK _ ?_; clear hK K)
                clear z0 z1 z2 z3 z4
                (refine walkJ_mv rfl (fun K hK => ?_); go_simp; refine (OR.out _).mono ?_; rintro e w2 ⟨rfl, hb2⟩; refine ⟨_, rfl, hK _ _ hb2 ?_⟩; clear hK K)
                have hb2' := hbT.trans ((hd.trans hb2).mono hbT.size)
                clear hb2 hd kT kR hbT c0 c1 OR
                by_cases hpz0 : pz ≤ 0
                case pos =>
                  have hn : nxtJ (fun j => slpW up C a (a + 1 + j)) (j + 1) = j := by rw [HST.out, if_pos (HPZ2.out.1 hpz0)]
                  have HN := hid hn
                  clear hn HST HPZ2
                  iterate 2 (refine walkJ_rd rfl (fun K hK => ?_); go_simp; refine hK _ ?_; clear hK K)
                  refine walkJ_nil ?_
                  go_wp2
                  go_roundw
                  case rel => exact ⟨j + 1, by go_num, by omega, by rw [HN.out], hb2'⟩
                  case measure => simp [intOf] <;> omega
                case neg =>
                  have hn : nxtJ (fun j => slpW up C a (a + 1 + j)) (j + 1) = bt := by rw [HST.out, if_neg (fun h => hpz0 (HPZ2.out.2 h))]
                  have HN := hid hn
                  clear hn HST HPZ2
                  iterate 2 (refine walkJ_rd rfl (fun K hK => ?_); go_simp; refine hK _ ?_; clear hK K)
                  refine walkJ_nil ?_
                  go_wp2
                  go_roundw
                  case rel => exact ⟨j + 1, by go_num, by omega, by rw [HN.out], hb2'⟩
                  case measure => simp [intOf] <;> omega
              case neg =>
                obtain rfl : m = j := by omega
                have hj2 : ¬ (m : Int) < (m : Int) := by omega
                have hbt : nb = a + 1 + nxtJ (fun j => slpW up C a (a + 1 + j)) m := HB1.out
                have hbm := nxtJ_lt (fun j => slpW up C a (a + 1 + j)) m m (Nat.le_refl _) hmpos
                obtain ⟨bt, hbe⟩ : ∃ k, nxtJ (fun j => slpW up C a (a + 1 + j)) m = k := ⟨_, rfl⟩
                rw [hbe] at hbt hbm ⊢
                obtain ⟨b2, hb2e⟩ : ∃ k, bt + 1 = k := ⟨_, rfl⟩
                have w1' : IntKind.i64.wrap ((bt : Int) + 1) = (b2 : Int) := by rw [IntWalk.i64_left]; unfold wrap64; omega
                have w2' : IntKind.i64.wrap ((a : Int) + (b2 : Int)) = (nb : Int) := by rw [IntWalk.i64_left]; unfold wrap64; omega
                have hnb2 : (nb : Int) < (n : Int) := by omega
                have hbelq := HBE.out.trans ((HBQ.out.trans (hbq.mono hsQ)).mono (by omega : g ≤ wF.heap.size))
                obtain ⟨x0, x1, x2, x3⟩ := HGET.out nb hb3 wr hbelq
                have hT := HB5.out
                obtain ⟨P, hPe⟩ : ∃ P, C.getD nb (0, 0) = P := ⟨_, rfl⟩
                rw [hPe] at x0 x1 x2 x3 hT
                obtain ⟨p1, hp1⟩ : ∃ z, P.1.num = z := ⟨_, rfl⟩
                obtain ⟨p2, hp2⟩ : ∃ z, (P.1.den : Int) = z := ⟨_, rfl⟩
                obtain ⟨p3, hp3⟩ : ∃ z, P.2.num = z := ⟨_, rfl⟩
                obtain ⟨p4, hp4⟩ : ∃ z, (P.2.den : Int) = z := ⟨_, rfl⟩
                have HPV : Hid (ptsC [P] = [.int .i64 p1, .int .i64 p2, .int .i64 p3, .int .i64 p4]) := hid (by rw [← hp1, ← hp2, ← hp3, ← hp4]; rfl)
                rw [hp1] at x0
                rw [hp2] at x1
                rw [hp3] at x2
                rw [hp4] at x3
                have HO2 := hid (owns_below HO.out hbq)
                have HT := hid hT
                have hbW := HBQ.out.trans (hbq.mono hsQ)
                have hsW := hbW.size
                have hlT := hulT_len up C (a + 1)
                have hnb1 : nb ≤ nm := by have := HNM.out; omega
                have hmm : nm - nb < nm - a := by have := HNM.out; omega
                clear hbt hbe hb2e hbelq hPe hp1 hp2 hp3 hp4 hT HO hbq
                go_wp2_with (first
                  | (at_builtin; refine wpList_appH rfl (.tmp 98) (.tmp 103) _ rfl wF.heap.size 52 (.agg #[.int .i64 0, .int .i64 0, .int .i64 0, .int .i64 0]) 4 32 Tryd.underlying22 infoPoint rfl (by decide) 52 _ _ _ rfl HO2.out [.int .i64 p1, .int .i64 p2, .int .i64 p3, .int .i64 p4] _ (by first | rfl | simp) rfl rfl (by simp [Value.oneCell']) (by unfold maxLen; omega) (by omega) (by omega) ?_; intro g5 gcap w7 ho7 hb7 _ _ _))
                go_roundw
                case rel =>
                  refine ⟨nb, rfl, hnb1, HB4, ?_, hid (hbW.trans hb7)⟩
                  rw [HT.out, List.length_append, ptsC_append, HPV.out]
                  exact hid ho7
                case measure => simp [intOf] <;> omega
          case neg =>
            obtain rfl : nm = a := by omega
            have ha2 : ¬ (nm : Int) < (nm : Int) := by omega
            obtain ⟨a9, c9, rfl, -⟩ := id (SlR.of_owns HO.out)
            have hr := SlR.mono (SlR.of_owns HO.out) (show w.heap.size ≤ wF.heap.size from hBw.size)
            rw [hnm1, ← HR2.out] at hr
            have hq2 : (hulT up C (nm + 1)).length = R.length := by rw [hnm1, ← HR2.out]
            obtain ⟨q, hq⟩ : ∃ q, R.length = q := ⟨_, rfl⟩
            rw [hq] at hr hq2
            rw [hq2]
            have HR := hid hr
            have HQ := hid hq
            have hBf := hBw.trans (HBQ.out.mono hBw.size)
            clear hr HO hq hq2 hnm1
            go_wp2
            go_ret2
            refine ⟨⟨_, rfl, ?_⟩, hBf⟩
            unfold PsR
            rw [HQ.out]
            exact HR.out

end Go.Proofs.YtfkclcoipadhmaaDoor

/- Walks of curve.Convex and curve.Concave. -/
namespace Go.Proofs.YtfkclcoipadhmaaDoor
open Go.RowKit
attribute [local irreducible] seqS seqST walkV walkJ

set_option maxHeartbeats 4000000 in
set_option maxRecDepth 100000 in
theorem Convex_any (c : List P4) (v : Value) (w : World) (h : P4R 0 w v c) (hz : Z0 w) :
    Calls Tryd.prog 44 #[v] w fun r w' => (∃ v', r = .returned (.tuple #[v', .int .i64 (hulE c)]) ∧ PsR w.heap.size w' v' (hulR false c)) ∧ Below w.heap.size w w' := by
  have HA := hid (hull_any c false v w h hz)
  generalize hulE c = E at HA ⊢
  generalize hulR false c = R at HA ⊢
  obtain ⟨ac, cc, rfl, -⟩ := h
  go_enter Tryd.func44, Tryd.ntmps44
  go_wp2_with fail
  refine HA.out.mono ?_
  rintro r w1 ⟨⟨v1, rfl, h1⟩, hb⟩
  have H1 := hid h1
  obtain ⟨a1, c1, rfl, -⟩ := h1
  go_wp2
  go_ret2
  exact ⟨⟨_, rfl, H1.out⟩, hb⟩

set_option maxHeartbeats 4000000 in
set_option maxRecDepth 100000 in
theorem Concave_any (c : List P4) (v : Value) (w : World) (h : P4R 0 w v c) (hz : Z0 w) :
    Calls Tryd.prog 46 #[v] w fun r w' => (∃ v', r = .returned (.tuple #[v', .int .i64 (hulE c)]) ∧ PsR w.heap.size w' v' (hulR true c)) ∧ Below w.heap.size w w' := by
  have HA := hid (hull_any c true v w h hz)
  generalize hulE c = E at HA ⊢
  generalize hulR true c = R at HA ⊢
  obtain ⟨ac, cc, rfl, -⟩ := h
  go_enter Tryd.func46, Tryd.ntmps46
  go_wp2_with fail
  refine HA.out.mono ?_
  rintro r w1 ⟨⟨v1, rfl, h1⟩, hb⟩
  have H1 := hid h1
  obtain ⟨a1, c1, rfl, -⟩ := h1
  go_wp2
  go_ret2
  exact ⟨⟨_, rfl, H1.out⟩, hb⟩

end Go.Proofs.YtfkclcoipadhmaaDoor
