/- Walk of matched: Kuhn's search as the program does it. -/
import Derived.Test.YtcpefolhohakmaaK1
import Derived.Test.YtcpefolhohakmaaK2
import Derived.Test.YtcpefolhohakmaaI3
namespace Go.Proofs.Ytcpefolhohakmaa
open Go.RowKit
attribute [local irreducible] seqS seqST walkV walkJ

/-- A bottleneck that the guard leaves out. -/
theorem walkJ_bs {T : World → World → Prop} {P : Program} {lst : List Oper} {Q : Act → World → Prop} {k : Nat} {r : PlJ} {o : Oper} {a : Act} {w : World} (ho : opAt lst k = some o)
    (h : ∀ K : Act → Prop, (∀ a', walkJ T P lst Q r a' w → K a') → Region.wanted o (yielded lst.toArray a.tmps) = false ∧ K (a.put o.dst undef)) : walkJ T P lst Q (.bt k r) a w := by
  have h1 := h (fun a' => walkJ T P lst Q r a' w) (fun _ h => h)
  unfold walkJ
  exact ⟨o, ho, .inr h1⟩
theorem TabR.keep {S S' : Nat → Prop} {w w' : World} {p : Value} {nl nr : Nat} {c : Nat → Nat → Int} (h : TabR S w p nl nr c) (k : Keep S' w w') (hs : ∀ b, b < w.heap.size → S b → S' b) : TabR S w' p nl nr c := by
  obtain ⟨gt, vc, vs, h1, h2, h3, h4, h5⟩ := h
  exact ⟨gt, vc, vs, h1, h2, k.blk h3 (hs _ h3.lt h2), SlS.keep h4 k hs, fun i hi => by
    obtain ⟨g, e1, e2, e3⟩ := h5 i hi
    exact ⟨g, e1, e2, k.blk e3 (hs _ e3.lt e2)⟩⟩
theorem TabR.mono {S S' : Nat → Prop} {w : World} {p : Value} {nl nr : Nat} {c : Nat → Nat → Int} (h : TabR S w p nl nr c) (hs : ∀ b, b < w.heap.size → S b → S' b) : TabR S' w p nl nr c := by
  obtain ⟨gt, vc, vs, h1, h2, h3, h4, h5⟩ := h
  exact ⟨gt, vc, vs, h1, hs _ h3.lt h2, h3, SlS.mono h4 hs, fun i hi => by
    obtain ⟨g, e1, e2, e3⟩ := h5 i hi
    exact ⟨g, e1, hs _ e3.lt e2, e3⟩⟩

/-- What the closure of matched reads and writes. -/
structure MkR (w : World) (gt0 gm0 gs0 ga0 gf0 gs ga : Nat) (p : Value) (nl nr : Nat) (c : Nat → Nat → Int) (st : KSt) : Prop where
  t : Blk w gt0 #[p] 67
  mo : Blk w gm0 #[.int .i64 1000000000] 3
  se : Blk w gs0 #[slV gs nr] 80
  ma : Blk w ga0 #[slV ga nr] 37
  fi : Blk w gf0 #[.func (.func 64) #[] #[.pointer (some ⟨gt0, 0, none⟩), .pointer (some ⟨gm0, 0, none⟩), .pointer (some ⟨gs0, 0, none⟩), .pointer (some ⟨ga0, 0, none⟩), .pointer (some ⟨gf0, 0, none⟩)]] 82
  s : Blk w gs (arr nr fun j => .bool (st.1 j)) 4
  m : Blk w ga (arr nr fun j => oI (st.2 j)) 3
  tab : TabR (fun b => b ≠ gs ∧ b ≠ ga) w p nl nr c
  n1 : gm0 ≠ ga
theorem MkR.keep {w w' : World} {gt0 gm0 gs0 ga0 gf0 gs ga : Nat} {p : Value} {nl nr : Nat} {c : Nat → Nat → Int} {st : KSt} (h : MkR w gt0 gm0 gs0 ga0 gf0 gs ga p nl nr c st) (k : Below w.heap.size w w') : MkR w' gt0 gm0 gs0 ga0 gf0 gs ga p nl nr c st :=
  ⟨h.t.below k, h.mo.below k, h.se.below k, h.ma.below k, h.fi.below k, h.s.below k, h.m.below k, h.tab.keep (Keep.of_below (S := fun _ => True) k) (fun _ _ _ => trivial), h.n1⟩
theorem MkR.setS {w : World} {gt0 gm0 gs0 ga0 gf0 gs ga : Nat} {p : Value} {nl nr : Nat} {c : Nat → Nat → Int} {s : Nat → Bool} {m : Mt} (h : MkR w gt0 gm0 gs0 ga0 gf0 gs ga p nl nr c (s, m)) (j : Nat) : MkR (w.setCell ⟨gs, j, none⟩ (.bool true)) gt0 gm0 gs0 ga0 gf0 gs ga p nl nr c (setB s j, m) := by
  have k := Keep.set (S := (· ≠ gs)) w (p := ⟨gs, j, none⟩) (fun h => h rfl) (.bool true)
  exact ⟨k.blk h.t (blk_ne h.t h.s (by decide)), k.blk h.mo (blk_ne h.mo h.s (by decide)), k.blk h.se (blk_ne h.se h.s (by decide)), k.blk h.ma (blk_ne h.ma h.s (by decide)), k.blk h.fi (blk_ne h.fi h.s (by decide)),
    by have := h.s.arr_set j (.bool true); rw [arr_bool_set] at this; exact this, k.blk h.m (blk_ne h.m h.s (by decide)), h.tab.keep k (fun b _ hb => hb.1), h.n1⟩
theorem MkR.setM {w : World} {gt0 gm0 gs0 ga0 gf0 gs ga : Nat} {p : Value} {nl nr : Nat} {c : Nat → Nat → Int} {s : Nat → Bool} {m : Mt} (h : MkR w gt0 gm0 gs0 ga0 gf0 gs ga p nl nr c (s, m)) (j i : Nat) : MkR (w.setCell ⟨ga, j, none⟩ (.int .i64 (i : Int))) gt0 gm0 gs0 ga0 gf0 gs ga p nl nr c (s, upd m j (some i)) := by
  have k := Keep.set (S := (· ≠ ga)) w (p := ⟨ga, j, none⟩) (fun h => h rfl) (.int .i64 (i : Int))
  exact ⟨k.blk h.t (blk_ne h.t h.m (by decide)), k.blk h.mo h.n1, k.blk h.se (blk_ne h.se h.m (by decide)), k.blk h.ma (blk_ne h.ma h.m (by decide)), k.blk h.fi (blk_ne h.fi h.m (by decide)),
    k.blk h.s (blk_ne h.s h.m (by decide)), by have := h.m.arr_set j (oI (some i)); rw [arr_mt_set] at this; exact this, h.tab.keep k (fun b _ hb => hb.2), h.n1⟩
theorem cntB_set {s : Nat → Bool} {j n : Nat} (hj : j < n) (h : s j = false) : cntB (setB s j) n = cntB s n + 1 := by
  have := cntB_one s j n
  rw [if_pos ⟨hj, h⟩] at this
  rw [← this]
  exact cntB_congr fun i _ => rfl
theorem cntB_mono {s s' : Nat → Bool} (h : ∀ j, s j = true → s' j = true) : ∀ n, cntB s n ≤ cntB s' n
  | 0 => Nat.le_refl _
  | n + 1 => by
    have := cntB_mono h n
    unfold cntB
    cases e : s n with
    | false => split <;> split <;> simp_all <;> omega
    | true => rw [h n e]; simp; omega
def kE (c : Nat → Nat → Int) (i j : Nat) : Bool := decide (0 ≤ c i j)

theorem row_cell {S : Nat → Prop} {w : World} {vc : Value} {nl i : Nat} {vs : Nat → Value} (h : SlS S w vc nl ((List.range nl).map vs)) (hi : i < nl) : ∃ b off cap, vc = .slice (some ⟨b, off, none⟩) nl cap ∧ S b ∧ b < w.heap.size ∧ w.cell? ⟨b, off + i, none⟩ = some (vs i) := by
  obtain ⟨ao, cap, rfl, -, -, hx⟩ := h
  obtain ⟨b, off, rfl, h2, h3, h4⟩ := hx (by intro e; have := congrArg List.length e; simp at this; omega)
  refine ⟨b, off, cap, rfl, h2, h3, ?_⟩
  rw [h4 i (by simpa using hi)]
  simp [List.getD_eq_getElem?_getD, hi]
theorem drop_range {j nr : Nat} (h : j < nr) : (List.range nr).drop j = j :: (List.range nr).drop (j + 1) := by
  rw [List.drop_eq_getElem_cons (by simpa using h)]
  simp
/-- The contract of the closure at f rounds of depth. -/
def FindC (gt0 gm0 gs0 ga0 gf0 gs ga : Nat) (p : Value) (nl nr : Nat) (c : Nat → Nat → Int) (f : Nat) : Prop :=
  ∀ (i : Nat) (st : KSt) (w : World), i < nl → (∀ j x, st.2 j = some x → x < nl) → nr < cntB st.1 nr + f → MkR w gt0 gm0 gs0 ga0 gf0 gs ga p nl nr c st →
    Calls Try.prog 64 #[.int .i64 (i : Int), .pointer (some ⟨gt0, 0, none⟩), .pointer (some ⟨gm0, 0, none⟩), .pointer (some ⟨gs0, 0, none⟩), .pointer (some ⟨ga0, 0, none⟩), .pointer (some ⟨gf0, 0, none⟩)] w fun r w' => (r = .returned (.bool (kfind (kE c) nr f i st).1) ∧ MkR w' gt0 gm0 gs0 ga0 gf0 gs ga p nl nr c (kfind (kE c) nr f i st).2) ∧ Keep (fun b => b ≠ gs ∧ b ≠ ga) w w'

set_option maxHeartbeats 8000000 in
set_option maxRecDepth 100000 in
theorem find_step {gt0 gm0 gs0 ga0 gf0 gs ga : Nat} {p : Value} {nl nr : Nat} {c : Nat → Nat → Int} (hnr : nr ≤ 400) (hc : ∀ i j, i < nl → j < nr → c i j ≤ 1000000000) (f : Nat) (IH0 : FindC gt0 gm0 gs0 ga0 gf0 gs ga p nl nr c f) : FindC gt0 gm0 gs0 ga0 gf0 gs ga p nl nr c (f + 1) := by
  intro i st w hi hmx hf h
  have IH := hid IH0
  obtain ⟨R, hR⟩ : ∃ R, kfind (kE c) nr (f + 1) i st = R := ⟨_, rfl⟩
  rw [hR]
  have HR0 : Hid (kloop (kfind (kE c) nr f) (kE c) i ((List.range nr).drop 0) st = R) := hid (by rw [← hR]; rfl)
  have HH := hid h
  have HMX := hid hmx
  have HF := hid hf
  have HCC := hid hc
  obtain ⟨gt, vc, vs, hp, ht1, ht2, ht3, ht4⟩ := h.tab
  subst hp
  have HTX : Hid (vs i = vs i) := hid rfl
  obtain ⟨br, offr, capr, hvc, hS, hbr, xr⟩ := row_cell ht3 hi
  obtain ⟨g, e1, e2, e3⟩ := ht4 i hi
  have x0 := h.t.look 0 rfl
  have x1 := ht2.look 0 rfl
  subst hvc
  rw [e1] at xr
  unfold slV at xr
  have HROW := hid e3
  have HGN := hid e2
  have hi2 : (i : Int) < (nl : Int) := by omega
  clear h hmx hf hR ht1 ht2 ht3 ht4 IH0 HTX e1 e2 e3 hS hc
  go_enter Try.func64, Try.ntmps64
  go_wp2_with fail
  clear x0 x1 xr
  go_loopw [18] (fun z wr => ∃ (j : Nat) (st' : KSt), z = .int .i64 (j : Int) ∧ j ≤ nr ∧ Hid (MkR wr gt0 gm0 gs0 ga0 gf0 gs ga (.pointer (some ⟨gt, 0, none⟩)) nl nr c st') ∧ Hid (kloop (kfind (kE c) nr f) (kE c) i ((List.range nr).drop j) st' = R) ∧ Hid (∀ j x, st'.2 j = some x → x < nl) ∧ Hid (nr < cntB st'.1 nr + (f + 1)) ∧ Keep (fun b => b ≠ gs ∧ b ≠ ga) w wr) (fun z _ => nr - (intOf z).toNat)
  case atStart => exact ⟨0, st, rfl, Nat.zero_le _, HH, HR0, HMX, HF, Keep.refl _ _⟩
  case round =>
    obtain ⟨j, ⟨s, m⟩, rfl, hj, HM, HR, HX, HN, hkp⟩ := hrel
    clear HH HR0 HMX HF
    by_cases hjn : j < nr
    case neg =>
      obtain rfl : nr = j := by omega
      have hj2 : ¬ (nr : Int) < (nr : Int) := by omega
      have hd : (List.range nr).drop nr = [] := List.drop_of_length_le (by simp)
      have hr := HR.out
      rw [hd] at hr
      have hr : (false, (s, m)) = R := hr
      subst hr
      have HKP := hid hkp
      clear hkp HR hd
      go_wp2
      go_ret
      exact ⟨⟨rfl, HM.out⟩, HKP.out⟩
    case pos =>
      have hj2 : (j : Int) < (nr : Int) := by omega
      have hr := HR.out
      rw [drop_range hjn] at hr
      unfold kloop at hr
      have kR := hkp.blk HROW.out HGN.out
      have xc := kR.arr_look hjn
      have hcj := HCC.out i j hi hjn
      have hke : kE c i j = decide (0 ≤ c i j) := rfl
      have xmo := HM.out.mo.look 0 rfl
      have xse := HM.out.se.look 0 rfl
      have xs := HM.out.s.arr_look hjn
      unfold slV at xse
      obtain ⟨cv, hcv⟩ : ∃ z, c i j = z := ⟨_, rfl⟩
      rw [hcv] at xc hcj hke
      have HKP := hid hkp
      by_cases hc0 : cv < 0
      case pos =>
        have hke2 : kE c i j = false := by rw [hke]; exact decide_eq_false (by omega)
        rw [hke2, if_pos (.inl rfl)] at hr
        have HR2 := hid hr
        clear hr hke hke2 hcv HR kR xmo xse xs hkp
        go_wp2
        go_roundw
        case rel => exact ⟨j + 1, (s, m), by go_num, by omega, HM, HR2, HX, HN, HKP.out⟩
        case measure => simp [intOf]; omega
      case neg =>
        have hke2 : kE c i j = true := by rw [hke]; exact decide_eq_true (by omega)
        have hcg : ¬ (1000000000 : Int) < cv := by omega
        rw [hke2] at hr
        cases hsj : s j with
        | true =>
          replace xs : wr.cell? ⟨gs, j, none⟩ = some (.bool (s j)) := xs
          rw [hsj] at xs
          rw [if_pos (.inr hsj)] at hr
          have HR2 := hid hr
          clear hr hke hke2 hcv HR kR hsj hkp
          go_wp2
          go_roundw
          case rel => exact ⟨j + 1, (s, m), by go_num, by omega, HM, HR2, HX, HN, HKP.out⟩
          case measure => simp [intOf]; omega
        | false =>
          replace xs : wr.cell? ⟨gs, j, none⟩ = some (.bool (s j)) := xs
          rw [hsj] at xs
          rw [if_neg (fun h => h.elim (fun h => (by cases h)) (fun h => tf h hsj))] at hr
          replace hr : (match m j with | none => (true, (setB s j, upd m j (some i))) | some i' => if (kfind (kE c) nr f i' (setB s j, m)).1 = true then (true, ((kfind (kE c) nr f i' (setB s j, m)).2.1, upd (kfind (kE c) nr f i' (setB s j, m)).2.2 j (some i))) else kloop (kfind (kE c) nr f) (kE c) i ((List.range nr).drop (j + 1)) (kfind (kE c) nr f i' (setB s j, m)).2) = R := hr
          have fs := HM.out.s.frozen j
          have ls := HM.out.s.lt
          have HM1 := hid (HM.out.setS j)
          have HK1 := hid (HKP.out.trans (Keep.set (S := fun b => b ≠ gs ∧ b ≠ ga) wr (p := ⟨gs, j, none⟩) (fun h => h.1 rfl) (.bool true)))
          have HN1 : Hid (nr < cntB (setB s j) nr + f) := hid (by rw [cntB_set hjn hsj]; have : nr < cntB s nr + (f + 1) := HN.out; omega)
          have HSJ := hid hsj
          have HRR := hid hr
          clear hr hke hke2 hcv HR kR hsj hkp HM HN HKP
          go_wp2_with fail
          clear xc xmo xse xs fs ls
          generalize wr.setCell ⟨gs, j, none⟩ (.bool true) = W1 at HM1 HK1 ⊢
          have zma := fun y : SubT (Below W1.heap.size) W1.drew => (HM1.out.ma.drew.below' y.b HM1.out.ma.lt).look 0 rfl
          have zfi := fun y : SubT (Below W1.heap.size) W1.drew => (HM1.out.fi.drew.below' y.b HM1.out.fi.lt).look 0 rfl
          have zm := fun y : SubT (Below W1.heap.size) W1.drew => (HM1.out.m.drew.below' y.b HM1.out.m.lt).arr_look hjn
          unfold slV at zma
          have HMd := hid (HM1.out.keep (Below.refl W1.heap.size W1).drew)
          have HKd := hid (HK1.out.trans (Keep.drew _ W1))
          cases hmj : m j with
          | none =>
            replace zm : ∀ y : SubT (Below W1.heap.size) W1.drew, y.w.cell? ⟨ga, j, none⟩ = some (oI (m j)) := zm
            simp only [hmj] at zm
            unfold oI oZ at zm
            have hr2 := HRR.out
            rw [hmj] at hr2
            have hr2 : (true, (setB s j, upd m j (some i))) = R := hr2
            subst hr2
            clear HRR hmj HM1 HK1
            refine wp_walkJ (T := Below (W1.heap.size)) (belowV_pre _) (.rd 0 (.rd 1 (.rd 2 (.rd 3 (.rd 4 (.rd 5 (.rd 6 (.rd 7 (.rd 8 (.rd 9 (.rd 10 (.bt 11 (.rd 12 (.inv [])))))))))))))) (by kernel_rfl) rfl (by kernel_rfl) (by kernel_rfl) ?_
            iterate 11 (refine walkJ_rd rfl (fun K hK => ?_); go_simp; refine hK _ ?_; clear hK K)
            (refine walkJ_bs rfl (fun K hK => ?_); go_simp; refine hK _ ?_; clear hK K)
            iterate 1 (refine walkJ_rd rfl (fun K hK => ?_); go_simp; refine hK _ ?_; clear hK K)
            refine walkJ_nil ?_
            clear zma zfi zm
            generalize W1.drew = W2 at HMd HKd ⊢
            have y0 := HMd.out.ma.look 0 rfl
            have x0 := HMd.out.m.arr_look hjn
            have f0 := HMd.out.m.frozen j
            have l0 := HMd.out.m.lt
            unfold slV at y0
            clear hr2
            go_wp2
            go_ret
            exact ⟨⟨rfl, HMd.out.setM j i⟩, HKd.out.trans (Keep.set (S := fun b => b ≠ gs ∧ b ≠ ga) W2 (p := ⟨ga, j, none⟩) (fun h => h.2 rfl) (.int .i64 (i : Int)))⟩
          | some i' =>
            replace zm : ∀ y : SubT (Below W1.heap.size) W1.drew, y.w.cell? ⟨ga, j, none⟩ = some (oI (m j)) := zm
            simp only [hmj] at zm
            unfold oI oZ at zm
            have hr2 := HRR.out
            rw [hmj] at hr2
            replace hr2 : (if (kfind (kE c) nr f i' (setB s j, m)).1 = true then (true, ((kfind (kE c) nr f i' (setB s j, m)).2.1, upd (kfind (kE c) nr f i' (setB s j, m)).2.2 j (some i))) else kloop (kfind (kE c) nr f) (kE c) i ((List.range nr).drop (j + 1)) (kfind (kE c) nr f i' (setB s j, m)).2) = R := hr2
            have hok := kfind_ok (kE c) nr f i' (setB s j, m)
            have hi' := HX.out j i' hmj
            have hi0 : ¬ (i' : Int) < 0 := by omega
            have CL := hid (IH.out i' (setB s j, m) W1.drew hi' HX.out HN1.out HMd.out)
            generalize kfind (kE c) nr f i' (setB s j, m) = R1 at hr2 hok CL
            obtain ⟨b1, s2, m2⟩ := R1
            have hX2 : Hid (∀ j x, m2 j = some x → x < nl) := hid (fun k x hx => by
              cases hsk : setB s j k with
              | true => exact HX.out k x (by rw [← hx]; exact (hok.off k hsk).symm)
              | false =>
                rcases hok.val k x hsk hx with e | ⟨k2, _, e⟩
                · rw [e]; exact hi'
                · exact HX.out k2 x e)
            have HN2 : Hid (nr < cntB s2 nr + (f + 1)) := hid (by
              have h8 : cntB (setB s j) nr ≤ cntB s2 nr := cntB_mono hok.grow nr
              have h9 : nr < cntB (setB s j) nr + f := HN1.out
              omega)
            clear HRR hmj HM1 HK1 hok
            refine wp_walkJ (T := Below (W1.heap.size)) (belowV_pre _) (.rd 0 (.rd 1 (.rd 2 (.rd 3 (.rd 4 (.rd 5 (.rd 6 (.rd 7 (.rd 8 (.rd 9 (.rd 10 (.bt 11 (.rd 12 (.inv [])))))))))))))) (by kernel_rfl) rfl (by kernel_rfl) (by kernel_rfl) ?_
            iterate 11 (refine walkJ_rd rfl (fun K hK => ?_); go_simp; refine hK _ ?_; clear hK K)
            (refine walkJ_bt rfl (fun K hK => ?_); go_simp; refine CL.out.mono ?_; rintro r W3 ⟨⟨rfl, hM3⟩, hK3⟩; refine ⟨_, rfl, hK _ _ ?_⟩; clear hK K)
            iterate 1 (refine walkJ_rd rfl (fun K hK => ?_); go_simp; refine hK _ ?_; clear hK K)
            refine walkJ_nil ?_
            clear zma zfi zm CL
            have HM3 := hid hM3
            have HK3 := hid (HKd.out.trans hK3)
            clear hM3 hK3 HMd HKd
            cases b1 with
            | true =>
              rw [if_pos rfl] at hr2
              replace hr2 : (true, (s2, upd m2 j (some i))) = R := hr2
              subst hr2
              have y0 := HM3.out.ma.look 0 rfl
              have x0 := HM3.out.m.arr_look hjn
              have f0 := HM3.out.m.frozen j
              have l0 := HM3.out.m.lt
              unfold slV at y0
              go_wp2
              go_ret
              exact ⟨⟨rfl, HM3.out.setM j i⟩, HK3.out.trans (Keep.set (S := fun b => b ≠ gs ∧ b ≠ ga) W3 (p := ⟨ga, j, none⟩) (fun h => h.2 rfl) (.int .i64 (i : Int)))⟩
            | false =>
              rw [if_neg (by simp)] at hr2
              have HR2 := hid hr2
              clear hr2
              go_wp2
              go_roundw
              case rel => exact ⟨j + 1, (s2, m2), by go_num, by omega, HM3, HR2, hX2, HN2, HK3.out⟩
              case measure => simp [intOf]; omega

theorem find_any {gt0 gm0 gs0 ga0 gf0 gs ga : Nat} {p : Value} {nl nr : Nat} {c : Nat → Nat → Int} (hnr : nr ≤ 400) (hc : ∀ i j, i < nl → j < nr → c i j ≤ 1000000000) : ∀ f, FindC gt0 gm0 gs0 ga0 gf0 gs ga p nl nr c f
  | 0 => fun _ st _ _ _ hf _ => by
    exfalso
    have := cntB_le st.1 nr
    omega
  | f + 1 => find_step hnr hc f (find_any hnr hc f)

end Go.Proofs.Ytcpefolhohakmaa
