/- Walk of Load. -/
import Derived.Test.YtcpefolhohakmaaW1
namespace Go.Proofs.Ytcpefolhohakmaa
open Go.RowKit Go.Shelf
attribute [local go_sem] Oper.semAt_some
attribute [local irreducible] seqS seqST walkV walkJ

theorem encB_drop (ps : List (List Tr)) {k : Nat} (h : k < ps.length) : encB (ps.drop k) = encP (ps.getD k []) ++ encB (ps.drop (k + 1)) := by
  rw [List.drop_eq_getElem_cons h, encB_cons, List.getD_eq_getElem?_getD, List.getElem?_eq_getElem h]; rfl

theorem Shut.keep {Ds : List Nat} {W W' : World} (h : Shut Ds W W') : Keep (fun b => b ∉ Ds) W W' := ⟨h.os, h.tape, h.output, Nat.le_of_eq h.size.symm, fun k _ hk => h.block k hk⟩
theorem Mks.notO {Ds : List Nat} {w : World} (hm : Mks Ds w) {base : Nat} {e : TypeId} {size : Nat} {v : Value} {n : Nat} {xs : List Value} (h : w.ownsRow base e size v n xs) : ∀ g, v.ownBlock = some g → g ∉ Ds := by
  intro g hg
  obtain ⟨-, ⟨rfl, -⟩ | ⟨g', cap, cur, rfl, -, hh, -⟩⟩ := h
  · cases hg
  · cases hg
    exact hm.not (show Blk w g' cur e from hh)
theorem BkR.shut {lo : Nat} {w w' : World} {gb : Nat} {c : List Int} {ch : Nat → Int} {vp : Value} {vs : List Value} {ps : List (List Tr)} {Ds : List Nat} (h : BkR lo w gb c ch vp vs ps) (hm : Mks Ds w) (hs : Shut Ds w w') : BkR lo w' gb c ch vp vs ps :=
  h.keep hs.keep (hm.not h.blk) (hm.notO h.posts) (fun i hi => hm.notO (h.trs.2 i hi))
theorem KpP.put {Bs Bn : Nat} {W : World} {l : Nat} (h1 : Bs ≠ l) (h2 : Bn ≠ l) (o : Obj) : KpP Bs Bn W (W.putObj l o) := ⟨by simp, World.putObj_heap_other h1, World.putObj_heap_other h2⟩
theorem range_f {F : Fence} {n : Nat} {P : Program} {w : World} {α : Type} (f : Array Value → α → Array Value) {g : Operand} {ps : Array Tmp} {assign body : Code} {Q : Exit → Act → World → Prop} {a : Act}
    (hro : F.round = none) (h1 : 1 ≤ n) {gf : Nat} {lb : Array Value} (hg : a.eval g = .func (.func gf) #[] lb) (hFg : F.fn gf) (eg : ∀ args w, (callFunc gf args).run P w = .ok (.enter gf args) w)
    {encs : α → Array Value} {Kp : World → World → Prop} {S Sp : List α → Prop} {N : Nat} {w0 : World} (hseq : SeqStopsK F (n - 1) P gf lb encs Kp S Sp N w0)
    (hKt : ∀ {A B C : World}, Kp A B → Kp B C → Kp A C) (hKb : ∀ (W : World) (l : Nat) (o o' : Obj), w.heap.size ≤ l → W.heap[l]? = some o → o.isCells = false → o.isWalk = false → Kp W (W.putObj l o')) (hb0 : Below w0.heap.size w0 w) (hps : ∀ x, (encs x).size = ps.size)
    (I : List α → World → Prop) (Ix : Code → List α → World → Prop) (hI : OwnFrom w.heap.size I) (hIx : ∀ c, OwnFrom w.heap.size (Ix c)) (h0 : I [] w)
    (hassign : ∀ (l : Nat) (pre : List α) (x : α) (W : World) (K : Act → World → Prop), I pre W → K { tmps := f a.tmps x, defers := [] } W →
      assign.wpIn (F.inRound l) (n - 1 - 1) P (Exit.then K (fun _ _ _ => False)) { tmps := (ps.zip (encs x)).foldl (fun t (p, v) => t.setIfInBounds p v) a.tmps, defers := [] } W)
    (hKr : ∀ W, Kp W W)
    (hbody : ∀ (l : Nat) (pre : List α) (x : α) (W : World), w.heap.size ≤ l → I pre W → pre.length < N → body.wpIn (F.inRound l) (n - 1 - 1) P (ownPostG w.heap.size Kp I Ix (pre ++ [x]) W) { tmps := f a.tmps x, defers := [] } W)
    (hdone : ∀ (D : Nat) (xs : List α) (W : World), w.heap.size ≤ D → S xs → I xs W → W.heap[D]? = some (.deferred (some [])) → Q .normal { a with defers := { target := .collected D, args := #[] } :: a.defers } W)
    (hstop : ∀ (D : Nat) (c : Code) (pre : List α) (W : World), w.heap.size ≤ D → Sp pre → Ix c pre W → W.heap[D]? = some (.deferred (some [])) → c.wpIn F n P Q { a with defers := { target := .collected D, args := #[] } :: a.defers } W) :
    (Code.rangeFunc g ps assign body).wpIn F n P Q a w :=
  wpIn_rangeFunc_ownH hro h1 hg hFg eg hseq (fun h k => hKt h k) hKb hb0 hps I Ix hI hIx h0 (fun x a' _ => a' = { tmps := f a.tmps x, defers := [] }) (fun _ _ _ _ _ _ hs _ _ => hs)
    (fun l pre x W K hi hK => hassign l pre x W K hi (hK _ _ (KeepsFrom.refl _ _) (hKr W) hi rfl)) (fun l pre x a' W hl _ hi e hp => by subst e; exact hbody l pre x W hl hi hp) hdone hstop
theorem ek_all {m : Nat} {l : List Tr} (hl : l.length = m) {xs : List (Ek m)} (h : xs.map Ek.k = List.range m) : (xs.map fun x => l.getD x.k ⟨0, 0, 0, 0⟩) = l := by
  have e : (xs.map fun x => l.getD x.k ⟨0, 0, 0, 0⟩) = (xs.map Ek.k).map (fun i => l.getD i ⟨0, 0, 0, 0⟩) := by rw [List.map_map]; rfl
  rw [e, h]
  apply List.ext_getElem?
  intro i
  rw [List.getElem?_map]
  by_cases hi : i < m
  · rw [List.getElem?_range hi, Option.map_some, List.getD_eq_getElem?_getD, List.getElem?_eq_getElem (by omega)]; rfl
  · rw [List.getElem?_eq_none (by rw [List.length_range]; omega), List.getElem?_eq_none (by omega)]; rfl
theorem BsR.recap {w : World} {ao : Option Addr} {n cap : Nat} {b : Bts} (h : BsR w (.slice ao n cap) b) : BsR w (.slice ao n n) b := by
  obtain ⟨ao', cap', e, h1, h2, h3⟩ := h
  cases e
  exact ⟨ao, _, rfl, Nat.le_refl _, by omega, h3⟩
theorem encT_two (i sr de N : Nat) : encT ⟨i, sr, de, N⟩ = UInt8.ofNat (i * 16 + sr) :: UInt8.ofNat de :: putN N 4 := by
  unfold encT; simp
theorem piece_at (l : List Tr) (R : Bts) {k : Nat} (h : k < l.length) : ((encP l ++ R).drop (1 + 6 * k)).take 6 = encT (l.getD k ⟨0, 0, 0, 0⟩) := by
  rw [← List.drop_drop]
  have e : (encP l ++ R).drop 1 = encL l ++ R := rfl
  rw [e, List.drop_append_of_le_length (by rw [encL_length]; omega), List.take_append_of_le_length (by rw [List.length_drop, encL_length]; omega), encL_chunk l k h]
theorem keeps_own {w w' : World} {B : Nat} {e : TypeId} {size : Nat} {v : Value} {n : Nat} {xs : List Value} (hg : w.grownBy w' v.ownBlock) (h : w.ownsRow B e size v n xs) : KeepsOthers w w' := by
  refine ⟨hg.size, fun k o hk ho => (hg.block k (Array.getElem?_eq_some_iff.1 hk).1 (fun e2 => ?_)).trans hk⟩
  obtain ⟨-, ⟨rfl, -⟩ | ⟨g', cap, cur, rfl, -, hh, -⟩⟩ := h
  · cases e2
  · cases e2
    rw [hh] at hk
    cases hk
    cases ho
theorem sls_of_owns {S : Nat → Prop} {w : World} {B : Nat} {e : TypeId} {size : Nat} {v : Value} {n : Nat} {xs : List Value} (h : w.ownsRow B e size v n xs) (hS : ∀ b, v.ownBlock = some b → S b) : SlS S w v n xs := by
  obtain ⟨ao, cap, rfl, h1, h2, h3⟩ := SlR.of_owns h
  refine ⟨ao, cap, rfl, h1, h2, fun hx => ?_⟩
  obtain ⟨b, off, rfl, -, hb, hc⟩ := h3 hx
  obtain ⟨-, ⟨h0, -⟩ | ⟨g', cap', cur, h0, -⟩⟩ := h
  · cases h0
  · cases h0
    exact ⟨b, 0, rfl, hS b rfl, hb, hc⟩
def slN : Value → Nat
  | .slice _ n _ => n
  | _ => 0
/-- The frame of Load at the head of its loop. -/
def ldS (gb : Nat) (y : Value) (U : Nat → Value) : Array Value := #[y, undef, .pointer none, .int .i64 0, .pointer (some ⟨gb, 0, none⟩), U 5, U 6, U 7, U 8, U 9, .pointer (some ⟨gb, 0, none⟩), U 11, U 12, U 13, U 14, U 15, U 16, U 17, U 18, U 19, U 20, U 21, U 22, U 23, U 24, U 25, U 26, U 27, U 28, U 29, U 30, U 31, U 32, U 33, U 34, U 35, U 36, U 37, U 38, U 39, U 40, U 41, U 42, U 43, U 44, U 45, U 46, U 47, U 48, U 49, U 50, U 51, U 52, U 53, U 54, U 55, U 56, U 57, U 58, U 59, U 60, U 61, U 62, U 63, undef]
def LdA (gb : Nat) (y : Value) (ds : List Deferred) (a : Act) : Prop := ∃ U : Nat → Value, a = { tmps := ldS gb y U, defers := ds }
theorem ldA_of (gb : Nat) (T : Array Value) (y : Value) (ds : List Deferred) (h : T = ldS gb y (fun i => T.getD i undef)) : LdA gb y ds { tmps := T, defers := ds } := ⟨_, by rw [← h]⟩

set_option maxHeartbeats 4000000 in
set_option maxRecDepth 100000 in
theorem Load_any (ps : List (List Tr)) (c : List Int) (v : Value) (w : World) (hrun : run ps = some c) (hv : BsR w v (encB ps)) (hn : ps.length ≤ 900) :
    Calls Try.prog 41 #[v] w fun r w' => (∃ gb ch vp vs, r = .returned (.tuple #[.pointer (some ⟨gb, 0, none⟩), .int .i64 0]) ∧ BkR w.heap.size w' gb c ch vp vs ps) ∧ Below w.heap.size w w' := by
  have NB := hid (NewBook_any w)
  have HV := hid hv
  have HRUN := hid hrun
  have hbl : (encB ps).length ≤ 97 * ps.length := encB_bound (fun l hl => by
    obtain ⟨i, hi, rfl⟩ := List.getElem_of_mem hl
    obtain ⟨d, -, h, -⟩ := run_take hrun hi
    have h9 := h.1.2.1
    rw [List.getD_eq_getElem?_getD, List.getElem?_eq_getElem hi] at h9
    exact h9)
  obtain ⟨a0, c0, rfl, hc0, hm0, -⟩ := id hv
  unfold maxLen at hm0
  obtain ⟨P, hP⟩ : ∃ P, ps.length = P := ⟨_, rfl⟩
  have HP := hid hP
  rw [hP] at hbl hn
  clear hv hrun hP
  refine (callsIn_wide (n := 6)).1 (callsIn_of_wp_marks Try.func41 rfl trivial (wpIn_wide.2 ?_) rfl)
  simp only [Try.ntmps41, List.size_toArray, List.length_cons, List.length_nil, Nat.reduceAdd, Nat.reduceSub, Array.replicate_succ, Array.replicate_zero, List.push_toArray, List.append_toArray, List.nil_append, List.cons_append]
  go_wp2_with fail
  refine NB.out.mono ?_
  rintro r w1 ⟨rfl, hbk, hb1⟩
  have HBK1 : Hid (BkR w.heap.size w1 w.heap.size zeroC (fun _ => 0) (.slice none 0 0) [] []) := hid ⟨hbk, World.ownsRow_nil _ _ _ _, ⟨rfl, fun i hi => absurd hi (Nat.not_lt_zero _)⟩, Nat.le_refl _⟩
  have HB1 := hid hb1
  obtain ⟨gb, hgb⟩ : ∃ gb, w.heap.size = gb := ⟨_, rfl⟩
  rw [hgb]
  rw [show (BkR w.heap.size w1 w.heap.size) = BkR w.heap.size w1 gb by rw [hgb]] at HBK1
  have HGB := hid hgb
  clear NB hbk hb1 hgb
  go_wp2_with fail
  refine wp_loop (fun a' wr => ∃ (k : Nat) (Ds : List Nat) (y : Value), LdA gb y (Ds.map mkD) a' ∧ k ≤ P ∧ Hid (BsR w y (encB (ps.drop k))) ∧ (∃ ck ch vp vs, Hid (run (ps.take k) = some ck) ∧ Hid (BkR w.heap.size wr gb ck ch vp vs (ps.take k))) ∧ Hid (Mks Ds wr) ∧ Hid (∀ D ∈ Ds, w.heap.size ≤ D) ∧ Hid (Below w.heap.size w wr)) (fun a' _ => slN (a'.tmps.getD 0 undef)) ?_ ?_
  · exact ⟨0, [], _, ldA_of gb _ _ _ rfl, Nat.zero_le _, by simpa using HV, ⟨_, _, _, _, hid rfl, HBK1⟩, hid ⟨List.nodup_nil, fun D hD => (by cases hD)⟩, hid (fun D hD => (by cases hD)), HB1⟩
  · rintro a' wr ⟨k, Ds, y, ⟨U, rfl⟩, hk, HY, ⟨ck, ch, vp, vs, HR, HBK⟩, HMK, HDS, HB⟩
    unfold ldS
    clear HB1 HBK1 HV hc0 hm0
    by_cases hkP : k < P
    case neg =>
      obtain rfl : P = k := by omega
      have hd0 : encB (ps.drop P) = [] := by rw [List.drop_eq_nil_iff.2 (by rw [HP.out]; exact Nat.le_refl _)]; rfl
      rw [hd0] at HY
      obtain ⟨ay, cy, rfl, -, -, -⟩ := id HY.out
      have HC : Hid (ck = c ∧ ps.take P = ps) := hid (by
        have e : ps.take P = ps := List.take_of_length_le (by rw [HP.out]; exact Nat.le_refl _)
        have h9 := HR.out
        rw [e, HRUN.out] at h9
        exact ⟨(Option.some.inj h9).symm, e⟩)
      go_wp2
      refine leaves_marks Ds wr HMK.out fun W6 hs6 => ?_
      refine ⟨.tuple #[.pointer (some ⟨gb, 0, none⟩), .int .i64 0], ?_, ⟨gb, ch, vp, vs, rfl, ?_⟩, ?_⟩
      · simp [results, Try.results41, go_sem]
      · rw [← HC.out.1]
        have h9 := HBK.out
        rw [HC.out.2] at h9
        exact h9.shut HMK.out hs6
      · exact HB.out.trans (hs6.below HDS.out)
    case pos =>
      have hkl : k < ps.length := by rw [HP.out]; exact hkP
      have hdr := encB_drop ps hkl
      obtain ⟨d0, hd1, hd2, hd3⟩ := run_take HRUN.out hkl
      rw [HR.out] at hd1
      cases hd1
      obtain ⟨l, hl⟩ : ∃ l, ps.getD k [] = l := ⟨_, rfl⟩
      rw [hl] at hdr hd2 hd3
      obtain ⟨R, hR⟩ : ∃ R, encB (ps.drop (k + 1)) = R := ⟨_, rfl⟩
      rw [hR] at hdr
      obtain ⟨m, hm⟩ : ∃ m, l.length = m := ⟨_, rfl⟩
      have hm1 : 1 ≤ m := by rw [← hm]; exact hd2.1.1
      have hm16 : m ≤ 16 := by rw [← hm]; exact hd2.1.2.1
      have hpl : (encP l).length = 6 * m + 1 := by rw [encP_length, hm]
      obtain ⟨Y, hY⟩ : ∃ Y, encB (ps.drop k) = Y := ⟨_, rfl⟩
      rw [hY] at hdr HY
      have hYl : Y.length = 6 * m + 1 + R.length := by rw [hdr, List.length_append, hpl]
      have hRl : R.length ≤ 97 * P := by
        have h1 : (encB ps).length = (encB (ps.take (k + 1))).length + R.length := by
          rw [← hR]
          conv => lhs; rw [← List.take_append_drop (k + 1) ps]
          unfold encB
          rw [List.flatMap_append, List.length_append]
        omega
      obtain ⟨g, off, cy, rfl, hcy, hmy⟩ := HY.out.some (by omega)
      unfold maxLen at hmy
      obtain ⟨Z, hZ⟩ : ∃ Z, Y.length = Z := ⟨_, rfl⟩
      rw [hZ] at hcy hYl HY ⊢
      have hyr := HY.out.below HB.out
      obtain ⟨g2, o2, e2, -, x0⟩ := u8_cell hyr (i := 0) (by omega)
      cases e2
      have hx : (Y.getD 0 0).toNat = m := by
        rw [hdr]
        have h9 := encP_head l (by omega) R
        rw [h9.1, h9.2.1, hm]
      rw [hx, Nat.add_zero] at x0
      have HL := hid hl
      have HR2 := hid hR
      have HML := hid hm
      have HYE := hid hdr
      have HPK := hid hd2
      have HRK := hid hd3
      have HYL := hid hZ
      have HZL := hid hYl
      have hcy2 : 6 * m + 1 ≤ cy := by omega
      have hcy3 : 6 * m ≤ cy - 1 := by omega
      have hZc : Z - 1 ≤ cy - 1 := by omega
      have hmz : 6 * m ≤ Z - 1 := by omega
      clear hl hR hm hdr hd2 hd3 hZ hx hyr hpl hkl hY
      have hZ0 : (0 : Int) < (Z : Int) := by omega
      have hZM : ¬ ((Z - 1 : Nat) : Int) < 6 * (m : Int) := by omega
      have hc1 : ¬ cy = 1 := by omega
      clear hYl
      go_wp2_with fail
      refine (chunk_any _ _ _ _).mono ?_
      rintro r w1 ⟨rfl, rfl⟩
      go_wp2_with fail
      have kL := ((Blk.new wr #[.slice none 0 0] 62).alloc (.cells #[.slice (some ⟨g, off + 1, none⟩) (6 * m) (cy - 1)] 48)).alloc (.cells #[.int .i64 6] 3)
      have kS := (Blk.new (wr.alloc (.cells #[.slice none 0 0] 62)) #[.slice (some ⟨g, off + 1, none⟩) (6 * m) (cy - 1)] 48).alloc (.cells #[.int .i64 6] 3)
      have kN := Blk.new ((wr.alloc (.cells #[.slice none 0 0] 62)).alloc (.cells #[.slice (some ⟨g, off + 1, none⟩) (6 * m) (cy - 1)] 48)) #[.int .i64 6] 3
      have bW := (((Below.refl wr.heap.size wr).alloc (Nat.le_refl _) (.cells #[.slice none 0 0] 62)).alloc (by simp) (.cells #[.slice (some ⟨g, off + 1, none⟩) (6 * m) (cy - 1)] 48)).alloc (by simp; omega) (.cells #[.int .i64 6] 3)
      have hsW : (((wr.alloc (.cells #[.slice none 0 0] 62)).alloc (.cells #[.slice (some ⟨g, off + 1, none⟩) (6 * m) (cy - 1)] 48)).alloc (.cells #[.int .i64 6] 3)).heap.size = wr.heap.size + 3 := by simp
      rw [World.size_alloc] at kS
      rw [World.size_alloc, World.size_alloc] at kN
      have hgl := HB.out.size
      have HBK0 := hid (HBK.out.below bW)
      have HMK0 := hid (HMK.out.below bW)
      have HB0 := hid (HB.out.trans (bW.mono hgl))
      have HKL := hid kL
      have hDlt : ∀ D ∈ Ds, D < wr.heap.size := fun D hD => HMK.out.lt hD
      have hgbl : gb < wr.heap.size := Blk.lt HBK.out.blk
      have HVP := hid (fun x hx => (HBK.out.posts.lt x hx).2)
      have HVS := hid (fun j hj x hx => ((HBK0.out.trs.2 j hj).lt x hx).2)
      clear kL bW HBK HMK HB x0 hZM hZ0
      generalize ((wr.alloc (.cells #[.slice none 0 0] 62)).alloc (.cells #[.slice (some ⟨g, off + 1, none⟩) (6 * m) (cy - 1)] 48)).alloc (.cells #[.int .i64 6] 3) = W0 at kS kN hsW HBK0 HMK0 HB0 HKL HVS ⊢
      generalize wr.heap.size = gl at kS kN hsW HKL hgl hDlt hgbl HVP ⊢
      refine wpIn_wide.1 (range_f (F := Fence.wide) (n := 6) (α := Ek m) (fun T x => (T.setIfInBounds 30 (.slice (some ⟨g, off + 1 + 6 * x.k, none⟩) 6 6)).setIfInBounds 7 (.slice (some ⟨g, off + 1 + 6 * x.k, none⟩) 6 6)) rfl (by omega) (gf := 91) (lb := #[.pointer (some ⟨gl + 1, 0, none⟩), .pointer (some ⟨gl + 1 + 1, 0, none⟩)]) rfl trivial (enters_of Try.func91 (by kernel_rfl) rfl)
        (chunk_stops 5 (by omega) (gl + 1) (gl + 1 + 1) g (off + 1) m (6 * m) (cy - 1) rfl hcy3 (by unfold maxLen; omega) W0 kS kN)
        (fun h k => KpP.trans h k) (fun W l o o' hl _ _ _ => KpP.put (by omega) (by omega) o') (Below.refl _ _) (fun _ => rfl)
        (LdI l m W0 w gl gb ck ch vp vs (ps.take k) Ds) (fun _ _ _ => False) (LdI_own l m W0 w gl gb ck ch vp vs (ps.take k) Ds (by omega)) (fun _ _ _ _ _ hf _ _ => hf) ⟨⟨_, HKL.out, World.ownsRow_nil _ _ _ _⟩, HBK0.out, ⟨HMK0.out, fun D hD => by have := hDlt D hD; omega⟩, HB0.out, Nat.le_refl _⟩
        ?assign (fun W => KpP.refl _ _ W) ?body ?done ?stop)
      case stop =>
        intro D c pre W hD hS hI
        exact hI.elim
      case assign =>
        intro l2 pre x W K hI hK
        dsimp only at hK ⊢
        gi_wp2
        exact hK
      case body =>
        intro l2 pre x W hl2 hI hlen
        dsimp only
        obtain ⟨⟨vl, i1, i1'⟩, i2, ⟨i3, i3'⟩, i4, i5⟩ := hI
        have hxm := x.lt
        have hxl : x.k < l.length := by rw [HML.out]; exact hxm
        have hpc := piece_at l R hxl
        rw [← HYE.out] at hpc
        have hok : (l.getD x.k ⟨0, 0, 0, 0⟩).Ok := HPK.out.1.2.2 _ (by
          rw [List.getD_eq_getElem?_getD, List.getElem?_eq_getElem hxl]
          exact List.getElem_mem _)
        have hpb := (HY.out.at (1 + 6 * x.k) 6 (by rw [HYL.out]; omega) (by omega)).recap
        rw [hpc, ← Nat.add_assoc] at hpb
        have HSN : Hid ((pre ++ [x]).map (fun x => l.getD x.k ⟨0, 0, 0, 0⟩) = pre.map (fun x => l.getD x.k ⟨0, 0, 0, 0⟩) ++ [l.getD x.k ⟨0, 0, 0, 0⟩]) := hid (by rw [List.map_append]; rfl)
        obtain ⟨t, ht⟩ : ∃ t, l.getD x.k ⟨0, 0, 0, 0⟩ = t := ⟨_, rfl⟩
        rw [ht] at hok hpb HSN
        obtain ⟨ti, ts, td, tn⟩ := t
        obtain ⟨⟨a1, a2⟩, ⟨b1, b2⟩, ⟨c1, c2⟩, hsd, d1, d2⟩ := hok
        simp only at a1 a2 b1 b2 c1 c2 hsd d1 d2
        obtain ⟨i, rfl⟩ : ∃ i : Nat, ti = i := ⟨ti.toNat, by omega⟩
        obtain ⟨sr, rfl⟩ : ∃ i : Nat, ts = i := ⟨ts.toNat, by omega⟩
        obtain ⟨de, rfl⟩ : ∃ i : Nat, td = i := ⟨td.toNat, by omega⟩
        obtain ⟨N, rfl⟩ : ∃ i : Nat, tn = i := ⟨tn.toNat, by omega⟩
        rw [encT_two] at hpb
        obtain ⟨O, hO⟩ : ∃ O, off + 1 + 6 * x.k = O := ⟨_, rfl⟩
        rw [hO] at hpb ⊢
        obtain ⟨X, hX⟩ : ∃ X, i * 16 + sr = X := ⟨_, rfl⟩
        rw [hX] at hpb
        have hX1 : X / 16 = i := by omega
        have hX2 : X % 16 = sr := by omega
        have hXl : X < 256 := by omega
        have hwX : IntKind.i64.wrap (X : Int) = (X : Int) := Go.Lib.wrap_i64_small X (by omega)
        have hwD : IntKind.i64.wrap (de : Int) = (de : Int) := Go.Lib.wrap_i64_small de (by omega)
        have htd : IntKind.i64.wrap ((X : Int).tdiv 16) = (i : Int) := by
          have h1 : (X : Int).tdiv 16 = (i : Int) := by rw [Int.tdiv_eq_ediv_of_nonneg (by omega)]; omega
          rw [h1]; exact Go.Lib.wrap_i64_small i (by omega)
        have htd2 : IntKind.i64.wrap ((X : Int) / 16) = (i : Int) := by
          have h1 : (X : Int) / 16 = (i : Int) := by omega
          rw [h1]; exact Go.Lib.wrap_i64_small i (by omega)
        have htm : (X : Int).tmod 16 = (sr : Int) := by rw [Int.tmod_eq_emod_of_nonneg (by omega)]; omega
        have hdl : de < 256 := by omega
        have hpw := hpb.below i4
        obtain ⟨g3, o3, e3, hgW, y0⟩ := u8_cell hpw (i := 0) (by simp [putN_length])
        cases e3
        obtain ⟨g3, o3, e3, -, y1⟩ := u8_cell hpw (i := 1) (by simp [putN_length])
        cases e3
        have hd0 : (UInt8.ofNat X :: UInt8.ofNat de :: putN N 4).getD 0 0 = UInt8.ofNat X := rfl
        have hd1 : (UInt8.ofNat X :: UInt8.ofNat de :: putN N 4).getD 1 0 = UInt8.ofNat de := rfl
        rw [hd0, u8_toNat hXl, Nat.add_zero] at y0
        rw [hd1, u8_toNat hdl] at y1
        have hnb := hpb.at 2 4 (by simp [putN_length]) (by decide)
        have hn4 : ((UInt8.ofNat X :: UInt8.ofNat de :: putN N 4).drop 2).take 4 = putN N 4 := by
          show (putN N 4).take 4 = _
          exact List.take_of_length_le (by rw [putN_length]; omega)
        rw [hn4] at hnb
        have GN := hid (fun W (q : Below w.heap.size w W) => getNumber_any (putN N 4) _ W (hnb.below q) (by rw [getN_put (by omega)]; omega))
        rw [getN_put (by omega)] at GN
        obtain ⟨al, cl, rfl, -⟩ := SlR.of_owns i1'
        have hplen : pre.length ≤ 16 := by omega
        obtain ⟨pl, hpl⟩ : ∃ pl, pre.length = pl := ⟨_, rfl⟩
        rw [hpl] at i1 i1' hplen
        have HPL := hid hpl
        have I1 := hid i1
        have I1' := hid i1'
        have I2 := hid i2
        have I3 := hid i3
        have I4 := hid i4
        have hW0 := i5
        clear hpb hpw hnb hn4 hd0 hd1 hpc ht hsd hpl i1 i1' i2 i3 i4 i5
        gi_wp2_with fail
        have zl := fun y : SubT (Below W.heap.size) W.drew => (I1.out.below ((Below.refl W.heap.size W).drew.trans y.b)).look 0 rfl
        have z0 := fun y : SubT (Below W.heap.size) W.drew => (((Below.refl W.heap.size W).drew.trans y.b).cell (p := ⟨g, O, none⟩) hgW).trans y0
        have z1 := fun y : SubT (Below W.heap.size) W.drew => (((Below.refl W.heap.size W).drew.trans y.b).cell (p := ⟨g, O + 1, none⟩) hgW).trans y1
        refine wpIn_walkJ (T := Below (W.heap.size)) (belowV_pre _) (.rd 0 (.rd 1 (.rd 2 (.rd 3 (.rd 4 (.rd 5 (.rd 6 (.rd 7 (.rd 8 (.rd 9 (.rd 10 (.rd 11 (.rd 12 (.rd 13 (.rd 14 (.rd 15 (.rd 16 (.mv 17 (.rd 18 (.mv 19 (.bt 20 (.bt 21 (.inv []))))))))))))))))))))))) (by kernel_rfl) (by kernel_rfl) ?lets rfl (by kernel_rfl) (by kernel_rfl) ?_
        case lets => rintro ⟨a9, w9, h9⟩; exact h9
        iterate 17 (refine walkJ_rd rfl (fun K hK => ?_); go_simp; refine hK _ ?_; clear hK K)
        clear zl z0 z1 y0 y1 hwX hwD htd htd2 htm hX hX1 hX2
        have hd := (Below.refl W.heap.size W).drew
        have J1 := hid (I1.out.below hd)
        have J1' := hid (owns_below I1'.out hd)
        have J2 := hid (I2.out.below hd)
        have J3 := hid (I3.out.below hd)
        have J4 := hid (I4.out.drew)
        have HDW := hid hd
        have hsW9 : W.heap.size ≤ W.drew.heap.size := Nat.le_refl _
        have hglW : gl < W.heap.size := I1.out.lt
        clear I1 I1' I2 I3 I4 hd
        generalize W.drew = W1 at J1 J1' J2 J3 J4 HDW hsW9 ⊢
        (refine walkJ_mv rfl (fun K hK => ?_); go_simp; refine (GN.out _ J4.out).mono ?_; rintro r w2 ⟨rfl, rfl⟩; refine ⟨_, rfl, hK _ _ (Below.refl _ _) ?_⟩; clear hK K)
        iterate 1 (refine walkJ_rd rfl (fun K hK => ?_); go_simp; refine hK _ ?_; clear hK K)
        have kT := Blk.new W1 #[.int .i64 (i : Int), .int .i64 (sr : Int), .int .i64 (de : Int), .int .i64 (N : Int)] 103
        have bT := alloc_below W1 (.cells #[.int .i64 (i : Int), .int .i64 (sr : Int), .int .i64 (de : Int), .int .i64 (N : Int)] 103)
        have L1 := hid (J1.out.below bT)
        have L1' := hid (owns_below J1'.out bT)
        have L2 := hid (J2.out.below bT)
        have L3 := hid (J3.out.below bT)
        have L4 := hid (J4.out.trans (bT.mono J4.out.size))
        have HDT := hid (HDW.out.trans (bT.mono hsW9))
        (refine walkJ_mv rfl (fun K hK => ?_); go_simp; refine hK _ _ ((Below.refl _ _).alloc hsW9 _) ?_; clear hK K)
        clear bT J1 J1' J2 J3 J4 HDW GN
        have hH : W1.heap.size = W1.heap.size := rfl
        have hsz3 : W0.heap.size ≤ (W1.alloc (.cells #[.int .i64 (i : Int), .int .i64 (sr : Int), .int .i64 (de : Int), .int .i64 (N : Int)] 103)).heap.size := Nat.le_trans hW0 HDT.out.size
        clear hH hsW9
        generalize W1.heap.size = H at kT ⊢
        generalize W1.alloc (.cells #[.int .i64 (i : Int), .int .i64 (sr : Int), .int .i64 (de : Int), .int .i64 (N : Int)] 103) = W3 at kT L1 L1' L2 L3 L4 HDT hsz3 ⊢
        refine walkJ_bt rfl (fun K hK => ⟨rfl, gives_appO (.tmp 31) (.tmp 50) 62 62 rfl rfl W0.heap.size 103 (.agg #[.int .i64 0, .int .i64 0, .int .i64 0, .int .i64 0]) 4 32 Try.underlying62 infoTr rfl (by decide) rfl L1'.out [.int .i64 (i : Int), .int .i64 (sr : Int), .int .i64 (de : Int), .int .i64 (N : Int)] H kT rfl rfl (by simp [Value.oneCell']) (by unfold maxLen; omega) (by omega) hsz3 (fun g5 c5 w5 ho5 hg5 hbg5 hlt5 hor5 => hK _ _ ?_)⟩)
        clear hK K kT
        have hk5 : Keep (fun b => Value.ownBlock (.slice al pl cl) ≠ some b) W3 w5 := Keep.grown hg5 (fun k hk h => h hk)
        have hko := keeps_own hg5 L1'.out
        have M1 := hid (hk5.blk L1.out (fun e => owns_blk_neT L1'.out L1.out (by decide) gl e rfl))
        have M1' := hid ho5
        have M2 := hid (L2.out.keep hk5 (fun e => owns_blk_neT L1'.out L2.out.blk (by decide) gb e rfl) (fun x hx e => owns_ne2 L2.out.posts L1'.out (by decide) x hx e) (fun j hj x hx e => by
          have h1 := HVS.out j hj x hx
          have h2 := (L1'.out.lt x e).1
          omega))
        have M3 := hid (L3.out.keep hk5 (fun D hD e => L3.out.notO L1'.out D e hD))
        have hwW : w.heap.size ≤ W0.heap.size := by omega
        have M4 := hid (L4.out.grown hg5 L4.out.size (fun b hb => Nat.le_trans hwW (L1'.out.lt b hb).1))
        have hbb : ∀ b, b < gl + 3 → b ≠ gl → ∀ u, ((w5.setCell ⟨gl, 0, none⟩ u).heap[b]? = W.heap[b]?) := fun b hb hbl u => by
          rw [Below.heap_setCell w5 ⟨gl, 0, none⟩ u b hbl, hk5.block b (by have := HDT.out.size; omega) (fun e => by have := (L1'.out.lt b e).1; omega), HDT.out.block b (by omega)]
        have hsz5 : W.heap.size ≤ w5.heap.size := Nat.le_trans HDT.out.size hk5.size
        have HKO := hid ((keeps_of_below HDT.out).trans hko)
        have HBB := hid hbb
        clear hk5 hko ho5 hg5 hbg5 hlt5 hor5 L1 L1' L2 L3 L4 HDT hbb hsz3
        have x0 := M1.out.look 0 rfl
        have f0 := M1.out.frozen 0
        have l0 := M1.out.lt
        (refine walkJ_bt rfl (fun K hK => ?_); go_simp; refine hK _ _ ?_; clear hK K)
        refine walkJ_nil ?_
        clear x0 f0 l0
        have hk6 : Keep (· ≠ gl) w5 (w5.setCell ⟨gl, 0, none⟩ (.slice (some ⟨g5, 0, none⟩) (pl + 1) c5)) := Keep.set _ (fun h => h rfl) _
        have hl6 : (pre ++ [x]).length = pl + 1 := by rw [List.length_append, HPL.out]; rfl
        refine (⟨(HKO.out.trans (KeepsOthers.setCell _ _ _)).from _, ⟨by simpa [World.setCell] using hsz5, HBB.out (gl + 1) (by omega) (by omega) _, HBB.out (gl + 1 + 1) (by omega) (by omega) _⟩, ⟨⟨_, M1.out.set 0 (.slice (some ⟨g5, 0, none⟩) (pl + 1) c5), ?_⟩, ?_, ⟨M3.out.keep hk6 (fun D hD => by have := hDlt D hD; omega), i3'⟩, M4.out.setCell (p := ⟨gl, 0, none⟩) hgl _, by simpa [World.setCell] using Nat.le_trans hW0 hsz5⟩⟩ : _ ∧ KpP (gl + 1) (gl + 1 + 1) W _ ∧ LdI l m W0 w gl gb ck ch vp vs (ps.take k) Ds (pre ++ [x]) _)
        · rw [hl6, HSN.out, trsC_append]
          exact hk6.owns M1'.out (owns_blk_neT M1'.out M1.out (by decide))
        · exact M2.out.keep hk6 (by omega) (fun x hx => by have := HVP.out x hx; omega) (fun j hj => owns_blk_neT (M2.out.trs.2 j hj) M1.out (by decide))
      case done =>
        intro D xs W hD hS hI hKD
        obtain ⟨⟨vl, i1, i1'⟩, i2, ⟨i3, i3'⟩, i4, i5⟩ := hI
        rw [ek_all HML.out hS] at i1'
        have hxl : xs.length = m := ek_len hS
        rw [hxl] at i1'
        dsimp only
        have hmk4 : Mks (D :: Ds) W := ⟨List.nodup_cons.2 ⟨fun hm => by have := i3' D hm; omega, i3.nd⟩, fun D' hD' => (List.mem_cons.1 hD').elim (fun e => by rw [e]; exact hKD) (i3.all D')⟩
        have HDS2 : Hid (∀ D' ∈ D :: Ds, w.heap.size ≤ D') := hid (fun D' hD' => (List.mem_cons.1 hD').elim (fun e => by omega) (HDS.out D'))
        obtain ⟨al, cl, rfl, -⟩ := SlR.of_owns i1'
        have c0 := i1.look 0 rfl
        have HV9 := hid (sls_of_owns (S := fun b => b ≠ gb ∧ vp.ownBlock ≠ some b) i1' (fun b hb => ⟨owns_blk_neT i1' i2.blk (by decide) b hb, fun e => owns_ne2 i1' i2.posts (by decide) b hb e⟩))
        rw [← HML.out] at HV9
        have PO := hid (Post_any gb ck ch vp vs (ps.take k) l (.slice al l.length cl) w.heap.size W i2.blk (run_cnts HR.out) i2.posts i2.trs i4.size (by rw [List.length_take, HP.out]; omega) HV9.out)
        rw [HML.out] at PO
        have HMK4 := hid hmk4
        have HI2 := hid i2
        have HI4 := hid i4
        have htk : Hid (ps.take (k + 1) = ps.take k ++ [l]) := hid (by
          have hkl : k < ps.length := by rw [HP.out]; exact hkP
          rw [List.take_succ_eq_append_getElem hkl, ← HL.out, List.getD_eq_getElem?_getD, List.getElem?_eq_getElem hkl]; rfl)
        have hyn : ∀ (ao : Option Addr), (ao = if cy - 1 = 6 * m then some ⟨g, off + 1, none⟩ else some ⟨g, off + 1 + 6 * m, none⟩) → BsR w (.slice ao (Z - 1 - 6 * m) (cy - 1 - 6 * m)) R := fun ao hao => by
          have hd9 : Y.drop (1 + 6 * m) = R := by
            rw [HYE.out, ← List.drop_drop]
            have e : (encP l ++ R).drop 1 = encL l ++ R := rfl
            rw [e, List.drop_append_of_le_length (by rw [encL_length, HML.out]; omega), List.drop_of_length_le (by rw [encL_length, HML.out]; omega)]; rfl
          have hZ9 := HZL.out
          by_cases hcq : cy - 1 = 6 * m
          · have hR0 : R = [] := List.length_eq_zero_iff.1 (by omega)
            rw [if_pos hcq] at hao
            subst hao
            have h1 : Z - 1 - 6 * m = 0 := by omega
            rw [hR0, h1]
            exact ⟨_, _, rfl, Nat.zero_le _, by unfold maxLen; omega, fun h => absurd rfl h⟩
          · rw [if_neg hcq] at hao
            subst hao
            have h9 := HY.out.at (1 + 6 * m) R.length (by rw [HYL.out]; omega) (by omega)
            rw [hd9, List.take_of_length_le (Nat.le_refl _), ← Nat.add_assoc] at h9
            have e1 : Z - 1 - 6 * m = R.length := by omega
            have e2 : cy - 1 - 6 * m = cy - (1 + 6 * m) := by omega
            rw [e1, e2]
            exact h9
        have HYN := hid hyn
        clear hmk4 hKD i1' i2 i3 i3' i4 i5 hS hxl HV9 kS kN HBK0 HMK0 HB0 HKL HVS HVP hyn
        by_cases hcq : cy - 1 = 6 * m
        case pos =>
          have hy9 := HYN.out (some ⟨g, off + 1, none⟩) (by rw [if_pos hcq])
          have e0 : cy - 1 - 6 * m = 0 := by omega
          rw [e0] at hy9
          have HY9 := hid hy9
          clear hy9 e0
          clear HYN
          go_wp2_with fail
          refine PO.out.mono ?_
          rintro r w7 (⟨-, rfl, ch', vp', vs', hb7, hp7, ht7, hg7⟩ | ⟨hno, -⟩)
          case inr => exact absurd HPK.out hno
          have HBK7 : Hid (BkR w.heap.size w7 gb (putL ck l) ch' vp' vs' (ps.take (k + 1))) := hid (by
            rw [htk.out]
            exact ⟨hb7, by rw [List.length_append]; exact hp7, ht7, HI2.out.lo⟩)
          have HMK7 := hid (HMK4.out.keep hg7.keep (fun D' hD' => ⟨fun e => HMK4.out.not HI2.out.blk (by rw [← e]; exact hD'), fun e => HMK4.out.notO HI2.out.posts D' e hD'⟩))
          have HB7 := hid (HI4.out.trans (hg7.keep.below HI4.out.size (fun b hb => ⟨fun e => by have := HI2.out.lo; omega, fun e => by have := (HI2.out.posts.lt b e).1; omega⟩)))
          have HRK7 := hid HRK.out
          have HYf : Hid (BsR w _ (encB (ps.drop (k + 1)))) := hid (by rw [HR2.out]; exact HY9.out)
          have hPl : (ps.take k).length = k := by rw [List.length_take, HP.out]; omega
          rw [hPl]
          clear PO hb7 hp7 ht7 hg7 HMK4 HI2 HI4 c0 i1 HY9
          go_wp2
          refine ⟨⟨k + 1, D :: Ds, _, ldA_of gb _ _ _ rfl, hkP, HYf, ⟨_, _, _, _, HRK7, HBK7⟩, HMK7, HDS2, HB7⟩, ?_⟩
          show Z - 1 - 6 * m < Z
          omega
        case neg =>
          have HY9 := hid (HYN.out (some ⟨g, off + 1 + 6 * m, none⟩) (by rw [if_neg hcq]))
          clear HYN
          go_wp2_with fail
          refine PO.out.mono ?_
          rintro r w7 (⟨-, rfl, ch', vp', vs', hb7, hp7, ht7, hg7⟩ | ⟨hno, -⟩)
          case inr => exact absurd HPK.out hno
          have HBK7 : Hid (BkR w.heap.size w7 gb (putL ck l) ch' vp' vs' (ps.take (k + 1))) := hid (by
            rw [htk.out]
            exact ⟨hb7, by rw [List.length_append]; exact hp7, ht7, HI2.out.lo⟩)
          have HMK7 := hid (HMK4.out.keep hg7.keep (fun D' hD' => ⟨fun e => HMK4.out.not HI2.out.blk (by rw [← e]; exact hD'), fun e => HMK4.out.notO HI2.out.posts D' e hD'⟩))
          have HB7 := hid (HI4.out.trans (hg7.keep.below HI4.out.size (fun b hb => ⟨fun e => by have := HI2.out.lo; omega, fun e => by have := (HI2.out.posts.lt b e).1; omega⟩)))
          have HRK7 := hid HRK.out
          have HYf : Hid (BsR w _ (encB (ps.drop (k + 1)))) := hid (by rw [HR2.out]; exact HY9.out)
          have hPl : (ps.take k).length = k := by rw [List.length_take, HP.out]; omega
          rw [hPl]
          clear PO hb7 hp7 ht7 hg7 HMK4 HI2 HI4 c0 i1 HY9
          go_wp2
          refine ⟨⟨k + 1, D :: Ds, _, ldA_of gb _ _ _ rfl, hkP, HYf, ⟨_, _, _, _, HRK7, HBK7⟩, HMK7, HDS2, HB7⟩, ?_⟩
          show Z - 1 - 6 * m < Z
          omega

end Go.Proofs.Ytcpefolhohakmaa
