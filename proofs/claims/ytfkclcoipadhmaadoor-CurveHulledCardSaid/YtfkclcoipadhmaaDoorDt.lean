/- Walk of curve.made. -/
import Derived.Test.YtfkclcoipadhmaaDoorDs
import Derived.Test.YtfkclcoipadhmaaDoorDh
import Derived.Test.YtfkclcoipadhmaaDoorDp
namespace Go.Proofs.YtfkclcoipadhmaaDoor
open Go.RowKit
attribute [local irreducible] seqS seqST walkV walkJ

/-- What made hands back. -/
def madE (f : Rat → Option Pt) (l : List Rat) : Int := match ptsO f l l.length with | some o => slpE (ofQ o) | none => 5
def madL (f : Rat → Option Pt) (l : List Rat) : List Pt := match ptsO f l l.length with | some o => nrmL (ofQ o) | none => []
/-- A point's function, as made calls it. -/
structure PtFun (fp : FuncId) (cb : Array Value) (f : Rat → Option Pt) (l : List Rat) (w : World) : Prop where
  enter : ∀ args w, (callFunc fp args).run Tryd.prog w = .ok (.enter fp args) w
  call : ∀ x ∈ l, ∀ (g : Nat) (ok : Bool) (W : World), w.heap.size ≤ g → Below w.heap.size w W → Z0 W → CalB W g ok →
    Calls Tryd.prog fp (#[.pointer (some ⟨g, 0, none⟩), frQ x] ++ cb) W fun r w' => PtR (f x) g ok W r w'
theorem ptsO_step {f : Rat → Option Pt} {l : List Rat} {i : Nat} {ok : Bool} {o : List Pt} {p : Pt} (h : ok = (ptsO f l i).isSome) (h1 : ok = true → ptsO f l i = some o) (h2 : (ok && (f (l.getD i 0)).isSome) = true → f (l.getD i 0) = some p) :
    (ok && (f (l.getD i 0)).isSome) = (ptsO f l (i + 1)).isSome ∧ ((ok && (f (l.getD i 0)).isSome) = true → ptsO f l (i + 1) = some (o ++ [p])) := by
  cases ok with
  | false =>
    have hn : ptsO f l i = none := by
      cases hs : ptsO f l i with
      | none => rfl
      | some x => rw [hs] at h; cases h
    rw [ptsO_stay hn (Nat.le_succ i)]
    exact ⟨rfl, fun h => by cases h⟩
  | true =>
    cases hf : f (l.getD i 0) with
    | none => rw [ptsO_none hf]; exact ⟨rfl, fun h => by cases h⟩
    | some p' =>
      rw [hf] at h2
      have e : p' = p := Option.some.inj (h2 rfl)
      subst e
      rw [ptsO_some (h1 rfl) hf]
      exact ⟨rfl, fun _ => rfl⟩

set_option maxHeartbeats 8000000 in
set_option maxRecDepth 100000 in
theorem made_c (l : List Rat) (fp : FuncId) (cb : Array Value) (f : Rat → Option Pt) (vl : Value) (w : World) (hl : QsR 0 w vl l) (hz : Z0 w) (hn : l.length ≤ 96) (hP : PtFun fp cb f l w) :
    Calls Tryd.prog 71 #[vl, .func (.func fp) #[] cb] w fun r w' => (∃ v, r = .returned (.tuple #[v, .int .i64 (madE f l)]) ∧ PsR w.heap.size w' v (madL f l)) ∧ Below w.heap.size w w' := by
  have eP := hP.enter
  have HPC := hid hP.call
  clear hP
  obtain ⟨al, cl, rfl, hcl, hml, hcc⟩ := hl
  unfold maxLen at hml
  have HCC := hid hcc
  obtain ⟨E, hE⟩ : ∃ E, madE f l = E := ⟨_, rfl⟩
  obtain ⟨R, hR⟩ : ∃ R, madL f l = R := ⟨_, rfl⟩
  rw [hE, hR]
  have HE := hid hE
  have HR := hid hR
  obtain ⟨L, hL⟩ : ∃ L, l.length = L := ⟨_, rfl⟩
  rw [hL] at hcl hn ⊢
  have HL := hid hL
  obtain ⟨w0, hw0⟩ : ∃ w0, w.alloc (.cells #[.int .i64 0] 68) = w0 := ⟨_, rfl⟩
  have kg := Blk.new w #[.int .i64 0] 68
  have b0 := alloc_below w (.cells #[.int .i64 0] 68)
  obtain ⟨g, hg⟩ : ∃ g, w.heap.size = g := ⟨_, rfl⟩
  rw [hw0] at kg b0
  rw [hg] at kg b0
  have HG := hid hg
  have HZ := hid hz
  have HK0 : Hid (CalB w0 g true) := hid kg
  have hs0 : g + 1 ≤ w0.heap.size := kg.lt
  clear hE hR hL hz hcc kg
  go_enter Tryd.func71, Tryd.ntmps71
  go_wp2_with fail
  clear hw0 hg
  go_loopw [7, 12] (fun y x wr => ∃ i : Nat, x = .int .i64 i ∧ i ≤ L ∧ (∃ ok o, ok = (ptsO f l i).isSome ∧ (ok = true → ptsO f l i = some o) ∧ o.length = i ∧ Hid (wr.ownsRow (g + 1) 52 4 y i (ptsC o)) ∧ Hid (CalB wr g ok)) ∧ Below g w wr ∧ g + 1 ≤ wr.heap.size) (fun _ x _ => L - (intOf x).toNat)
  case atStart => exact ⟨0, rfl, Nat.zero_le _, ⟨true, [], rfl, fun _ => rfl, rfl, hid (World.ownsRow_nil _ _ _ _), HK0⟩, b0, hs0⟩
  case round =>
    obtain ⟨i, rfl, hi, ⟨ok, o, hok, hoks, hol, HO, HK⟩, hbel, hsr⟩ := hrel
    have hzr : Z0 wr := HZ.out.below (by rw [HG.out]; exact hbel)
    by_cases hiL : i < L
    · have hi2 : (i : Int) < (L : Int) := by omega
      obtain ⟨b, off, rfl, hb, x0, x1⟩ := q_cell HCC.out (show i < l.length by rw [HL.out]; exact hiL)
      rw [HG.out] at hb
      replace x0 := (hbel.cell (p := ⟨b, off + i * 2, none⟩) hb).trans x0
      replace x1 := (hbel.cell (p := ⟨b, off + i * 2 + 1, none⟩) hb).trans x1
      have CP := hid (HPC.out (l.getD i 0) (getD_memQ (by rw [HL.out]; exact hiL)))
      have HST := hid (fun p h2 => ptsO_step (p := p) hok hoks h2)
      obtain ⟨x, hx⟩ : ∃ x, l.getD i 0 = x := ⟨_, rfl⟩
      rw [hx] at x0 x1 CP HST
      obtain ⟨k, hk⟩ : ∃ k, (ok && (f x).isSome) = k := ⟨_, rfl⟩
      have HKK := hid hk
      have HOL := hid hol
      clear hok hoks hx hk hol
      unfold frQ at CP
      go_wp2_with fail
      have bA := alloc_below wr (.cells #[.int .i64 x.num, .int .i64 (x.den : Int)] 32)
      have tA : CalT g wr (wr.alloc (.cells #[.int .i64 x.num, .int .i64 (x.den : Int)] 32)) := CalT.of_below bA
      have hgr : g ≤ wr.heap.size := by omega
      have bG := bA.mono hgr
      refine (CP.out g ok _ (by rw [HG.out]; exact Nat.le_refl _) (by rw [HG.out]; exact hbel.trans bG) (hzr.below bA) (CalB.below HK.out bA)).mono ?_
      rintro r w1 ⟨⟨p, rfl, hp⟩, hk1, ht1⟩
      have t1 := (calT_pre g).trans tA ht1
      have hb1 := CalT.below hbel t1 (Nat.le_refl _) hgr
      have HO1 := hid (owns_calT t1 HO.out (Nat.lt_succ_self g))
      have hs1 : g + 1 ≤ w1.heap.size := Nat.le_trans hsr t1.size
      have hst := HST.out p hp
      rw [HKK.out] at hst hk1
      have HS2 := hid hst
      have HK1 := hid hk1
      have HPC1 : Hid (ptsC [p] = [.int .i64 p.1.num, .int .i64 (p.1.den : Int), .int .i64 p.2.num, .int .i64 (p.2.den : Int)]) := hid rfl
      clear hst hk1 hp bG tA bA ht1 x0 x1 t1 HST CP
      unfold ptQ
      obtain ⟨p1, hp1⟩ : ∃ z, p.1.num = z := ⟨_, rfl⟩
      obtain ⟨p2, hp2⟩ : ∃ z, (p.1.den : Int) = z := ⟨_, rfl⟩
      obtain ⟨p3, hp3⟩ : ∃ z, p.2.num = z := ⟨_, rfl⟩
      obtain ⟨p4, hp4⟩ : ∃ z, (p.2.den : Int) = z := ⟨_, rfl⟩
      rw [hp1, hp2, hp3, hp4] at HPC1 ⊢
      clear hp1 hp2 hp3 hp4
      go_wp2_with (first
        | (at_builtin; refine wpList_app rfl (.tmp 16) (.tmp 20) _ rfl (g + 1) 52 (.agg #[.int .i64 0, .int .i64 0, .int .i64 0, .int .i64 0]) 4 32 Tryd.underlying22 infoPoint rfl (by decide) 52 _ _ _ rfl HO1.out [.int .i64 p1, .int .i64 p2, .int .i64 p3, .int .i64 p4] rfl rfl (by simp [Value.oneCell']) (by unfold maxLen; omega) (by omega) (by omega) ?_; intro g5 gcap w5 ho5 hb5 _ _ _))
      go_roundw
      case rel =>
        refine ⟨i + 1, by go_num, by omega, ⟨k, o ++ [p], HS2.out.1, HS2.out.2, by rw [List.length_append, HOL.out]; rfl, ?_, hid (HK1.out.below' hb5 (Nat.lt_succ_self g))⟩, hb1.trans (hb5.mono (Nat.le_succ g)), Nat.le_trans hs1 hb5.size⟩
        rw [ptsC_append, HPC1.out]
        exact hid ho5
      case measure => simp [intOf]; omega
    · obtain rfl : L = i := by omega
      have hi2 : ¬ (L : Int) < (L : Int) := by omega
      obtain ⟨ao3, c3, rfl, -⟩ := id (SlR.of_owns HO.out)
      have hBw : Below w.heap.size w wr := by rw [HG.out]; exact hbel
      have c0 := HK.out.look 0 rfl
      cases ok with
      | true =>
        have hs := hoks rfl
        rw [← HL.out] at hs
        have e1 : madE f l = slpE (ofQ o) := by unfold madE; rw [hs]
        have e2 : madL f l = nrmL (ofQ o) := by unfold madL; rw [hs]
        rw [HE.out] at e1
        rw [HR.out] at e2
        have hr : PsR 0 wr (.slice ao3 L c3) o := by
          have := SlR.mono (SlR.of_owns HO.out) (Nat.zero_le _)
          unfold PsR
          rw [hol]
          exact this
        have NO := hid (Norm_any (ofQ o) _ wr hr.ofQ hzr)
        rw [← e1, ← e2] at NO
        clear hok hoks hs hr hol e1 e2 HE HR
        go_wp2_with fail
        refine NO.out.mono ?_
        rintro r w1 ⟨⟨v, rfl, hv⟩, hb1⟩
        have hv2 := PsR.mono hv hBw.size
        have hB1 := hBw.trans (hb1.mono hBw.size)
        clear NO hv hb1
        go_wp2
        go_ret2
        exact ⟨⟨_, rfl, hv2⟩, hB1⟩
      | false =>
        have hs : ptsO f l L = none := by
          cases hs : ptsO f l L with
          | none => rfl
          | some l' => rw [hs] at hok; cases hok
        rw [← HL.out] at hs
        have e1 : E = 5 := by rw [← HE.out]; unfold madE; rw [hs]
        have e2 : R = [] := by rw [← HR.out]; unfold madL; rw [hs]
        subst e1 e2
        clear hok hoks hs hol HE HR
        go_wp2_with fail
        have hd := (Below.refl wr.heap.size wr).drew
        have z0 := fun x : SubT (Below wr.heap.size) wr.drew => (Blk.below HK.out (hd.trans x.b)).look 0 rfl
        refine wp_walkJ (T := Below (wr.heap.size)) (belowV_pre _) (.rd 0 (.rd 1 (.rd 2 (.rd 3 (.inv []))))) (by kernel_rfl) rfl (by kernel_rfl) (by kernel_rfl) ?_
        iterate 4 (refine walkJ_rd rfl (fun K hK => ?_); go_simp; refine hK _ ?_; clear hK K)
        refine walkJ_nil ?_
        go_wp2
        go_ret2
        exact ⟨⟨_, rfl, SlR.nil _ _⟩, hBw.trans (hd.mono hBw.size)⟩

end Go.Proofs.YtfkclcoipadhmaaDoor
