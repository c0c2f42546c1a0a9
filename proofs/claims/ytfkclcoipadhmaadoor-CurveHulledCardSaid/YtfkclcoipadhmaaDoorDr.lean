/- Walk of curve.merged. -/
import Derived.Test.YtfkclcoipadhmaaDoorDq
import Derived.Test.YtfkclcoipadhmaaDoorDg
namespace Go.Proofs.YtfkclcoipadhmaaDoor
open Go.RowKit
attribute [local irreducible] seqS seqST walkV walkJ

structure MergR (w : World) (l0 : List Rat) (m : Rat) (r : Ending) (w' : World) : Prop where
  out : ∃ v l, r = .returned v ∧ QsR w.heap.size w' v l ∧ GridOf l l0 m ∧ l.length ≤ l0.length
theorem row_sl {lo : Nat} {w : World} {g n cap : Nat} {l : List Rat} (h : QRow w g l) (hn : l.length = n) (hlo : lo ≤ g) (hg : g < w.heap.size) (hc : n ≤ cap) (hm : cap ≤ maxLen) : QsR lo w (.slice (some ⟨g, 0, none⟩) n cap) l := by
  unfold QsR
  refine ⟨_, cap, by rw [hn], by omega, hm, fun _ => ⟨g, 0, rfl, hlo, hg, fun j hj => ?_⟩⟩
  exact (h j _ (getD_some hj)).1
theorem ddTo_len (l : List Rat) (j : Nat) : (ddTo l j).length ≤ j := by
  unfold ddTo
  rw [List.length_map]
  exact Nat.le_trans (List.length_filter_le _ _) (by simp)
theorem getD_memQ {l : List Rat} {i : Nat} (hi : i < l.length) : l.getD i 0 ∈ l := by
  rw [List.getD_eq_getElem?_getD, List.getElem?_eq_getElem hi]
  exact List.getElem_mem hi
theorem map_step (F : Pt → Rat) {A : List Pt} {i : Nat} (hi : i < A.length) : (A.take (i + 1)).map F = (A.take i).map F ++ [F (A.getD i (0, 0))] := by
  rw [List.take_succ_eq_append_getElem hi, List.map_append, List.getD_eq_getElem?_getD, List.getElem?_eq_getElem hi]
  rfl
/-- A function of a point's, as merged calls it. -/
structure FunPt (f : FuncId) (X : Pt → Rat) : Prop where
  enter : ∀ args w, (callFunc f args).run Tryd.prog w = .ok (.enter f args) w
  call : ∀ p w, Calls Tryd.prog f #[ptQ p] w fun r w' => r = .returned (frQ (X p)) ∧ Below w.heap.size w w'

set_option maxHeartbeats 8000000 in
set_option maxRecDepth 100000 in
theorem merged_any (A C : List Pt) (fx fy : FuncId) (X Y : Pt → Rat) (m : Rat) (va vc : Value) (w : World) (hA : PsR 0 w va A) (hC : PsR 0 w vc C) (hA1 : 1 ≤ A.length) (hA2 : A.length ≤ 48) (hC2 : C.length ≤ 48)
    (hX : FunPt fx X) (hY : FunPt fy Y) (hfX : ∀ i, i < A.length → fits (X (A.getD i (0, 0)))) (hfY : ∀ i, i < C.length → fits (Y (C.getD i (0, 0)))) (hm : fits m) :
    Calls Tryd.prog 88 #[va, vc, .func (.func fx) #[] #[], .func (.func fy) #[] #[], frQ m] w fun r w' => MergR w (A.map X ++ C.map Y) m r w' ∧ Below w.heap.size w w' := by
  have eX := hX.enter
  have eY := hY.enter
  have HX := hid hX.call
  have HY := hid hY.call
  clear hX hY
  have hfall : ∀ q ∈ A.map X ++ C.map Y, fits q := by
    intro q hq
    rcases List.mem_append.1 hq with h | h
    · obtain ⟨p, hp, rfl⟩ := List.mem_map.1 h
      obtain ⟨i, hi, rfl⟩ := List.mem_iff_getElem.1 hp
      have := hfX i hi
      rwa [List.getD_eq_getElem?_getD, List.getElem?_eq_getElem hi] at this
    · obtain ⟨p, hp, rfl⟩ := List.mem_map.1 h
      obtain ⟨i, hi, rfl⟩ := List.mem_iff_getElem.1 hp
      have := hfY i hi
      rwa [List.getD_eq_getElem?_getD, List.getElem?_eq_getElem hi] at this
  have HFA := hid hfall
  obtain ⟨aa, ca, rfl, hca, hma, hAA⟩ := hA
  obtain ⟨ac, cc, rfl, hcc, hmc, hCC⟩ := hC
  unfold maxLen at hma hmc
  have HAA := hid hAA
  have HCC := hid hCC
  obtain ⟨LA, hLA⟩ : ∃ L, A.length = L := ⟨_, rfl⟩
  obtain ⟨LC, hLC⟩ : ∃ L, C.length = L := ⟨_, rfl⟩
  rw [hLA] at hca hA1 hA2 ⊢
  rw [hLC] at hcc hC2 ⊢
  have HLA := hid hLA
  have HLC := hid hLC
  have HM := hid hm
  clear hLA hLC hAA hCC hfX hfY hfall hm
  unfold frQ ptQ at HX HY
  unfold frQ
  obtain ⟨w0, hw0⟩ : ∃ w0, w.alloc (.cells #[.int .i64 m.num, .int .i64 (m.den : Int)] 32) = w0 := ⟨_, rfl⟩
  have km := Blk.new w #[.int .i64 m.num, .int .i64 (m.den : Int)] 32
  have b0 := alloc_below w (.cells #[.int .i64 m.num, .int .i64 (m.den : Int)] 32)
  obtain ⟨S, hS⟩ : ∃ S, w.heap.size = S := ⟨_, rfl⟩
  rw [hw0] at km b0
  rw [hS] at km b0
  have HW0 := hid hw0
  have HS := hid hS
  have KM := hid km
  have hs0 : S + 1 ≤ w0.heap.size := km.lt
  clear km
  go_enter Tryd.func88, Tryd.ntmps88
  go_wp2_with fail
  clear hw0 hS
  go_loopw [11, 18] (fun y x wr => ∃ i : Nat, x = .int .i64 i ∧ i ≤ LA ∧ Hid (wr.ownsRow (S + 1) 32 2 y i (frsC ((A.take i).map X))) ∧ Below (S + 1) w0 wr) (fun _ x _ => LA - (intOf x).toNat)
  case atStart => exact ⟨0, rfl, Nat.zero_le _, hid (World.ownsRow_nil _ _ _ _), Below.refl _ _⟩
  case round =>
    obtain ⟨i, rfl, hi, HO, hbel⟩ := hrel
    have hbW : Below S w wr := b0.trans (hbel.mono (Nat.le_succ S))
    have hsr : S + 1 ≤ wr.heap.size := Nat.le_trans hs0 hbel.size
    by_cases hiL : i < LA
    · have hi2 : (i : Int) < (LA : Int) := by omega
      obtain ⟨b, off, rfl, hb, x0, x1, x2, x3⟩ := p_cell HAA.out (show i < A.length by rw [HLA.out]; exact hiL)
      rw [HS.out] at hb
      replace x0 := (hbW.cell (p := ⟨b, off + i * 4, none⟩) hb).trans x0
      replace x1 := (hbW.cell (p := ⟨b, off + i * 4 + 1, none⟩) hb).trans x1
      replace x2 := (hbW.cell (p := ⟨b, off + i * 4 + 2, none⟩) hb).trans x2
      replace x3 := (hbW.cell (p := ⟨b, off + i * 4 + 3, none⟩) hb).trans x3
      have hst := map_step X (show i < A.length by rw [HLA.out]; exact hiL)
      have CX := hid (fun w => HX.out (A.getD i (0, 0)) w)
      obtain ⟨P, hP⟩ : ∃ P, A.getD i (0, 0) = P := ⟨_, rfl⟩
      rw [hP] at x0 x1 x2 x3 hst CX
      obtain ⟨q, hq⟩ : ∃ q, X P = q := ⟨_, rfl⟩
      rw [hq] at hst CX
      have HST := hid hst
      clear hst hP hq
      go_wp2_with fail
      have bA := alloc_below wr (.cells #[.int .i64 P.1.num, .int .i64 (P.1.den : Int), .int .i64 P.2.num, .int .i64 (P.2.den : Int)] 52)
      refine (CX.out _).mono ?_
      rintro r w1 ⟨rfl, hb1⟩
      have hb1' := bA.trans (hb1.mono bA.size)
      have HO1 := hid (owns_below HO.out hb1')
      have hbel1 := hbel.trans (hb1'.mono hsr)
      have hs1 : S + 1 ≤ w1.heap.size := Nat.le_trans hsr hb1'.size
      clear hb1 hb1' bA x0 x1 x2 x3
      go_wp2_with (first
        | (at_builtin; refine wpList_app rfl (.tmp 22) (.tmp 26) _ rfl (S + 1) 32 (frV 0 0) 2 16 Tryd.underlying23 infoFrac rfl (by decide) 32 _ _ _ rfl HO1.out [.int .i64 q.num, .int .i64 (q.den : Int)] rfl rfl (by simp [Value.oneCell']) (by unfold maxLen; omega) (by omega) (by omega) ?_; intro g5 gcap w5 ho5 hb5 _ _ _))
      go_roundw
      case rel =>
        refine ⟨i + 1, by go_num, by omega, ?_, hbel1.trans hb5⟩
        rw [HST.out, frsC_append]
        exact hid ho5
      case measure => simp [intOf]; omega
    · obtain rfl : LA = i := by omega
      have hi2 : ¬ (LA : Int) < (LA : Int) := by omega
      go_wp2_with fail
      have HOA : Hid (wr.ownsRow (S + 1) 32 2 u11 LA (frsC (A.map X))) := hid (by
        have h := HO.out
        rwa [List.take_of_length_le (by rw [HLA.out]; omega)] at h)
      clear HO hi
      obtain ⟨wa, hwa⟩ : ∃ W, wr = W := ⟨_, rfl⟩
      rw [hwa] at HOA hbel hbW hsr ⊢
      clear hwa
      go_loopw [11, 31] (fun y x wr => ∃ i : Nat, x = .int .i64 i ∧ i ≤ LC ∧ Hid (wr.ownsRow (S + 1) 32 2 y (LA + i) (frsC (A.map X ++ (C.take i).map Y))) ∧ Below (S + 1) w0 wr) (fun _ x _ => LC - (intOf x).toNat)
      case atStart => exact ⟨0, rfl, Nat.zero_le _, hid (by simpa using HOA.out), hbel⟩
      case round =>
        clear hbW hsr HOA hbel
        obtain ⟨i, rfl, hi, HO, hbel⟩ := hrel
        have hbW : Below S w wr := b0.trans (hbel.mono (Nat.le_succ S))
        have hsr : S + 1 ≤ wr.heap.size := Nat.le_trans hs0 hbel.size
        by_cases hiL : i < LC
        · have hi2 : (i : Int) < (LC : Int) := by omega
          obtain ⟨b, off, rfl, hb, x0, x1, x2, x3⟩ := p_cell HCC.out (show i < C.length by rw [HLC.out]; exact hiL)
          rw [HS.out] at hb
          replace x0 := (hbW.cell (p := ⟨b, off + i * 4, none⟩) hb).trans x0
          replace x1 := (hbW.cell (p := ⟨b, off + i * 4 + 1, none⟩) hb).trans x1
          replace x2 := (hbW.cell (p := ⟨b, off + i * 4 + 2, none⟩) hb).trans x2
          replace x3 := (hbW.cell (p := ⟨b, off + i * 4 + 3, none⟩) hb).trans x3
          have hst := map_step Y (show i < C.length by rw [HLC.out]; exact hiL)
          have CX := hid (fun w => HY.out (C.getD i (0, 0)) w)
          obtain ⟨P, hP⟩ : ∃ P, C.getD i (0, 0) = P := ⟨_, rfl⟩
          rw [hP] at x0 x1 x2 x3 hst CX
          obtain ⟨q, hq⟩ : ∃ q, Y P = q := ⟨_, rfl⟩
          rw [hq] at hst CX
          have HST := hid hst
          clear hst hP hq
          go_wp2_with fail
          have bA := alloc_below wr (.cells #[.int .i64 P.1.num, .int .i64 (P.1.den : Int), .int .i64 P.2.num, .int .i64 (P.2.den : Int)] 52)
          refine (CX.out _).mono ?_
          rintro r w1 ⟨rfl, hb1⟩
          have hb1' := bA.trans (hb1.mono bA.size)
          have HO1 := hid (owns_below HO.out hb1')
          have hbel1 := hbel.trans (hb1'.mono hsr)
          have hs1 : S + 1 ≤ w1.heap.size := Nat.le_trans hsr hb1'.size
          clear hb1 hb1' bA x0 x1 x2 x3
          go_wp2_with (first
            | (at_builtin; refine wpList_app rfl (.tmp 35) (.tmp 39) _ rfl (S + 1) 32 (frV 0 0) 2 16 Tryd.underlying23 infoFrac rfl (by decide) 32 _ _ _ rfl HO1.out [.int .i64 q.num, .int .i64 (q.den : Int)] rfl rfl (by simp [Value.oneCell']) (by unfold maxLen; omega) (by omega) (by omega) ?_; intro g5 gcap w5 ho5 hb5 _ _ _))
          go_roundw
          case rel =>
            refine ⟨i + 1, by go_num, by omega, ?_, hbel1.trans hb5⟩
            rw [HST.out, ← List.append_assoc, frsC_append]
            exact hid ho5
          case measure => simp [intOf]; omega
        · obtain rfl : LC = i := by omega
          have hi2 : ¬ (LC : Int) < (LC : Int) := by omega
          obtain ⟨n, hn⟩ : ∃ n, LA + LC = n := ⟨_, rfl⟩
          have hn1 : 1 ≤ n := by omega
          have hn2 : n ≤ 1000 := by omega
          obtain ⟨l, hl⟩ : ∃ l, A.map X ++ C.map Y = l := ⟨_, rfl⟩
          have HO2 := HO.out
          rw [List.take_of_length_le (by rw [HLC.out]; omega), hl, hn] at HO2
          have hln : l.length = n := by rw [← hl, List.length_append, List.length_map, List.length_map, HLA.out, HLC.out, hn]
          have HFL : Hid (∀ q ∈ l, fits q) := hid (by rw [← hl]; exact HFA.out)
          obtain ⟨g, cap, rfl, hg, hcn, hcm⟩ : ∃ g cap, u11 = .slice (some ⟨g, 0, none⟩) n cap ∧ S + 1 ≤ g ∧ n ≤ cap ∧ cap ≤ maxLen := by
            obtain ⟨-, ⟨-, h0⟩ | ⟨g, cap, cur, hv, hg, -, h1, h2, -, -⟩⟩ := HO2
            · omega
            · exact ⟨g, cap, hv, hg, h1, h2⟩
          have kmr : Blk wr S #[.int .i64 m.num, .int .i64 (m.den : Int)] 32 := KM.out.below' hbel (Nat.lt_succ_self S)
          have DE := hid (deleteOver_any l m S (S + 1) g n cap wr hln hn1 hn2 HO2 (fun i hi => HFL.out _ (getD_memQ hi)) HM.out (Nat.lt_succ_self S) kmr)
          obtain ⟨-, -, -, hgs⟩ := owns_block HO2
          have HLN := hid hln
          have HL := hid hl
          clear HO HO2 hi hn hln hl HAA HCC HLA HLC hca hcc eX eY HX HY kmr hi2 hiL
          go_wp2_with fail
          refine DE.out.mono ?_
          rintro r w1 ⟨⟨F, hF, rfl, hQF⟩, hb1⟩
          have hgs1 : g < w1.heap.size := Nat.lt_of_lt_of_le hgs hb1.size
          have hbel1 := hbel.trans hb1
          have HFm : Hid (∀ x, x ∈ F ↔ x ∈ l ∧ x ≤ m) := hid (fun x => by rw [hF, List.mem_filter, decide_eq_true_eq])
          have hFn : F.length ≤ n := by rw [hF, ← HLN.out]; exact List.length_filter_le _ _
          obtain ⟨f, hf⟩ : ∃ f, F.length = f := ⟨_, rfl⟩
          have SO := hid (sort_any F (S + 1) g F.length cap w1 rfl (by omega) (fun q hq => HFL.out q ((HFm.out q).1 hq).1) hg hgs1 hQF)
          rw [hf] at SO hFn ⊢
          have HFF := hid hf
          clear hF hQF hb1 hbel DE hf
          go_wp2_with fail
          refine SO.out.mono ?_
          rintro r w2 ⟨⟨rfl, d, hp, hso, hQd⟩, hb2⟩
          have hgs2 : g < w2.heap.size := Nat.lt_of_lt_of_le hgs1 hb2.size
          have hbel2 := hbel1.trans hb2
          have hdn : d.length = f := by rw [hp.length_eq]; exact HFF.out
          have CO := hid (Compact_any d (S + 1) g f cap w2 hdn (by omega) (by omega) hcm hg hgs2 hQd)
          have HDM : Hid (∀ x, x ∈ d ↔ x ∈ l ∧ x ≤ m) := hid (fun x => by rw [hp.mem_iff]; exact HFm.out x)
          have HSO := hid hso
          have HDN := hid hdn
          clear SO hb2 hp hso hQd hdn hbel1
          go_wp2_with fail
          refine CO.out.mono ?_
          rintro r w3 ⟨⟨G, hG, rfl, hQG⟩, hb3⟩
          have hgs3 : g < w3.heap.size := Nat.lt_of_lt_of_le hgs2 hb3.size
          have hbel3 := hbel2.trans hb3
          have hGl : G.length ≤ f := by rw [hG]; exact Nat.le_trans (ddTo_len _ _) (by rw [HDN.out]; exact Nat.le_refl _)
          have hgrid : GridOf G l m := by
            obtain ⟨h1, h2⟩ := dd_grid HSO.out d.length (Nat.le_refl _)
            rw [← hG] at h1 h2
            refine ⟨h1, fun x => ?_⟩
            rw [h2 x, List.take_of_length_le (Nat.le_refl _)]
            exact HDM.out x
          have HG := hid hgrid
          have HQ : Hid (QsR w.heap.size w3 (.slice (some ⟨g, 0, none⟩) G.length cap) G) := hid (row_sl hQG rfl (by rw [HS.out]; omega) hgs3 (by omega) hcm)
          have HB : Hid (Below w.heap.size w w3) := hid (by rw [HS.out]; exact b0.trans (hbel3.mono (Nat.le_succ S)))
          have HGL : Hid (G.length ≤ l.length) := hid (by rw [HLN.out]; omega)
          obtain ⟨gl, hgl⟩ : ∃ n, G.length = n := ⟨_, rfl⟩
          rw [hgl] at HQ ⊢
          clear hG hQG hb3 CO hgrid hGl hbel2 hbel3 b0 hgl
          go_wp2
          go_ret
          exact ⟨⟨_, G, rfl, HQ.out, by rw [HL.out]; exact HG.out, by rw [HL.out]; exact HGL.out⟩, HB.out⟩

end Go.Proofs.YtfkclcoipadhmaaDoor
