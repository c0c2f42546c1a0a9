/- Several of my texts in one: Dq, Dr, Ds, Dt, Du. -/
import Derived.Test.YtfkclcoipadhmaaGreatDoorCy
import Derived.Test.YtfkclcoipadhmaaGreatDoorDz
import Derived.Shelf.SlGeneric
import Derived.Shelf.SlSortCmp.WholeK
import Derived.Test.YtfkclcoipadhmaaGreatDoorDy
/- slices.SortFunc at fractions, by the shelf's contract. -/
namespace Go.Proofs
open Go.Shelf
def Tryz.laysSort_ren : Go.Shelf.Ren := ⟨fun | 6 => 77 | 15 => 109 | 14 => 108 | 28 => 135 | 29 => 136 | 20 => 127 | 21 => 128 | 22 => 129 | 23 => 130 | 24 => 131 | 25 => 132 | 26 => 133 | 27 => 134 | 46 => 144 | 47 => 145 | 48 => 146 | 49 => 147 | 50 => 148 | 57 => 149 | n => n, fun | 22 => 37 | 24 => 31 | 25 => 60 | 3 => 3 | 39 => 104 | 0 => 0 | 53 => 126 | 55 => 95 | 4 => 4 | 46 => 120 | 45 => 119 | 50 => 75 | 5 => 5 | 9 => 9 | 66 => 135 | 70 => 139 | 76 => 141 | 77 => 142 | n => n, fun | n => n⟩
theorem Tryz.laysSort : Go.Proofs.SlLaysF0.n6 Tryz.prog Tryz.laysSort_ren := {
  mixed := by kernel_rfl
  f6 := ⟨Tryz.f77.name, by decide, Tryz.func77.trans (congrArg some (by kernel_rfl))⟩
  f14 := ⟨Tryz.f108.name, by decide, Tryz.func108.trans (congrArg some (by kernel_rfl))⟩
  f15 := Tryz.func109.trans (congrArg some (by kernel_rfl))
  f20 := ⟨Tryz.f127.name, by decide, Tryz.func127.trans (congrArg some (by kernel_rfl))⟩
  f21 := ⟨Tryz.f128.name, by decide, Tryz.func128.trans (congrArg some (by kernel_rfl))⟩
  f22 := ⟨Tryz.f129.name, by decide, Tryz.func129.trans (congrArg some (by kernel_rfl))⟩
  f23 := ⟨Tryz.f130.name, by decide, Tryz.func130.trans (congrArg some (by kernel_rfl))⟩
  f24 := ⟨Tryz.f131.name, by decide, Tryz.func131.trans (congrArg some (by kernel_rfl))⟩
  f25 := ⟨Tryz.f132.name, by decide, Tryz.func132.trans (congrArg some (by kernel_rfl))⟩
  f26 := ⟨Tryz.f133.name, by decide, Tryz.func133.trans (congrArg some (by kernel_rfl))⟩
  f27 := ⟨Tryz.f134.name, by decide, Tryz.func134.trans (congrArg some (by kernel_rfl))⟩
  f28 := Tryz.func135.trans (congrArg some (by kernel_rfl))
  f29 := Tryz.func136.trans (congrArg some (by kernel_rfl))
  f46 := ⟨Tryz.f144.name, by decide, Tryz.func144.trans (congrArg some (by kernel_rfl))⟩
  f47 := Tryz.func145.trans (congrArg some (by kernel_rfl))
  f48 := Tryz.func146.trans (congrArg some (by kernel_rfl))
  f49 := ⟨Tryz.f147.name, by decide, Tryz.func147.trans (congrArg some (by kernel_rfl))⟩
  f50 := ⟨Tryz.f148.name, by decide, Tryz.func148.trans (congrArg some (by kernel_rfl))⟩
  f57 := ⟨Tryz.f149.name, by decide, Tryz.func149.trans (congrArg some (by kernel_rfl))⟩
  t0 := Tryz.underlying0
  a0 := Tryz.isAgg0
  z0 := Tryz.sizeOf0
  v0 := Tryz.zeroValue0
  t3 := Tryz.underlying3
  a3 := Tryz.isAgg3
  z3 := Tryz.sizeOf3
  v3 := Tryz.zeroValue3
  t4 := Tryz.underlying4
  a4 := Tryz.isAgg4
  z4 := Tryz.sizeOf4
  v4 := Tryz.zeroValue4
  t5 := Tryz.underlying5
  a5 := Tryz.isAgg5
  z5 := Tryz.sizeOf5
  v5 := Tryz.zeroValue5
  t9 := Tryz.underlying9
  a9 := Tryz.isAgg9
  z9 := Tryz.sizeOf9
  v9 := Tryz.zeroValue9
  t22 := Tryz.underlying37
  a22 := Tryz.isAgg37
  z22 := Tryz.sizeOf37
  v22 := Tryz.zeroValue37
  t25 := Tryz.underlying60
  a25 := Tryz.isAgg60
  z25 := Tryz.sizeOf60
  v25 := Tryz.zeroValue60
  t39 := Tryz.underlying104
  a39 := Tryz.isAgg104
  z39 := Tryz.sizeOf104
  v39 := Tryz.zeroValue104
  t45 := Tryz.underlying119
  a45 := Tryz.isAgg119
  z45 := Tryz.sizeOf119
  v45 := Tryz.zeroValue119
  t46 := Tryz.underlying120
  a46 := Tryz.isAgg120
  z46 := Tryz.sizeOf120
  v46 := Tryz.zeroValue120
  t50 := Tryz.underlying75
  a50 := Tryz.isAgg75
  z50 := Tryz.sizeOf75
  v50 := Tryz.zeroValue75
  t53 := Tryz.underlying126
  a53 := Tryz.isAgg126
  z53 := Tryz.sizeOf126
  v53 := Tryz.zeroValue126
  t55 := Tryz.underlying95
  a55 := Tryz.isAgg95
  z55 := Tryz.sizeOf95
  v55 := Tryz.zeroValue95
  t66 := Tryz.underlying135
  a66 := Tryz.isAgg135
  z66 := Tryz.sizeOf135
  v66 := Tryz.zeroValue135
  t70 := Tryz.underlying139
  a70 := Tryz.isAgg139
  z70 := Tryz.sizeOf139
  v70 := Tryz.zeroValue139
  t76 := Tryz.underlying141
  a76 := Tryz.isAgg141
  z76 := Tryz.sizeOf141
  v76 := Tryz.zeroValue141
  t77 := Tryz.underlying142
  a77 := Tryz.isAgg142
  z77 := Tryz.sizeOf142
  v77 := Tryz.zeroValue142 }
end Go.Proofs
namespace Go.Proofs.YtfkclcoipadhmaaGreatDoor
open Go.RowKit Go.Sort

abbrev FQ := {q : Rat // fits q}
instance instFQ : Inhabited FQ := ⟨⟨0, fits_nought⟩⟩
def encQ (x : FQ) : List Value := frC x.1
def cmpF (x y : FQ) : Int := cmpQ x.1 y.1
theorem swo_F : SWO (ltOf cmpF) where
  irrefl := fun x => by
    unfold ltOf cmpF
    exact decide_eq_false (fun h => absurd ((cmpQ_lt _ _).1 h) Rat.lt_irrefl)
  trans := fun x y z h1 h2 => by
    unfold ltOf cmpF at *
    have a := (cmpQ_lt _ _).1 (of_decide_eq_true h1)
    have b := (cmpQ_lt _ _).1 (of_decide_eq_true h2)
    exact decide_eq_true ((cmpQ_lt _ _).2 (by grind))
  ntrans := fun x y z h1 h2 => by
    unfold ltOf cmpF at *
    have a := fun h => of_decide_eq_false h1 ((cmpQ_lt _ _).2 h)
    have b := fun h => of_decide_eq_false h2 ((cmpQ_lt _ _).2 h)
    exact decide_eq_false (fun h => by
      have c := (cmpQ_lt _ _).1 h
      have a' := Rat.not_lt.1 a
      have b' := Rat.not_lt.1 b
      grind)
theorem flat_get (d : Array FQ) (j : Nat) (hj : j < d.size * 2) : (frsC (d.toList.map (·.1)))[j]? = some ((flatK encQ 2 d)[j]!) := by
  have hlen : (d.toList.map (·.1)).length = d.size := by simp
  have hi : j / 2 < d.size := by omega
  have hg := frsC_get (d.toList.map (·.1)) (j / 2) (by omega)
  have hd : (d.toList.map (·.1)).getD (j / 2) 0 = (d[j / 2]!).1 := by
    rw [List.getD_eq_getElem?_getD, List.getElem?_eq_getElem (by omega), getElem!_pos d (j / 2) hi]
    simp
  rw [hd] at hg
  have hlt : j < (frsC (d.toList.map (·.1))).length := by rw [frsC_len, hlen]; exact hj
  rw [get_flatK _ _ _ _ hj]
  have h2 : j % 2 = 0 ∨ j % 2 = 1 := by omega
  have hjd : (frsC (d.toList.map (·.1))).getD j undef = (encQ (d[j / 2]!))[j % 2]! := by
    rcases h2 with h | h
    · rw [show j = j / 2 * 2 by omega, hg.1, show j / 2 * 2 / 2 = j / 2 by omega, show j / 2 * 2 % 2 = 0 by omega]
      rfl
    · rw [show j = j / 2 * 2 + 1 by omega, hg.2, show (j / 2 * 2 + 1) / 2 = j / 2 by omega, show (j / 2 * 2 + 1) % 2 = 1 by omega]
      rfl
  rw [← hjd, List.getD_eq_getElem?_getD, List.getElem?_eq_getElem hlt]
  rfl
theorem holds_row {w : World} {g : Nat} {d : Array FQ} : HoldsK encQ 2 w g 0 d ↔ QRow w g (d.toList.map (·.1)) := by
  have hlen : (frsC (d.toList.map (·.1))).length = d.size * 2 := by rw [frsC_len]; simp
  constructor
  · intro h j u hj
    have hlt : j < d.size * 2 := by
      have := (List.getElem?_eq_some_iff.1 hj).1
      omega
    rw [flat_get d j hlt] at hj
    have h2 := h j (by rw [size_flatK]; exact hlt)
    rw [show u = _ from (Option.some.inj hj).symm]
    exact h2
  · intro h j hj
    rw [size_flatK] at hj
    exact h j _ (flat_get d j hj)
theorem sortWorld_below {B : Nat} {w : World} {g n : Nat} {d : Array FQ} {os : Array Obj} (hg : B ≤ g) (hs : B ≤ w.heap.size) : Go.RowKit.Below B w (sortWorldK encQ 2 w g 0 n d os) := by
  refine ⟨rfl, rfl, rfl, size_sortWorldK_c encQ 2 w g 0 n d os, fun k hk => ?_⟩
  unfold sortWorldK grow
  show ((putRowK encQ 2 (Sort.ahead w n) g 0 d).heap ++ os)[k]? = _
  have hz : (putRowK encQ 2 (Sort.ahead w n) g 0 d).heap.size = w.heap.size := by
    unfold putRowK
    rw [Sort.size_putRow]
    rfl
  rw [Array.getElem?_append_left (by rw [hz]; omega)]
  show (w.heap.modify g _)[k]? = _
  rw [Array.getElem?_modify, if_neg (by omega)]
theorem cmp_lays (w : World) (g size : Nat) : CmpLays Tryz.prog 57 #[] encQ 2 cmpF g 0 size w := fun _ _ _ _ x y =>
  (order_g x.1 y.1 x.2 y.2 _).mono fun _ _ ⟨he, q, os', hw⟩ => ⟨he, q, os', hw⟩

structure SortR (l : List Rat) (g : Nat) (r : Ending) (w' : World) : Prop where
  out : r = .returned (.tuple #[]) ∧ ∃ d, d.Perm l ∧ (∀ i j, i ≤ j → j < d.length → d.getD i 0 ≤ d.getD j 0) ∧ QRow w' g d

theorem sort_any (l : List Rat) (B g n cap : Nat) (w : World) (hn : l.length = n) (hn2 : n ≤ 1000) (hf : ∀ q ∈ l, fits q) (hgB : B ≤ g) (hgs : g < w.heap.size) (hR : QRow w g l) :
    Calls Tryz.prog 77 #[.slice (some ⟨g, 0, none⟩) n cap, .func (.func 57) #[] #[]] w fun r w' => SortR l g r w' ∧ Go.RowKit.Below B w w' := by
  have hd : ((l.attachWith fits hf).toArray.toList.map (·.1)) = l := by simp
  have hsz : (l.attachWith fits hf).toArray.size = n := by simpa using hn
  generalize (l.attachWith fits hf).toArray = d at hd hsz
  have hH : HoldsK encQ 2 w g 0 d := holds_row.2 (by rw [hd]; exact hR)
  have hs := AnyQ.slices_SortFunc (P := Tryz.prog) Tryz.laysSort 2 Tryz.isAgg31 Tryz.sizeOf31 encQ (fun x => rfl) (fun x v hv => by
    unfold encQ frC at hv
    simp at hv
    rcases hv with rfl | rfl <;> rfl) cmpF swo_F 57 #[] g 0 cap d w (enters_of Tryz.func57 (by kernel_rfl) rfl) (cmp_lays w g d.size) hH hgs (by omega)
  rw [hsz] at hs
  refine hs.mono ?_
  rintro r w' ⟨rfl, d', m, os, hp, hso, rfl⟩
  refine ⟨⟨rfl, d'.toList.map (·.1), ?_, ?_, ?_⟩, sortWorld_below hgB (by omega)⟩
  · obtain ⟨h1, -, h3⟩ := hp
    have e1 : d'.extract 0 n = d' := by rw [← hsz, ← h1]; simp
    have e2 : d.extract 0 n = d := by rw [← hsz]; simp
    rw [e1, e2] at h3
    rw [← hd]
    exact h3.map _
  · intro i j hij hj
    have hj2 : j < d'.size := by simpa using hj
    have hz : d'.size = n := hp.1.trans hsz
    have e : ∀ k, k < d'.size → (d'.toList.map (·.1)).getD k 0 = (d'[k]!).1 := by
      intro k hk
      rw [List.getD_eq_getElem?_getD, List.getElem?_eq_getElem (by simpa using hk), getElem!_pos d' k hk]
      simp
    by_cases hij2 : i = j
    · rw [hij2]; exact Rat.le_refl
    · rw [e i (by omega), e j hj2]
      have h := hso i j (Nat.zero_le _) (by omega) (by omega)
      unfold ltOf cmpF at h
      exact Rat.not_lt.1 (fun hh => of_decide_eq_false h ((cmpQ_lt _ _).2 hh))
  · exact holds_row.1 (holdsK_sortWorldK_c encQ 2 w g 0 d d' m os hH hgs (by rw [hp.1]))

end Go.Proofs.YtfkclcoipadhmaaGreatDoor

/- Walk of curve.merged. -/
namespace Go.Proofs.YtfkclcoipadhmaaGreatDoor
open Go.RowKit
attribute [local irreducible] seqS seqST walkV walkJ

structure MergR (w : World) (l0 : List Rat) (m : Rat) (r : Ending) (w' : World) : Prop where
  out : ∃ v l, r = .returned v ∧ QsR w.heap.size w' v l ∧ GridOf l l0 m ∧ l.length ≤ l0.length
theorem row_sl {lo : Nat} {w : World} {g n cap : Nat} {l : List Rat} (h : QRow w g l) (hn : l.length = n) (hlo : lo ≤ g) (hg : g < w.heap.size) (hc : n ≤ cap) (hm : cap ≤ maxLen) : QsR lo w (.slice (some ⟨g, 0, none⟩) n cap) l := by
  unfold QsR
  refine ⟨_, cap, by rw [hn], by omega, hm, fun _ => ⟨g, 0, rfl, hlo, hg, fun j hj => ?_⟩⟩
  exact (h j _ (getD_some hj)).1
theorem ddTo_len (l : List Rat) (j : Nat) : (ddTo l j).length ≤ j := by
  unfold ddTo
  rw [List.length_map]
  exact Nat.le_trans (List.length_filter_le _ _) (by simp)
theorem getD_memQ {l : List Rat} {i : Nat} (hi : i < l.length) : l.getD i 0 ∈ l := by
  rw [List.getD_eq_getElem?_getD, List.getElem?_eq_getElem hi]
  exact List.getElem_mem hi
theorem map_step (F : Pt → Rat) {A : List Pt} {i : Nat} (hi : i < A.length) : (A.take (i + 1)).map F = (A.take i).map F ++ [F (A.getD i (0, 0))] := by
  rw [List.take_succ_eq_append_getElem hi, List.map_append, List.getD_eq_getElem?_getD, List.getElem?_eq_getElem hi]
  rfl
/-- A function of a point's, as merged calls it. -/
structure FunPt (f : FuncId) (X : Pt → Rat) : Prop where
  enter : ∀ args w, (callFunc f args).run Tryz.prog w = .ok (.enter f args) w
  call : ∀ p w, Calls Tryz.prog f #[ptQ p] w fun r w' => r = .returned (frQ (X p)) ∧ Below w.heap.size w w'

set_option maxHeartbeats 8000000 in
set_option maxRecDepth 100000 in
theorem merged_any (A C : List Pt) (fx fy : FuncId) (X Y : Pt → Rat) (m : Rat) (va vc : Value) (w : World) (hA : PsR 0 w va A) (hC : PsR 0 w vc C) (hA1 : 1 ≤ A.length) (hA2 : A.length ≤ 48) (hC2 : C.length ≤ 48)
    (hX : FunPt fx X) (hY : FunPt fy Y) (hfX : ∀ i, i < A.length → fits (X (A.getD i (0, 0)))) (hfY : ∀ i, i < C.length → fits (Y (C.getD i (0, 0)))) (hm : fits m) :
    Calls Tryz.prog 51 #[va, vc, .func (.func fx) #[] #[], .func (.func fy) #[] #[], frQ m] w fun r w' => MergR w (A.map X ++ C.map Y) m r w' ∧ Below w.heap.size w w' := by
  have eX := hX.enter
  have eY := hY.enter
  have HX := hid hX.call
  have HY := hid hY.call
  clear hX hY
  have hfall : ∀ q ∈ A.map X ++ C.map Y, fits q := by
    intro q hq
    rcases List.mem_append.1 hq with h | h
    · obtain ⟨p, hp, rfl⟩ := List.mem_map.1 h
      obtain ⟨i, hi, rfl⟩ := List.mem_iff_getElem.1 hp
      have := hfX i hi
      rwa [List.getD_eq_getElem?_getD, List.getElem?_eq_getElem hi] at this
    · obtain ⟨p, hp, rfl⟩ := List.mem_map.1 h
      obtain ⟨i, hi, rfl⟩ := List.mem_iff_getElem.1 hp
      have := hfY i hi
      rwa [List.getD_eq_getElem?_getD, List.getElem?_eq_getElem hi] at this
  have HFA := hid hfall
  obtain ⟨aa, ca, rfl, hca, hma, hAA⟩ := hA
  obtain ⟨ac, cc, rfl, hcc, hmc, hCC⟩ := hC
  unfold maxLen at hma hmc
  have HAA := hid hAA
  have HCC := hid hCC
  obtain ⟨LA, hLA⟩ : ∃ L, A.length = L := ⟨_, rfl⟩
  obtain ⟨LC, hLC⟩ : ∃ L, C.length = L := ⟨_, rfl⟩
  rw [hLA] at hca hA1 hA2 ⊢
  rw [hLC] at hcc hC2 ⊢
  have HLA := hid hLA
  have HLC := hid hLC
  have HM := hid hm
  clear hLA hLC hAA hCC hfX hfY hfall hm
  unfold frQ ptQ at HX HY
  unfold frQ
  obtain ⟨w0, hw0⟩ : ∃ w0, w.alloc (.cells #[.int .i64 m.num, .int .i64 (m.den : Int)] 31) = w0 := ⟨_, rfl⟩
  have km := Blk.new w #[.int .i64 m.num, .int .i64 (m.den : Int)] 31
  have b0 := alloc_below w (.cells #[.int .i64 m.num, .int .i64 (m.den : Int)] 31)
  obtain ⟨S, hS⟩ : ∃ S, w.heap.size = S := ⟨_, rfl⟩
  rw [hw0] at km b0
  rw [hS] at km b0
  have HW0 := hid hw0
  have HS := hid hS
  have KM := hid km
  have hs0 : S + 1 ≤ w0.heap.size := km.lt
  clear km
  go_enter Tryz.func51, Tryz.ntmps51
  go_wp2_with fail
  clear hw0 hS
  go_loopw [11, 18] (fun y x wr => ∃ i : Nat, x = .int .i64 i ∧ i ≤ LA ∧ Hid (wr.ownsRow (S + 1) 31 2 y i (frsC ((A.take i).map X))) ∧ Below (S + 1) w0 wr) (fun _ x _ => LA - (intOf x).toNat)
  case atStart => exact ⟨0, rfl, Nat.zero_le _, hid (World.ownsRow_nil _ _ _ _), Below.refl _ _⟩
  case round =>
    obtain ⟨i, rfl, hi, HO, hbel⟩ := hrel
    have hbW : Below S w wr := b0.trans (hbel.mono (Nat.le_succ S))
    have hsr : S + 1 ≤ wr.heap.size := Nat.le_trans hs0 hbel.size
    by_cases hiL : i < LA
    · have hi2 : (i : Int) < (LA : Int) := by omega
      obtain ⟨b, off, rfl, hb, x0, x1, x2, x3⟩ := p_cell HAA.out (show i < A.length by rw [HLA.out]; exact hiL)
      rw [HS.out] at hb
      replace x0 := (hbW.cell (p := ⟨b, off + i * 4, none⟩) hb).trans x0
      replace x1 := (hbW.cell (p := ⟨b, off + i * 4 + 1, none⟩) hb).trans x1
      replace x2 := (hbW.cell (p := ⟨b, off + i * 4 + 2, none⟩) hb).trans x2
      replace x3 := (hbW.cell (p := ⟨b, off + i * 4 + 3, none⟩) hb).trans x3
      have hst := map_step X (show i < A.length by rw [HLA.out]; exact hiL)
      have CX := hid (fun w => HX.out (A.getD i (0, 0)) w)
      obtain ⟨P, hP⟩ : ∃ P, A.getD i (0, 0) = P := ⟨_, rfl⟩
      rw [hP] at x0 x1 x2 x3 hst CX
      obtain ⟨q, hq⟩ : ∃ q, X P = q := ⟨_, rfl⟩
      rw [hq] at hst CX
      have HST := hid hst
      clear hst hP hq
      go_wp2_with fail
      have bA := alloc_below wr (.cells #[.int .i64 P.1.num, .int .i64 (P.1.den : Int), .int .i64 P.2.num, .int .i64 (P.2.den : Int)] 44)
      refine (CX.out _).mono ?_
      rintro r w1 ⟨rfl, hb1⟩
      have hb1' := bA.trans (hb1.mono bA.size)
      have HO1 := hid (owns_below HO.out hb1')
      have hbel1 := hbel.trans (hb1'.mono hsr)
      have hs1 : S + 1 ≤ w1.heap.size := Nat.le_trans hsr hb1'.size
      clear hb1 hb1' bA x0 x1 x2 x3
      go_wp2_with (first
        | (at_builtin; refine wpList_app rfl (.tmp 22) (.tmp 26) _ rfl (S + 1) 31 (frV 0 0) 2 16 Tryz.underlying37 infoFrac rfl (by decide) 31 _ _ _ rfl HO1.out [.int .i64 q.num, .int .i64 (q.den : Int)] rfl rfl (by simp [Value.oneCell']) (by unfold maxLen; omega) (by omega) (by omega) ?_; intro g5 gcap w5 ho5 hb5 _ _ _))
      go_roundw
      case rel =>
        refine ⟨i + 1, by go_num, by omega, ?_, hbel1.trans hb5⟩
        rw [HST.out, frsC_append]
        exact hid ho5
      case measure => simp [intOf]; omega
    · obtain rfl : LA = i := by omega
      have hi2 : ¬ (LA : Int) < (LA : Int) := by omega
      go_wp2_with fail
      have HOA : Hid (wr.ownsRow (S + 1) 31 2 u11 LA (frsC (A.map X))) := hid (by
        have h := HO.out
        rwa [List.take_of_length_le (by rw [HLA.out]; omega)] at h)
      clear HO hi
      obtain ⟨wa, hwa⟩ : ∃ W, wr = W := ⟨_, rfl⟩
      rw [hwa] at HOA hbel hbW hsr ⊢
      clear hwa
      go_loopw [11, 31] (fun y x wr => ∃ i : Nat, x = .int .i64 i ∧ i ≤ LC ∧ Hid (wr.ownsRow (S + 1) 31 2 y (LA + i) (frsC (A.map X ++ (C.take i).map Y))) ∧ Below (S + 1) w0 wr) (fun _ x _ => LC - (intOf x).toNat)
      case atStart => exact ⟨0, rfl, Nat.zero_le _, hid (by simpa using HOA.out), hbel⟩
      case round =>
        clear hbW hsr HOA hbel
        obtain ⟨i, rfl, hi, HO, hbel⟩ := hrel
        have hbW : Below S w wr := b0.trans (hbel.mono (Nat.le_succ S))
        have hsr : S + 1 ≤ wr.heap.size := Nat.le_trans hs0 hbel.size
        by_cases hiL : i < LC
        · have hi2 : (i : Int) < (LC : Int) := by omega
          obtain ⟨b, off, rfl, hb, x0, x1, x2, x3⟩ := p_cell HCC.out (show i < C.length by rw [HLC.out]; exact hiL)
          rw [HS.out] at hb
          replace x0 := (hbW.cell (p := ⟨b, off + i * 4, none⟩) hb).trans x0
          replace x1 := (hbW.cell (p := ⟨b, off + i * 4 + 1, none⟩) hb).trans x1
          replace x2 := (hbW.cell (p := ⟨b, off + i * 4 + 2, none⟩) hb).trans x2
          replace x3 := (hbW.cell (p := ⟨b, off + i * 4 + 3, none⟩) hb).trans x3
          have hst := map_step Y (show i < C.length by rw [HLC.out]; exact hiL)
          have CX := hid (fun w => HY.out (C.getD i (0, 0)) w)
          obtain ⟨P, hP⟩ : ∃ P, C.getD i (0, 0) = P := ⟨_, rfl⟩
          rw [hP] at x0 x1 x2 x3 hst CX
          obtain ⟨q, hq⟩ : ∃ q, Y P = q := ⟨_, rfl⟩
          rw [hq] at hst CX
          have HST := hid hst
          clear hst hP hq
          go_wp2_with fail
          have bA := alloc_below wr (.cells #[.int .i64 P.1.num, .int .i64 (P.1.den : Int), .int .i64 P.2.num, .int .i64 (P.2.den : Int)] 44)
          refine (CX.out _).mono ?_
          rintro r w1 ⟨rfl, hb1⟩
          have hb1' := bA.trans (hb1.mono bA.size)
          have HO1 := hid (owns_below HO.out hb1')
          have hbel1 := hbel.trans (hb1'.mono hsr)
          have hs1 : S + 1 ≤ w1.heap.size := Nat.le_trans hsr hb1'.size
          clear hb1 hb1' bA x0 x1 x2 x3
          go_wp2_with (first
            | (at_builtin; refine wpList_app rfl (.tmp 35) (.tmp 39) _ rfl (S + 1) 31 (frV 0 0) 2 16 Tryz.underlying37 infoFrac rfl (by decide) 31 _ _ _ rfl HO1.out [.int .i64 q.num, .int .i64 (q.den : Int)] rfl rfl (by simp [Value.oneCell']) (by unfold maxLen; omega) (by omega) (by omega) ?_; intro g5 gcap w5 ho5 hb5 _ _ _))
          go_roundw
          case rel =>
            refine ⟨i + 1, by go_num, by omega, ?_, hbel1.trans hb5⟩
            rw [HST.out, ← List.append_assoc, frsC_append]
            exact hid ho5
          case measure => simp [intOf]; omega
        · obtain rfl : LC = i := by omega
          have hi2 : ¬ (LC : Int) < (LC : Int) := by omega
          obtain ⟨n, hn⟩ : ∃ n, LA + LC = n := ⟨_, rfl⟩
          have hn1 : 1 ≤ n := by omega
          have hn2 : n ≤ 1000 := by omega
          obtain ⟨l, hl⟩ : ∃ l, A.map X ++ C.map Y = l := ⟨_, rfl⟩
          have HO2 := HO.out
          rw [List.take_of_length_le (by rw [HLC.out]; omega), hl, hn] at HO2
          have hln : l.length = n := by rw [← hl, List.length_append, List.length_map, List.length_map, HLA.out, HLC.out, hn]
          have HFL : Hid (∀ q ∈ l, fits q) := hid (by rw [← hl]; exact HFA.out)
          obtain ⟨g, cap, rfl, hg, hcn, hcm⟩ : ∃ g cap, u11 = .slice (some ⟨g, 0, none⟩) n cap ∧ S + 1 ≤ g ∧ n ≤ cap ∧ cap ≤ maxLen := by
            obtain ⟨-, ⟨-, h0⟩ | ⟨g, cap, cur, hv, hg, -, h1, h2, -, -⟩⟩ := HO2
            · omega
            · exact ⟨g, cap, hv, hg, h1, h2⟩
          have kmr : Blk wr S #[.int .i64 m.num, .int .i64 (m.den : Int)] 31 := KM.out.below' hbel (Nat.lt_succ_self S)
          have DE := hid (deleteOver_any l m S (S + 1) g n cap wr hln hn1 hn2 HO2 (fun i hi => HFL.out _ (getD_memQ hi)) HM.out (Nat.lt_succ_self S) kmr)
          obtain ⟨-, -, -, hgs⟩ := owns_block HO2
          have HLN := hid hln
          have HL := hid hl
          clear HO HO2 hi hn hln hl HAA HCC HLA HLC hca hcc eX eY HX HY kmr hi2 hiL
          go_wp2_with fail
          refine DE.out.mono ?_
          rintro r w1 ⟨⟨F, hF, rfl, hQF⟩, hb1⟩
          have hgs1 : g < w1.heap.size := Nat.lt_of_lt_of_le hgs hb1.size
          have hbel1 := hbel.trans hb1
          have HFm : Hid (∀ x, x ∈ F ↔ x ∈ l ∧ x ≤ m) := hid (fun x => by rw [hF, List.mem_filter, decide_eq_true_eq])
          have hFn : F.length ≤ n := by rw [hF, ← HLN.out]; exact List.length_filter_le _ _
          obtain ⟨f, hf⟩ : ∃ f, F.length = f := ⟨_, rfl⟩
          have SO := hid (sort_any F (S + 1) g F.length cap w1 rfl (by omega) (fun q hq => HFL.out q ((HFm.out q).1 hq).1) hg hgs1 hQF)
          rw [hf] at SO hFn ⊢
          have HFF := hid hf
          clear hF hQF hb1 hbel DE hf
          go_wp2_with fail
          refine SO.out.mono ?_
          rintro r w2 ⟨⟨rfl, d, hp, hso, hQd⟩, hb2⟩
          have hgs2 : g < w2.heap.size := Nat.lt_of_lt_of_le hgs1 hb2.size
          have hbel2 := hbel1.trans hb2
          have hdn : d.length = f := by rw [hp.length_eq]; exact HFF.out
          have CO := hid (Compact_any d (S + 1) g f cap w2 hdn (by omega) (by omega) hcm hg hgs2 hQd)
          have HDM : Hid (∀ x, x ∈ d ↔ x ∈ l ∧ x ≤ m) := hid (fun x => by rw [hp.mem_iff]; exact HFm.out x)
          have HSO := hid hso
          have HDN := hid hdn
          clear SO hb2 hp hso hQd hdn hbel1
          go_wp2_with fail
          refine CO.out.mono ?_
          rintro r w3 ⟨⟨G, hG, rfl, hQG⟩, hb3⟩
          have hgs3 : g < w3.heap.size := Nat.lt_of_lt_of_le hgs2 hb3.size
          have hbel3 := hbel2.trans hb3
          have hGl : G.length ≤ f := by rw [hG]; exact Nat.le_trans (ddTo_len _ _) (by rw [HDN.out]; exact Nat.le_refl _)
          have hgrid : GridOf G l m := by
            obtain ⟨h1, h2⟩ := dd_grid HSO.out d.length (Nat.le_refl _)
            rw [← hG] at h1 h2
            refine ⟨h1, fun x => ?_⟩
            rw [h2 x, List.take_of_length_le (Nat.le_refl _)]
            exact HDM.out x
          have HG := hid hgrid
          have HQ : Hid (QsR w.heap.size w3 (.slice (some ⟨g, 0, none⟩) G.length cap) G) := hid (row_sl hQG rfl (by rw [HS.out]; omega) hgs3 (by omega) hcm)
          have HB : Hid (Below w.heap.size w w3) := hid (by rw [HS.out]; exact b0.trans (hbel3.mono (Nat.le_succ S)))
          have HGL : Hid (G.length ≤ l.length) := hid (by rw [HLN.out]; omega)
          obtain ⟨gl, hgl⟩ : ∃ n, G.length = n := ⟨_, rfl⟩
          rw [hgl] at HQ ⊢
          clear hG hQG hb3 CO hgrid hGl hbel2 hbel3 b0 hgl
          go_wp2
          go_ret
          exact ⟨⟨_, G, rfl, HQ.out, by rw [HL.out]; exact HG.out, by rw [HL.out]; exact HGL.out⟩, HB.out⟩

end Go.Proofs.YtfkclcoipadhmaaGreatDoor

/- The common grid of two curves; walk of curve.common. -/
namespace Go.Proofs.YtfkclcoipadhmaaGreatDoor
open Go.RowKit
attribute [local irreducible] seqS seqST walkV walkJ

/-- The grid: the members that are at most m, rising. -/
def gridQ (l : List Rat) (m : Rat) : List Rat :=
  let s := (l.filter fun q => decide (q ≤ m)).mergeSort (fun a b => decide (a ≤ b))
  ddTo s s.length
theorem gridQ_grid (l : List Rat) (m : Rat) : GridOf (gridQ l m) l m := by
  unfold gridQ
  obtain ⟨s, hs⟩ : ∃ s, (l.filter fun q => decide (q ≤ m)).mergeSort (fun a b => decide (a ≤ b)) = s := ⟨_, rfl⟩
  have hp : s.Perm (l.filter fun q => decide (q ≤ m)) := by rw [← hs]; exact List.mergeSort_perm _ _
  have hso : s.Pairwise (fun a b => decide (a ≤ b) = true) := by
    rw [← hs]
    exact List.pairwise_mergeSort (le := fun a b => decide (a ≤ b)) (fun a b c h1 h2 => by
      have h1 := of_decide_eq_true h1
      have h2 := of_decide_eq_true h2
      exact decide_eq_true (by grind)) (fun a b => by
      rcases Rat.le_total (a := a) (b := b) with h | h
      · rw [decide_eq_true h]; rfl
      · rw [decide_eq_true h]; simp) _
  show GridOf (let s := _; ddTo s s.length) l m
  rw [hs]
  have hle : ∀ i j, i ≤ j → j < s.length → s.getD i 0 ≤ s.getD j 0 := by
    intro i j hij hj
    by_cases he : i = j
    · rw [he]; exact Rat.le_refl
    · have := List.pairwise_iff_getElem.1 hso i j (by omega) hj (by omega)
      rw [List.getD_eq_getElem?_getD, List.getD_eq_getElem?_getD, List.getElem?_eq_getElem (by omega), List.getElem?_eq_getElem hj]
      exact of_decide_eq_true this
  obtain ⟨h1, h2⟩ := dd_grid hle s.length (Nat.le_refl _)
  refine ⟨h1, fun x => ?_⟩
  rw [h2 x, List.take_of_length_le (Nat.le_refl _), hp.mem_iff, List.mem_filter, decide_eq_true_eq]
theorem gridQ_of {l l0 : List Rat} {m : Rat} (h : GridOf l l0 m) : l = gridQ l0 m := grid_unique h (gridQ_grid l0 m) (fun _ => Iff.rfl)

def lesQ (a b : Rat) : Rat := if b < a then b else a
def endQ (C : List Pt) : Pt := C.getD (C.length - 1) (0, 0)
/-- The X of two curves on their common domain. -/
def comG (A C : List Pt) : List Rat := gridQ (A.map (·.1) ++ C.map (·.1)) (lesQ (endQ A).1 (endQ C).1)
def comE (c d : List P4) : Int := if RV c ∧ RV d then (if 48 < (comG (toQ c) (toQ d)).length then 3 else 0) else 2
def comL (c d : List P4) : List Rat := if comE c d = 0 then comG (toQ c) (toQ d) else []
theorem field_x (a b c d : Int) (w : World) : (Instr.field 44 (.agg #[.int .i64 a, .int .i64 b, .int .i64 c, .int .i64 d]) 0).run Tryz.prog w = .ok (.agg #[.int .i64 a, .int .i64 b]) w := by
  simp [Instr.field, go_sem, asAgg, Result.andThen]
theorem field_y (a b c d : Int) (w : World) : (Instr.field 44 (.agg #[.int .i64 a, .int .i64 b, .int .i64 c, .int .i64 d]) 1).run Tryz.prog w = .ok (.agg #[.int .i64 c, .int .i64 d]) w := by
  simp [Instr.field, go_sem, asAgg, Result.andThen]
theorem fun_x : FunPt 52 (·.1) := ⟨enters_of Tryz.func52 (by kernel_rfl) rfl, abscissa_any⟩
theorem lesQ_fits {a b : Rat} (ha : fits a) (hb : fits b) : fits (lesQ a b) := by
  unfold lesQ
  by_cases h : b < a
  · rw [if_pos h]; exact hb
  · rw [if_neg h]; exact ha

set_option maxHeartbeats 8000000 in
set_option maxRecDepth 100000 in
theorem common_any (c d : List P4) (vc vd : Value) (w : World) (hc : P4R 0 w vc c) (hd : P4R 0 w vd d) (hz : Z0 w) :
    Calls Tryz.prog 36 #[vc, vd] w fun r w' => (∃ vl, r = .returned (.tuple #[vl, .int .i64 (comE c d)]) ∧ QsR w.heap.size w' vl (comL c d)) ∧ Below w.heap.size w w' := by
  have VC := hid (cValid_any c vc w hc hz)
  have VD := hid (fun w h hz => cValid_any d vd w h hz)
  obtain ⟨E, hE⟩ : ∃ E, comE c d = E := ⟨_, rfl⟩
  obtain ⟨R, hR⟩ : ∃ R, comL c d = R := ⟨_, rfl⟩
  rw [hE, hR]
  have HE := hid hE
  have HR := hid hR
  have HRR : Hid (E ≠ 0 → R = []) := hid (fun h => by rw [← hR]; unfold comL; rw [hE]; exact if_neg h)
  clear hE hR
  obtain ⟨ac, cc, rfl, -⟩ := id hc
  obtain ⟨ad, cd, rfl, -⟩ := id hd
  go_enter Tryz.func36, Tryz.ntmps36
  go_wp2_with fail
  refine VC.out.mono ?_
  rintro r w1 ⟨rfl, hb1⟩
  by_cases hrc : RV c
  case neg =>
    rw [decide_eq_false hrc]
    have e1 : E = 2 := by rw [← HE.out]; exact if_neg (fun h => hrc h.1)
    have e2 : R = [] := HRR.out (by omega)
    subst e1 e2
    go_wp2
    go_ret2
    exact ⟨⟨_, rfl, SlR.nil _ _⟩, hb1⟩
  rw [decide_eq_true hrc]
  have HC := hid hrc
  have hc1 := hc.below hb1
  have hd1 := hd.below hb1
  have hz1 := hz.below hb1
  clear hrc hc hd hz VC
  go_wp2_with fail
  refine (VD.out _ hd1 hz1).mono ?_
  rintro r w2 ⟨rfl, hb2⟩
  have hB2 := hb1.trans (hb2.mono hb1.size)
  by_cases hrd : RV d
  case neg =>
    rw [decide_eq_false hrd]
    have e1 : E = 2 := by rw [← HE.out]; exact if_neg (fun h => hrd h.2)
    have e2 : R = [] := HRR.out (by omega)
    subst e1 e2
    go_wp2
    go_ret2
    exact ⟨⟨_, rfl, SlR.nil _ _⟩, hB2⟩
  rw [decide_eq_true hrd]
  have qc := (P4R.toQ hc1 HC.out).below hb2
  have qd := (P4R.toQ hd1 hrd).below hb2
  have vc := rv_cv HC.out
  have vd := rv_cv hrd
  have lc := toQ_len c
  have ld := toQ_len d
  have e1 : comE c d = if 48 < (comG (toQ c) (toQ d)).length then 3 else 0 := if_pos ⟨HC.out, hrd⟩
  have e2 : comE c d = 0 → comL c d = comG (toQ c) (toQ d) := fun h => if_pos h
  generalize toQ c = C at qc vc lc e1 e2
  generalize toQ d = D at qd vd ld e1 e2
  rw [HE.out] at e1 e2
  rw [HR.out] at e2
  rw [← lc] at qc ⊢
  rw [← ld] at qd ⊢
  have EC := hid (end_any C _ w2 qc (by have := vc.two; omega) vc.most)
  have ED := hid (fun w h => end_any D (.slice ad D.length cd) w h (by have := vd.two; omega) vd.most)
  obtain ⟨PC, hPC⟩ : ∃ p, C.getD (C.length - 1) (0, 0) = p := ⟨_, rfl⟩
  obtain ⟨PD, hPD⟩ : ∃ p, D.getD (D.length - 1) (0, 0) = p := ⟨_, rfl⟩
  have fc : fits PC.1 := by rw [← hPC]; exact (vc.fit _ (by have := vc.two; omega)).1
  have fd : fits PD.1 := by rw [← hPD]; exact (vd.fit _ (by have := vd.two; omega)).1
  have LS := hid (fun w => lesser_any PC.1 PD.1 fc fd w)
  have hls : (if PD.1 < PC.1 then PD.1 else PC.1) = lesQ (endQ C).1 (endQ D).1 := by unfold lesQ endQ; rw [hPC, hPD]
  have hlf : fits (lesQ (endQ C).1 (endQ D).1) := by rw [← hls]; exact lesQ_fits fc fd
  rw [hls] at LS
  rw [hPC] at EC
  rw [hPD] at ED
  have eG : comG C D = gridQ (C.map (·.1) ++ D.map (·.1)) (lesQ (endQ C).1 (endQ D).1) := rfl
  have ME := hid (fun w h1 h2 => merged_any C D 52 52 (·.1) (·.1) (lesQ (endQ C).1 (endQ D).1) (.slice ac C.length cc) (.slice ad D.length cd) w h1 h2 (by have := vc.two; omega) vc.most vd.most fun_x fun_x (fun i hi => (vc.fit i hi).1) (fun i hi => (vd.fit i hi).1) hlf)
  have HGR : Hid (∀ l, GridOf l (C.map (·.1) ++ D.map (·.1)) (lesQ (endQ C).1 (endQ D).1) → l = comG C D) := hid (fun l h => by rw [eG]; exact gridQ_of h)
  generalize lesQ (endQ C).1 (endQ D).1 = M at LS ME HGR
  have HE1 := hid e1
  have HE2 := hid e2
  clear e1 e2 eG hls hlf hPC hPD fc fd vc vd lc ld HE HR VD
  unfold ptQ at EC ED
  unfold frQ at LS ME
  have hfx := field_x
  go_wp2_with fail
  refine EC.out.mono ?_
  rintro r w3 ⟨rfl, hb3⟩
  have qc3 := qc.below hb3
  have qd3 := qd.below hb3
  have hB3 := hB2.trans (hb3.mono hB2.size)
  clear EC qc qd hB2 hb3 hb2 hb1 hc1 hd1 hz1 hrd HC
  go_wp2_with fail
  refine (ED.out _ qd3).mono ?_
  rintro r w4 ⟨rfl, hb4⟩
  have qc4 := qc3.below hb4
  have qd4 := qd3.below hb4
  have hB4 := hB3.trans (hb4.mono hB3.size)
  clear ED qc3 qd3 hB3 hb4
  go_wp2_with fail
  refine (LS.out _).mono ?_
  rintro r w5 ⟨rfl, hb5⟩
  have qc5 := qc4.below hb5
  have qd5 := qd4.below hb5
  have hB5 := hB4.trans (hb5.mono hB4.size)
  clear LS qc4 qd4 hB4 hb5
  go_wp2_with fail
  refine (ME.out _ qc5 qd5).mono ?_
  rintro r w6 ⟨⟨v, l, rfl, hq, hg, -⟩, hb6⟩
  have hB6 := hB5.trans (hb6.mono hB5.size)
  have hq6 := QsR.mono hq hB5.size
  obtain rfl := HGR.out l hg
  clear ME hg hb6 hB5 hq HGR qc5 qd5
  obtain ⟨G, hG⟩ : ∃ G, comG C D = G := ⟨_, rfl⟩
  rw [hG] at hq6 HE1 HE2
  obtain ⟨ag, cg, rfl, -⟩ := id hq6
  obtain ⟨n, hn⟩ : ∃ n, G.length = n := ⟨_, rfl⟩
  rw [hn] at HE1
  have HQ := hid hq6
  rw [hn] at HQ ⊢
  clear hq6 hG
  by_cases h48 : 48 < n
  · have h48i : (48 : Int) < (n : Int) := by omega
    have e1 : E = 3 := by rw [HE1.out]; exact if_pos h48
    have e2 : R = [] := HRR.out (by omega)
    subst e1 e2
    clear hn
    go_wp2
    go_ret2
    exact ⟨⟨_, rfl, SlR.nil _ _⟩, hB6⟩
  · have h48i : ¬ (48 : Int) < (n : Int) := by omega
    have e1 : E = 0 := by rw [HE1.out]; exact if_neg h48
    have e2 := HE2.out e1
    subst e1 e2
    clear hn
    go_wp2
    go_ret2
    exact ⟨⟨_, rfl, HQ.out⟩, hB6⟩

end Go.Proofs.YtfkclcoipadhmaaGreatDoor

/- Walk of curve.made. -/
namespace Go.Proofs.YtfkclcoipadhmaaGreatDoor
open Go.RowKit
attribute [local irreducible] seqS seqST walkV walkJ

/-- What made hands back. -/
def madE (f : Rat → Option Pt) (l : List Rat) : Int := match ptsO f l l.length with | some o => slpE (ofQ o) | none => 5
def madL (f : Rat → Option Pt) (l : List Rat) : List Pt := match ptsO f l l.length with | some o => nrmL (ofQ o) | none => []
/-- A point's function, as made calls it. -/
structure PtFun (fp : FuncId) (cb : Array Value) (f : Rat → Option Pt) (l : List Rat) (w : World) : Prop where
  enter : ∀ args w, (callFunc fp args).run Tryz.prog w = .ok (.enter fp args) w
  call : ∀ x ∈ l, ∀ (g : Nat) (ok : Bool) (W : World), w.heap.size ≤ g → Below w.heap.size w W → Z0 W → CalB W g ok →
    Calls Tryz.prog fp (#[.pointer (some ⟨g, 0, none⟩), frQ x] ++ cb) W fun r w' => PtR (f x) g ok W r w'
theorem ptsO_step {f : Rat → Option Pt} {l : List Rat} {i : Nat} {ok : Bool} {o : List Pt} {p : Pt} (h : ok = (ptsO f l i).isSome) (h1 : ok = true → ptsO f l i = some o) (h2 : (ok && (f (l.getD i 0)).isSome) = true → f (l.getD i 0) = some p) :
    (ok && (f (l.getD i 0)).isSome) = (ptsO f l (i + 1)).isSome ∧ ((ok && (f (l.getD i 0)).isSome) = true → ptsO f l (i + 1) = some (o ++ [p])) := by
  cases ok with
  | false =>
    have hn : ptsO f l i = none := by
      cases hs : ptsO f l i with
      | none => rfl
      | some x => rw [hs] at h; cases h
    rw [ptsO_stay hn (Nat.le_succ i)]
    exact ⟨rfl, fun h => by cases h⟩
  | true =>
    cases hf : f (l.getD i 0) with
    | none => rw [ptsO_none hf]; exact ⟨rfl, fun h => by cases h⟩
    | some p' =>
      rw [hf] at h2
      have e : p' = p := Option.some.inj (h2 rfl)
      subst e
      rw [ptsO_some (h1 rfl) hf]
      exact ⟨rfl, fun _ => rfl⟩

set_option maxHeartbeats 8000000 in
set_option maxRecDepth 100000 in
theorem made_c (l : List Rat) (fp : FuncId) (cb : Array Value) (f : Rat → Option Pt) (vl : Value) (w : World) (hl : QsR 0 w vl l) (hz : Z0 w) (hn : l.length ≤ 96) (hP : PtFun fp cb f l w) :
    Calls Tryz.prog 37 #[vl, .func (.func fp) #[] cb] w fun r w' => (∃ v, r = .returned (.tuple #[v, .int .i64 (madE f l)]) ∧ PsR w.heap.size w' v (madL f l)) ∧ Below w.heap.size w w' := by
  have eP := hP.enter
  have HPC := hid hP.call
  clear hP
  obtain ⟨al, cl, rfl, hcl, hml, hcc⟩ := hl
  unfold maxLen at hml
  have HCC := hid hcc
  obtain ⟨E, hE⟩ : ∃ E, madE f l = E := ⟨_, rfl⟩
  obtain ⟨R, hR⟩ : ∃ R, madL f l = R := ⟨_, rfl⟩
  rw [hE, hR]
  have HE := hid hE
  have HR := hid hR
  obtain ⟨L, hL⟩ : ∃ L, l.length = L := ⟨_, rfl⟩
  rw [hL] at hcl hn ⊢
  have HL := hid hL
  obtain ⟨w0, hw0⟩ : ∃ w0, w.alloc (.cells #[.int .i64 0] 59) = w0 := ⟨_, rfl⟩
  have kg := Blk.new w #[.int .i64 0] 59
  have b0 := alloc_below w (.cells #[.int .i64 0] 59)
  obtain ⟨g, hg⟩ : ∃ g, w.heap.size = g := ⟨_, rfl⟩
  rw [hw0] at kg b0
  rw [hg] at kg b0
  have HG := hid hg
  have HZ := hid hz
  have HK0 : Hid (CalB w0 g true) := hid kg
  have hs0 : g + 1 ≤ w0.heap.size := kg.lt
  clear hE hR hL hz hcc kg
  go_enter Tryz.func37, Tryz.ntmps37
  go_wp2_with fail
  clear hw0 hg
  go_loopw [7, 12] (fun y x wr => ∃ i : Nat, x = .int .i64 i ∧ i ≤ L ∧ (∃ ok o, ok = (ptsO f l i).isSome ∧ (ok = true → ptsO f l i = some o) ∧ o.length = i ∧ Hid (wr.ownsRow (g + 1) 44 4 y i (ptsC o)) ∧ Hid (CalB wr g ok)) ∧ Below g w wr ∧ g + 1 ≤ wr.heap.size) (fun _ x _ => L - (intOf x).toNat)
  case atStart => exact ⟨0, rfl, Nat.zero_le _, ⟨true, [], rfl, fun _ => rfl, rfl, hid (World.ownsRow_nil _ _ _ _), HK0⟩, b0, hs0⟩
  case round =>
    obtain ⟨i, rfl, hi, ⟨ok, o, hok, hoks, hol, HO, HK⟩, hbel, hsr⟩ := hrel
    have hzr : Z0 wr := HZ.out.below (by rw [HG.out]; exact hbel)
    by_cases hiL : i < L
    · have hi2 : (i : Int) < (L : Int) := by omega
      obtain ⟨b, off, rfl, hb, x0, x1⟩ := q_cell HCC.out (show i < l.length by rw [HL.out]; exact hiL)
      rw [HG.out] at hb
      replace x0 := (hbel.cell (p := ⟨b, off + i * 2, none⟩) hb).trans x0
      replace x1 := (hbel.cell (p := ⟨b, off + i * 2 + 1, none⟩) hb).trans x1
      have CP := hid (HPC.out (l.getD i 0) (getD_memQ (by rw [HL.out]; exact hiL)))
      have HST := hid (fun p h2 => ptsO_step (p := p) hok hoks h2)
      obtain ⟨x, hx⟩ : ∃ x, l.getD i 0 = x := ⟨_, rfl⟩
      rw [hx] at x0 x1 CP HST
      obtain ⟨k, hk⟩ : ∃ k, (ok && (f x).isSome) = k := ⟨_, rfl⟩
      have HKK := hid hk
      have HOL := hid hol
      clear hok hoks hx hk hol
      unfold frQ at CP
      go_wp2_with fail
      have bA := alloc_below wr (.cells #[.int .i64 x.num, .int .i64 (x.den : Int)] 31)
      have tA : CalT g wr (wr.alloc (.cells #[.int .i64 x.num, .int .i64 (x.den : Int)] 31)) := CalT.of_below bA
      have hgr : g ≤ wr.heap.size := by omega
      have bG := bA.mono hgr
      refine (CP.out g ok _ (by rw [HG.out]; exact Nat.le_refl _) (by rw [HG.out]; exact hbel.trans bG) (hzr.below bA) (CalB.below HK.out bA)).mono ?_
      rintro r w1 ⟨⟨p, rfl, hp⟩, hk1, ht1⟩
      have t1 := (calT_pre g).trans tA ht1
      have hb1 := CalT.below hbel t1 (Nat.le_refl _) hgr
      have HO1 := hid (owns_calT t1 HO.out (Nat.lt_succ_self g))
      have hs1 : g + 1 ≤ w1.heap.size := Nat.le_trans hsr t1.size
      have hst := HST.out p hp
      rw [HKK.out] at hst hk1
      have HS2 := hid hst
      have HK1 := hid hk1
      have HPC1 : Hid (ptsC [p] = [.int .i64 p.1.num, .int .i64 (p.1.den : Int), .int .i64 p.2.num, .int .i64 (p.2.den : Int)]) := hid rfl
      clear hst hk1 hp bG tA bA ht1 x0 x1 t1 HST CP
      unfold ptQ
      obtain ⟨p1, hp1⟩ : ∃ z, p.1.num = z := ⟨_, rfl⟩
      obtain ⟨p2, hp2⟩ : ∃ z, (p.1.den : Int) = z := ⟨_, rfl⟩
      obtain ⟨p3, hp3⟩ : ∃ z, p.2.num = z := ⟨_, rfl⟩
      obtain ⟨p4, hp4⟩ : ∃ z, (p.2.den : Int) = z := ⟨_, rfl⟩
      rw [hp1, hp2, hp3, hp4] at HPC1 ⊢
      clear hp1 hp2 hp3 hp4
      go_wp2_with (first
        | (at_builtin; refine wpList_app rfl (.tmp 16) (.tmp 20) _ rfl (g + 1) 44 (.agg #[.int .i64 0, .int .i64 0, .int .i64 0, .int .i64 0]) 4 32 Tryz.underlying22 infoPoint rfl (by decide) 44 _ _ _ rfl HO1.out [.int .i64 p1, .int .i64 p2, .int .i64 p3, .int .i64 p4] rfl rfl (by simp [Value.oneCell']) (by unfold maxLen; omega) (by omega) (by omega) ?_; intro g5 gcap w5 ho5 hb5 _ _ _))
      go_roundw
      case rel =>
        refine ⟨i + 1, by go_num, by omega, ⟨k, o ++ [p], HS2.out.1, HS2.out.2, by rw [List.length_append, HOL.out]; rfl, ?_, hid (HK1.out.below' hb5 (Nat.lt_succ_self g))⟩, hb1.trans (hb5.mono (Nat.le_succ g)), Nat.le_trans hs1 hb5.size⟩
        rw [ptsC_append, HPC1.out]
        exact hid ho5
      case measure => simp [intOf]; omega
    · obtain rfl : L = i := by omega
      have hi2 : ¬ (L : Int) < (L : Int) := by omega
      obtain ⟨ao3, c3, rfl, -⟩ := id (SlR.of_owns HO.out)
      have hBw : Below w.heap.size w wr := by rw [HG.out]; exact hbel
      have c0 := HK.out.look 0 rfl
      cases ok with
      | true =>
        have hs := hoks rfl
        rw [← HL.out] at hs
        have e1 : madE f l = slpE (ofQ o) := by unfold madE; rw [hs]
        have e2 : madL f l = nrmL (ofQ o) := by unfold madL; rw [hs]
        rw [HE.out] at e1
        rw [HR.out] at e2
        have hr : PsR 0 wr (.slice ao3 L c3) o := by
          have := SlR.mono (SlR.of_owns HO.out) (Nat.zero_le _)
          unfold PsR
          rw [hol]
          exact this
        have NO := hid (Norm_any (ofQ o) _ wr hr.ofQ hzr)
        rw [← e1, ← e2] at NO
        clear hok hoks hs hr hol e1 e2 HE HR
        go_wp2_with fail
        refine NO.out.mono ?_
        rintro r w1 ⟨⟨v, rfl, hv⟩, hb1⟩
        have hv2 := PsR.mono hv hBw.size
        have hB1 := hBw.trans (hb1.mono hBw.size)
        clear NO hv hb1
        go_wp2
        go_ret2
        exact ⟨⟨_, rfl, hv2⟩, hB1⟩
      | false =>
        have hs : ptsO f l L = none := by
          cases hs : ptsO f l L with
          | none => rfl
          | some l' => rw [hs] at hok; cases hok
        rw [← HL.out] at hs
        have e1 : E = 5 := by rw [← HE.out]; unfold madE; rw [hs]
        have e2 : R = [] := by rw [← HR.out]; unfold madL; rw [hs]
        subst e1 e2
        clear hok hoks hs hol HE HR
        go_wp2_with fail
        have hd := (Below.refl wr.heap.size wr).drew
        have z0 := fun x : SubT (Below wr.heap.size) wr.drew => (Blk.below HK.out (hd.trans x.b)).look 0 rfl
        refine wp_walkJ (T := Below (wr.heap.size)) (belowV_pre _) (.rd 0 (.rd 1 (.rd 2 (.rd 3 (.inv []))))) (by kernel_rfl) rfl (by kernel_rfl) (by kernel_rfl) ?_
        iterate 4 (refine walkJ_rd rfl (fun K hK => ?_); go_simp; refine hK _ ?_; clear hK K)
        refine walkJ_nil ?_
        go_wp2
        go_ret2
        exact ⟨⟨_, rfl, SlR.nil _ _⟩, hBw.trans (hd.mono hBw.size)⟩

end Go.Proofs.YtfkclcoipadhmaaGreatDoor

/- Walk of curve.Sum. -/
namespace Go.Proofs.YtfkclcoipadhmaaGreatDoor
open Go.RowKit
attribute [local irreducible] seqS seqST walkV walkJ

/-- What Sum hands back. -/
def sumE (c d : List P4) : Int := if comE c d = 0 then madE (sumO (toQ c) (toQ d)) (comG (toQ c) (toQ d)) else comE c d
def sumL (c d : List P4) : List Pt := if comE c d = 0 then madL (sumO (toQ c) (toQ d)) (comG (toQ c) (toQ d)) else []
theorem CV.nonneg {c : List Pt} (h : CV c) {i : Nat} (hi : i < c.length) : 0 ≤ (c.getD i (0, 0)).1 ∧ 0 ≤ (c.getD i (0, 0)).2 := by
  by_cases h0 : i = 0
  · subst h0
    rw [h.first]
    exact ⟨Rat.le_refl, Rat.le_refl⟩
  · have := h.lt (i := 0) (j := i) (by omega) hi
    rw [h.first] at this
    exact ⟨Rat.le_of_lt this.1, Rat.le_of_lt this.2⟩
theorem CV.le_end {c : List Pt} (h : CV c) {i : Nat} (hi : i < c.length) : (c.getD i (0, 0)).1 ≤ (endQ c).1 ∧ (c.getD i (0, 0)).2 ≤ (endQ c).2 := by
  unfold endQ
  by_cases h0 : i = c.length - 1
  · rw [← h0]
    exact ⟨Rat.le_refl, Rat.le_refl⟩
  · have := h.lt (i := i) (j := c.length - 1) (by omega) (by omega)
    exact ⟨Rat.le_of_lt this.1, Rat.le_of_lt this.2⟩
theorem mem_get {c : List Pt} {F : Pt → Rat} {x : Rat} (h : x ∈ c.map F) : ∃ i, i < c.length ∧ F (c.getD i (0, 0)) = x := by
  obtain ⟨p, hp, rfl⟩ := List.mem_map.1 h
  obtain ⟨i, hi, rfl⟩ := List.mem_iff_getElem.1 hp
  exact ⟨i, hi, by rw [List.getD_eq_getElem?_getD, List.getElem?_eq_getElem hi]; rfl⟩
theorem lesQ_le (a b : Rat) : lesQ a b ≤ a ∧ lesQ a b ≤ b := by
  unfold lesQ
  by_cases h : b < a
  · rw [if_pos h]; exact ⟨Rat.le_of_lt h, Rat.le_refl⟩
  · rw [if_neg h]; exact ⟨Rat.le_refl, Rat.not_lt.1 h⟩
theorem comG_mem {A C : List Pt} (hA : CV A) (hC : CV C) {x : Rat} (hx : x ∈ comG A C) : InDom A x ∧ InDom C x ∧ fits x := by
  obtain ⟨h1, h2⟩ := ((gridQ_grid _ _).2 x).1 hx
  obtain ⟨l1, l2⟩ := lesQ_le (endQ A).1 (endQ C).1
  have h3 : 0 ≤ x ∧ fits x := by
    rcases List.mem_append.1 h1 with h | h
    · obtain ⟨i, hi, rfl⟩ := mem_get h
      exact ⟨(hA.nonneg hi).1, (hA.fit i hi).1⟩
    · obtain ⟨i, hi, rfl⟩ := mem_get h
      exact ⟨(hC.nonneg hi).1, (hC.fit i hi).1⟩
  exact ⟨⟨h3.1, Rat.le_trans h2 l1⟩, ⟨h3.1, Rat.le_trans h2 l2⟩, h3.2⟩
theorem comE_zero {c d : List P4} (h : comE c d = 0) : RV c ∧ RV d ∧ (comG (toQ c) (toQ d)).length ≤ 48 ∧ comL c d = comG (toQ c) (toQ d) := by
  have hl : comL c d = comG (toQ c) (toQ d) := if_pos h
  unfold comE at h
  by_cases hr : RV c ∧ RV d
  · rw [if_pos hr] at h
    by_cases hg : 48 < (comG (toQ c) (toQ d)).length
    · rw [if_pos hg] at h; cases h
    · exact ⟨hr.1, hr.2, by omega, hl⟩
  · rw [if_neg hr] at h; cases h

set_option maxHeartbeats 8000000 in
set_option maxRecDepth 100000 in
theorem Sum_any (c d : List P4) (vc vd : Value) (w : World) (hc : P4R 0 w vc c) (hd : P4R 0 w vd d) (hz : Z0 w) :
    Calls Tryz.prog 10 #[vc, vd] w fun r w' => (∃ v, r = .returned (.tuple #[v, .int .i64 (sumE c d)]) ∧ PsR w.heap.size w' v (sumL c d)) ∧ Below w.heap.size w w' := by
  obtain ⟨ac, cc, rfl, -⟩ := id hc
  obtain ⟨ad, cd, rfl, -⟩ := id hd
  obtain ⟨E, hE⟩ : ∃ E, sumE c d = E := ⟨_, rfl⟩
  obtain ⟨R, hR⟩ : ∃ R, sumL c d = R := ⟨_, rfl⟩
  rw [hE, hR]
  have HE := hid hE
  have HR := hid hR
  have k0 := (Blk.new w #[.slice ac c.length cc] 22).alloc (.cells #[.slice ad d.length cd] 22)
  have k1 := Blk.new (w.alloc (.cells #[.slice ac c.length cc] 22)) #[.slice ad d.length cd] 22
  have b0 := ((Below.refl w.heap.size w).alloc (Nat.le_refl _) (.cells #[.slice ac c.length cc] 22)).alloc (by simp) (.cells #[.slice ad d.length cd] 22)
  rw [World.size_alloc] at k1
  have c0 := k0.look 0 rfl
  have c1 := k1.look 0 rfl
  clear hE hR
  go_enter Tryz.func10, Tryz.ntmps10
  go_wp2_with fail
  obtain ⟨w0, hw0⟩ : ∃ w0, (w.alloc (.cells #[.slice ac c.length cc] 22)).alloc (.cells #[.slice ad d.length cd] 22) = w0 := ⟨_, rfl⟩
  rw [hw0] at k0 k1 b0 ⊢
  clear hw0 c0 c1
  have CO := hid (common_any c d _ _ w0 (hc.below b0) (hd.below b0) (hz.below b0))
  refine CO.out.mono ?_
  rintro r w1 ⟨⟨vl, rfl, hvl⟩, hb1⟩
  have hB1 := b0.trans (hb1.mono b0.size)
  have k01 := k0.below hb1
  have k11 := k1.below hb1
  have hc1 := (hc.below b0).below hb1
  have hd1 := (hd.below b0).below hb1
  have hz1 := (hz.below b0).below hb1
  have hs1 : w.heap.size + 1 + 1 ≤ w1.heap.size := k11.lt
  clear CO hb1 k0 k1 b0 hc hd hz
  by_cases h0 : comE c d = 0
  case neg =>
    have e1 : E = comE c d := by rw [← HE.out]; exact if_neg h0
    have e2 : R = [] := by rw [← HR.out]; exact if_neg h0
    rw [← e1] at h0 ⊢
    subst e2
    clear e1
    obtain ⟨al, cl, rfl, -⟩ := hvl
    go_wp2
    go_ret2
    exact ⟨⟨_, rfl, SlR.nil _ _⟩, hB1⟩
  obtain ⟨hrc, hrd, hlen, hL⟩ := comE_zero h0
  rw [h0]
  rw [hL] at hvl
  have e1 : sumE c d = madE (sumO (toQ c) (toQ d)) (comG (toQ c) (toQ d)) := if_pos h0
  have e2 : sumL c d = madL (sumO (toQ c) (toQ d)) (comG (toQ c) (toQ d)) := if_pos h0
  have pc := P4R.toQ hc1 hrc
  have pd := P4R.toQ hd1 hrd
  have vc := rv_cv hrc
  have vd := rv_cv hrd
  have MA := hid (made_c (comG (toQ c) (toQ d)) 38 #[.pointer (some ⟨w.heap.size, 0, none⟩), .pointer (some ⟨w.heap.size + 1, 0, none⟩)] (sumO (toQ c) (toQ d)) vl w1 (hvl.mono (Nat.zero_le _)) hz1 (by omega)
    ⟨enters_of Tryz.func38 (by kernel_rfl) rfl, fun x hx g ok W hg hb hz hk => by
      obtain ⟨i1, i2, i3⟩ := comG_mem vc vd hx
      exact sumPt_any (toQ c) (toQ d) x _ _ vc vd i1 i2 i3 g w.heap.size (w.heap.size + 1) ok W (PsR.below pc hb) (PsR.below pd hb) (k01.below hb) (k11.below hb) (by omega) (by omega) hz hk⟩)
  rw [← e1, ← e2, HE.out, HR.out] at MA
  obtain ⟨al, cl, rfl, -⟩ := hvl
  generalize (comG (toQ c) (toQ d)).length = n at MA ⊢
  clear e1 e2 pc pd vc vd hc1 hd1 hz1 hL hlen hrc hrd HE HR h0
  go_wp2_with fail
  refine MA.out.mono ?_
  rintro r w2 ⟨⟨v, rfl, hv⟩, hb2⟩
  have hv2 := PsR.mono hv hB1.size
  have hB2 := hB1.trans (hb2.mono hB1.size)
  clear MA hv hb2
  go_wp2
  go_ret2
  exact ⟨⟨_, rfl, hv2⟩, hB2⟩

end Go.Proofs.YtfkclcoipadhmaaGreatDoor
