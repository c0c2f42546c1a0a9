/- slices.SortFunc at fractions, by the shelf's contract. -/
import Derived.Test.YtfkclcoipadhmaaGreatDoorDo
import Derived.Test.YtfkclcoipadhmaaGreatDoorDi
import Derived.Shelf.SlGeneric
import Derived.Shelf.SlSortCmp.WholeK
namespace Go.Proofs
open Go.Shelf
def Tryz.laysSort_ren : Go.Shelf.Ren := ⟨fun | 6 => 77 | 15 => 109 | 14 => 108 | 28 => 135 | 29 => 136 | 20 => 127 | 21 => 128 | 22 => 129 | 23 => 130 | 24 => 131 | 25 => 132 | 26 => 133 | 27 => 134 | 46 => 144 | 47 => 145 | 48 => 146 | 49 => 147 | 50 => 148 | 57 => 149 | n => n, fun | 22 => 37 | 24 => 31 | 25 => 60 | 3 => 3 | 39 => 104 | 0 => 0 | 53 => 126 | 55 => 95 | 4 => 4 | 46 => 120 | 45 => 119 | 50 => 75 | 5 => 5 | 9 => 9 | 66 => 135 | 70 => 139 | 76 => 141 | 77 => 142 | n => n, fun | n => n⟩
theorem Tryz.laysSort : Go.Proofs.SlLaysF0.n6 Tryz.prog Tryz.laysSort_ren := {
  mixed := by kernel_rfl
  f6 := ⟨Tryz.f77.name, by decide, Tryz.func77.trans (congrArg some (by kernel_rfl))⟩
  f14 := ⟨Tryz.f108.name, by decide, Tryz.func108.trans (congrArg some (by kernel_rfl))⟩
  f15 := Tryz.func109.trans (congrArg some (by kernel_rfl))
  f20 := ⟨Tryz.f127.name, by decide, Tryz.func127.trans (congrArg some (by kernel_rfl))⟩
  f21 := ⟨Tryz.f128.name, by decide, Tryz.func128.trans (congrArg some (by kernel_rfl))⟩
  f22 := ⟨Tryz.f129.name, by decide, Tryz.func129.trans (congrArg some (by kernel_rfl))⟩
  f23 := ⟨Tryz.f130.name, by decide, Tryz.func130.trans (congrArg some (by kernel_rfl))⟩
  f24 := ⟨Tryz.f131.name, by decide, Tryz.func131.trans (congrArg some (by kernel_rfl))⟩
  f25 := ⟨Tryz.f132.name, by decide, Tryz.func132.trans (congrArg some (by kernel_rfl))⟩
  f26 := ⟨Tryz.f133.name, by decide, Tryz.func133.trans (congrArg some (by kernel_rfl))⟩
  f27 := ⟨Tryz.f134.name, by decide, Tryz.func134.trans (congrArg some (by kernel_rfl))⟩
  f28 := Tryz.func135.trans (congrArg some (by kernel_rfl))
  f29 := Tryz.func136.trans (congrArg some (by kernel_rfl))
  f46 := ⟨Tryz.f144.name, by decide, Tryz.func144.trans (congrArg some (by kernel_rfl))⟩
  f47 := Tryz.func145.trans (congrArg some (by kernel_rfl))
  f48 := Tryz.func146.trans (congrArg some (by kernel_rfl))
  f49 := ⟨Tryz.f147.name, by decide, Tryz.func147.trans (congrArg some (by kernel_rfl))⟩
  f50 := ⟨Tryz.f148.name, by decide, Tryz.func148.trans (congrArg some (by kernel_rfl))⟩
  f57 := ⟨Tryz.f149.name, by decide, Tryz.func149.trans (congrArg some (by kernel_rfl))⟩
  t0 := Tryz.underlying0
  a0 := Tryz.isAgg0
  z0 := Tryz.sizeOf0
  v0 := Tryz.zeroValue0
  t3 := Tryz.underlying3
  a3 := Tryz.isAgg3
  z3 := Tryz.sizeOf3
  v3 := Tryz.zeroValue3
  t4 := Tryz.underlying4
  a4 := Tryz.isAgg4
  z4 := Tryz.sizeOf4
  v4 := Tryz.zeroValue4
  t5 := Tryz.underlying5
  a5 := Tryz.isAgg5
  z5 := Tryz.sizeOf5
  v5 := Tryz.zeroValue5
  t9 := Tryz.underlying9
  a9 := Tryz.isAgg9
  z9 := Tryz.sizeOf9
  v9 := Tryz.zeroValue9
  t22 := Tryz.underlying37
  a22 := Tryz.isAgg37
  z22 := Tryz.sizeOf37
  v22 := Tryz.zeroValue37
  t25 := Tryz.underlying60
  a25 := Tryz.isAgg60
  z25 := Tryz.sizeOf60
  v25 := Tryz.zeroValue60
  t39 := Tryz.underlying104
  a39 := Tryz.isAgg104
  z39 := Tryz.sizeOf104
  v39 := Tryz.zeroValue104
  t45 := Tryz.underlying119
  a45 := Tryz.isAgg119
  z45 := Tryz.sizeOf119
  v45 := Tryz.zeroValue119
  t46 := Tryz.underlying120
  a46 := Tryz.isAgg120
  z46 := Tryz.sizeOf120
  v46 := Tryz.zeroValue120
  t50 := Tryz.underlying75
  a50 := Tryz.isAgg75
  z50 := Tryz.sizeOf75
  v50 := Tryz.zeroValue75
  t53 := Tryz.underlying126
  a53 := Tryz.isAgg126
  z53 := Tryz.sizeOf126
  v53 := Tryz.zeroValue126
  t55 := Tryz.underlying95
  a55 := Tryz.isAgg95
  z55 := Tryz.sizeOf95
  v55 := Tryz.zeroValue95
  t66 := Tryz.underlying135
  a66 := Tryz.isAgg135
  z66 := Tryz.sizeOf135
  v66 := Tryz.zeroValue135
  t70 := Tryz.underlying139
  a70 := Tryz.isAgg139
  z70 := Tryz.sizeOf139
  v70 := Tryz.zeroValue139
  t76 := Tryz.underlying141
  a76 := Tryz.isAgg141
  z76 := Tryz.sizeOf141
  v76 := Tryz.zeroValue141
  t77 := Tryz.underlying142
  a77 := Tryz.isAgg142
  z77 := Tryz.sizeOf142
  v77 := Tryz.zeroValue142 }
end Go.Proofs
namespace Go.Proofs.YtfkclcoipadhmaaGreatDoor
open Go.RowKit Go.Sort

abbrev FQ := {q : Rat // fits q}
instance instFQ : Inhabited FQ := ⟨⟨0, fits_nought⟩⟩
def encQ (x : FQ) : List Value := frC x.1
def cmpF (x y : FQ) : Int := cmpQ x.1 y.1
theorem swo_F : SWO (ltOf cmpF) where
  irrefl := fun x => by
    unfold ltOf cmpF
    exact decide_eq_false (fun h => absurd ((cmpQ_lt _ _).1 h) Rat.lt_irrefl)
  trans := fun x y z h1 h2 => by
    unfold ltOf cmpF at *
    have a := (cmpQ_lt _ _).1 (of_decide_eq_true h1)
    have b := (cmpQ_lt _ _).1 (of_decide_eq_true h2)
    exact decide_eq_true ((cmpQ_lt _ _).2 (by grind))
  ntrans := fun x y z h1 h2 => by
    unfold ltOf cmpF at *
    have a := fun h => of_decide_eq_false h1 ((cmpQ_lt _ _).2 h)
    have b := fun h => of_decide_eq_false h2 ((cmpQ_lt _ _).2 h)
    exact decide_eq_false (fun h => by
      have c := (cmpQ_lt _ _).1 h
      have a' := Rat.not_lt.1 a
      have b' := Rat.not_lt.1 b
      grind)
theorem flat_get (d : Array FQ) (j : Nat) (hj : j < d.size * 2) : (frsC (d.toList.map (·.1)))[j]? = some ((flatK encQ 2 d)[j]!) := by
  have hlen : (d.toList.map (·.1)).length = d.size := by simp
  have hi : j / 2 < d.size := by omega
  have hg := frsC_get (d.toList.map (·.1)) (j / 2) (by omega)
  have hd : (d.toList.map (·.1)).getD (j / 2) 0 = (d[j / 2]!).1 := by
    rw [List.getD_eq_getElem?_getD, List.getElem?_eq_getElem (by omega), getElem!_pos d (j / 2) hi]
    simp
  rw [hd] at hg
  have hlt : j < (frsC (d.toList.map (·.1))).length := by rw [frsC_len, hlen]; exact hj
  rw [get_flatK _ _ _ _ hj]
  have h2 : j % 2 = 0 ∨ j % 2 = 1 := by omega
  have hjd : (frsC (d.toList.map (·.1))).getD j undef = (encQ (d[j / 2]!))[j % 2]! := by
    rcases h2 with h | h
    · rw [show j = j / 2 * 2 by omega, hg.1, show j / 2 * 2 / 2 = j / 2 by omega, show j / 2 * 2 % 2 = 0 by omega]
      rfl
    · rw [show j = j / 2 * 2 + 1 by omega, hg.2, show (j / 2 * 2 + 1) / 2 = j / 2 by omega, show (j / 2 * 2 + 1) % 2 = 1 by omega]
      rfl
  rw [← hjd, List.getD_eq_getElem?_getD, List.getElem?_eq_getElem hlt]
  rfl
theorem holds_row {w : World} {g : Nat} {d : Array FQ} : HoldsK encQ 2 w g 0 d ↔ QRow w g (d.toList.map (·.1)) := by
  have hlen : (frsC (d.toList.map (·.1))).length = d.size * 2 := by rw [frsC_len]; simp
  constructor
  · intro h j u hj
    have hlt : j < d.size * 2 := by
      have := (List.getElem?_eq_some_iff.1 hj).1
      omega
    rw [flat_get d j hlt] at hj
    have h2 := h j (by rw [size_flatK]; exact hlt)
    rw [show u = _ from (Option.some.inj hj).symm]
    exact h2
  · intro h j hj
    rw [size_flatK] at hj
    exact h j _ (flat_get d j hj)
theorem sortWorld_below {B : Nat} {w : World} {g n : Nat} {d : Array FQ} {os : Array Obj} (hg : B ≤ g) (hs : B ≤ w.heap.size) : Go.RowKit.Below B w (sortWorldK encQ 2 w g 0 n d os) := by
  refine ⟨rfl, rfl, rfl, size_sortWorldK_c encQ 2 w g 0 n d os, fun k hk => ?_⟩
  unfold sortWorldK grow
  show ((putRowK encQ 2 (Sort.ahead w n) g 0 d).heap ++ os)[k]? = _
  have hz : (putRowK encQ 2 (Sort.ahead w n) g 0 d).heap.size = w.heap.size := by
    unfold putRowK
    rw [Sort.size_putRow]
    rfl
  rw [Array.getElem?_append_left (by rw [hz]; omega)]
  show (w.heap.modify g _)[k]? = _
  rw [Array.getElem?_modify, if_neg (by omega)]
theorem cmp_lays (w : World) (g size : Nat) : CmpLays Tryz.prog 57 #[] encQ 2 cmpF g 0 size w := fun _ _ _ _ x y =>
  (order_g x.1 y.1 x.2 y.2 _).mono fun _ _ ⟨he, q, os', hw⟩ => ⟨he, q, os', hw⟩

structure SortR (l : List Rat) (g : Nat) (r : Ending) (w' : World) : Prop where
  out : r = .returned (.tuple #[]) ∧ ∃ d, d.Perm l ∧ (∀ i j, i ≤ j → j < d.length → d.getD i 0 ≤ d.getD j 0) ∧ QRow w' g d

theorem sort_any (l : List Rat) (B g n cap : Nat) (w : World) (hn : l.length = n) (hn2 : n ≤ 1000) (hf : ∀ q ∈ l, fits q) (hgB : B ≤ g) (hgs : g < w.heap.size) (hR : QRow w g l) :
    Calls Tryz.prog 77 #[.slice (some ⟨g, 0, none⟩) n cap, .func (.func 57) #[] #[]] w fun r w' => SortR l g r w' ∧ Go.RowKit.Below B w w' := by
  have hd : ((l.attachWith fits hf).toArray.toList.map (·.1)) = l := by simp
  have hsz : (l.attachWith fits hf).toArray.size = n := by simpa using hn
  generalize (l.attachWith fits hf).toArray = d at hd hsz
  have hH : HoldsK encQ 2 w g 0 d := holds_row.2 (by rw [hd]; exact hR)
  have hs := AnyQ.slices_SortFunc (P := Tryz.prog) Tryz.laysSort 2 Tryz.isAgg31 Tryz.sizeOf31 encQ (fun x => rfl) (fun x v hv => by
    unfold encQ frC at hv
    simp at hv
    rcases hv with rfl | rfl <;> rfl) cmpF swo_F 57 #[] g 0 cap d w (enters_of Tryz.func57 (by kernel_rfl) rfl) (cmp_lays w g d.size) hH hgs (by omega)
  rw [hsz] at hs
  refine hs.mono ?_
  rintro r w' ⟨rfl, d', m, os, hp, hso, rfl⟩
  refine ⟨⟨rfl, d'.toList.map (·.1), ?_, ?_, ?_⟩, sortWorld_below hgB (by omega)⟩
  · obtain ⟨h1, -, h3⟩ := hp
    have e1 : d'.extract 0 n = d' := by rw [← hsz, ← h1]; simp
    have e2 : d.extract 0 n = d := by rw [← hsz]; simp
    rw [e1, e2] at h3
    rw [← hd]
    exact h3.map _
  · intro i j hij hj
    have hj2 : j < d'.size := by simpa using hj
    have hz : d'.size = n := hp.1.trans hsz
    have e : ∀ k, k < d'.size → (d'.toList.map (·.1)).getD k 0 = (d'[k]!).1 := by
      intro k hk
      rw [List.getD_eq_getElem?_getD, List.getElem?_eq_getElem (by simpa using hk), getElem!_pos d' k hk]
      simp
    by_cases hij2 : i = j
    · rw [hij2]; exact Rat.le_refl
    · rw [e i (by omega), e j hj2]
      have h := hso i j (Nat.zero_le _) (by omega) (by omega)
      unfold ltOf cmpF at h
      exact Rat.not_lt.1 (fun hh => of_decide_eq_false h ((cmpQ_lt _ _).2 hh))
  · exact holds_row.1 (holdsK_sortWorldK_c encQ 2 w g 0 d d' m os hH hgs (by rw [hp.1]))

end Go.Proofs.YtfkclcoipadhmaaGreatDoor
