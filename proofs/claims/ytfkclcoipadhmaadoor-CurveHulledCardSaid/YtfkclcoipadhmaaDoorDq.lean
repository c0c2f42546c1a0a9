/- slices.SortFunc at fractions, by the shelf's contract. -/
import Derived.Test.YtfkclcoipadhmaaDoorDo
import Derived.Test.YtfkclcoipadhmaaDoorDi
import Derived.Shelf.SlGeneric
import Derived.Shelf.SlSortCmp.WholeK
namespace Go.Proofs
open Go.Shelf
def Tryd.laysSort_ren : Go.Shelf.Ren := ⟨fun | 6 => 104 | 15 => 133 | 14 => 132 | 28 => 147 | 29 => 148 | 20 => 139 | 21 => 140 | 22 => 141 | 23 => 142 | 24 => 143 | 25 => 144 | 26 => 145 | 27 => 146 | 46 => 149 | 47 => 150 | 48 => 151 | 49 => 152 | 50 => 153 | 57 => 154 | n => n, fun | 22 => 23 | 24 => 32 | 25 => 70 | 3 => 3 | 39 => 123 | 0 => 0 | 53 => 87 | 55 => 86 | 4 => 4 | 46 => 138 | 45 => 137 | 50 => 117 | 5 => 5 | 9 => 9 | 66 => 145 | 70 => 149 | 76 => 151 | 77 => 152 | n => n, fun | n => n⟩
theorem Tryd.laysSort : Go.Proofs.SlLaysF0.n6 Tryd.prog Tryd.laysSort_ren := {
  mixed := by kernel_rfl
  f6 := ⟨Tryd.f104.name, by decide, Tryd.func104.trans (congrArg some (by kernel_rfl))⟩
  f14 := ⟨Tryd.f132.name, by decide, Tryd.func132.trans (congrArg some (by kernel_rfl))⟩
  f15 := Tryd.func133.trans (congrArg some (by kernel_rfl))
  f20 := ⟨Tryd.f139.name, by decide, Tryd.func139.trans (congrArg some (by kernel_rfl))⟩
  f21 := ⟨Tryd.f140.name, by decide, Tryd.func140.trans (congrArg some (by kernel_rfl))⟩
  f22 := ⟨Tryd.f141.name, by decide, Tryd.func141.trans (congrArg some (by kernel_rfl))⟩
  f23 := ⟨Tryd.f142.name, by decide, Tryd.func142.trans (congrArg some (by kernel_rfl))⟩
  f24 := ⟨Tryd.f143.name, by decide, Tryd.func143.trans (congrArg some (by kernel_rfl))⟩
  f25 := ⟨Tryd.f144.name, by decide, Tryd.func144.trans (congrArg some (by kernel_rfl))⟩
  f26 := ⟨Tryd.f145.name, by decide, Tryd.func145.trans (congrArg some (by kernel_rfl))⟩
  f27 := ⟨Tryd.f146.name, by decide, Tryd.func146.trans (congrArg some (by kernel_rfl))⟩
  f28 := Tryd.func147.trans (congrArg some (by kernel_rfl))
  f29 := Tryd.func148.trans (congrArg some (by kernel_rfl))
  f46 := ⟨Tryd.f149.name, by decide, Tryd.func149.trans (congrArg some (by kernel_rfl))⟩
  f47 := Tryd.func150.trans (congrArg some (by kernel_rfl))
  f48 := Tryd.func151.trans (congrArg some (by kernel_rfl))
  f49 := ⟨Tryd.f152.name, by decide, Tryd.func152.trans (congrArg some (by kernel_rfl))⟩
  f50 := ⟨Tryd.f153.name, by decide, Tryd.func153.trans (congrArg some (by kernel_rfl))⟩
  f57 := ⟨Tryd.f154.name, by decide, Tryd.func154.trans (congrArg some (by kernel_rfl))⟩
  t0 := Tryd.underlying0
  a0 := Tryd.isAgg0
  z0 := Tryd.sizeOf0
  v0 := Tryd.zeroValue0
  t3 := Tryd.underlying3
  a3 := Tryd.isAgg3
  z3 := Tryd.sizeOf3
  v3 := Tryd.zeroValue3
  t4 := Tryd.underlying4
  a4 := Tryd.isAgg4
  z4 := Tryd.sizeOf4
  v4 := Tryd.zeroValue4
  t5 := Tryd.underlying5
  a5 := Tryd.isAgg5
  z5 := Tryd.sizeOf5
  v5 := Tryd.zeroValue5
  t9 := Tryd.underlying9
  a9 := Tryd.isAgg9
  z9 := Tryd.sizeOf9
  v9 := Tryd.zeroValue9
  t22 := Tryd.underlying23
  a22 := Tryd.isAgg23
  z22 := Tryd.sizeOf23
  v22 := Tryd.zeroValue23
  t25 := Tryd.underlying70
  a25 := Tryd.isAgg70
  z25 := Tryd.sizeOf70
  v25 := Tryd.zeroValue70
  t39 := Tryd.underlying123
  a39 := Tryd.isAgg123
  z39 := Tryd.sizeOf123
  v39 := Tryd.zeroValue123
  t45 := Tryd.underlying137
  a45 := Tryd.isAgg137
  z45 := Tryd.sizeOf137
  v45 := Tryd.zeroValue137
  t46 := Tryd.underlying138
  a46 := Tryd.isAgg138
  z46 := Tryd.sizeOf138
  v46 := Tryd.zeroValue138
  t50 := Tryd.underlying117
  a50 := Tryd.isAgg117
  z50 := Tryd.sizeOf117
  v50 := Tryd.zeroValue117
  t53 := Tryd.underlying87
  a53 := Tryd.isAgg87
  z53 := Tryd.sizeOf87
  v53 := Tryd.zeroValue87
  t55 := Tryd.underlying86
  a55 := Tryd.isAgg86
  z55 := Tryd.sizeOf86
  v55 := Tryd.zeroValue86
  t66 := Tryd.underlying145
  a66 := Tryd.isAgg145
  z66 := Tryd.sizeOf145
  v66 := Tryd.zeroValue145
  t70 := Tryd.underlying149
  a70 := Tryd.isAgg149
  z70 := Tryd.sizeOf149
  v70 := Tryd.zeroValue149
  t76 := Tryd.underlying151
  a76 := Tryd.isAgg151
  z76 := Tryd.sizeOf151
  v76 := Tryd.zeroValue151
  t77 := Tryd.underlying152
  a77 := Tryd.isAgg152
  z77 := Tryd.sizeOf152
  v77 := Tryd.zeroValue152 }
end Go.Proofs
namespace Go.Proofs.YtfkclcoipadhmaaDoor
open Go.RowKit Go.Sort

abbrev FQ := {q : Rat // fits q}
instance instFQ : Inhabited FQ := ⟨⟨0, fits_nought⟩⟩
def encQ (x : FQ) : List Value := frC x.1
def cmpF (x y : FQ) : Int := cmpQ x.1 y.1
theorem swo_F : SWO (ltOf cmpF) where
  irrefl := fun x => by
    unfold ltOf cmpF
    exact decide_eq_false (fun h => absurd ((cmpQ_lt _ _).1 h) Rat.lt_irrefl)
  trans := fun x y z h1 h2 => by
    unfold ltOf cmpF at *
    have a := (cmpQ_lt _ _).1 (of_decide_eq_true h1)
    have b := (cmpQ_lt _ _).1 (of_decide_eq_true h2)
    exact decide_eq_true ((cmpQ_lt _ _).2 (by grind))
  ntrans := fun x y z h1 h2 => by
    unfold ltOf cmpF at *
    have a := fun h => of_decide_eq_false h1 ((cmpQ_lt _ _).2 h)
    have b := fun h => of_decide_eq_false h2 ((cmpQ_lt _ _).2 h)
    exact decide_eq_false (fun h => by
      have c := (cmpQ_lt _ _).1 h
      have a' := Rat.not_lt.1 a
      have b' := Rat.not_lt.1 b
      grind)
theorem flat_get (d : Array FQ) (j : Nat) (hj : j < d.size * 2) : (frsC (d.toList.map (·.1)))[j]? = some ((flatK encQ 2 d)[j]!) := by
  have hlen : (d.toList.map (·.1)).length = d.size := by simp
  have hi : j / 2 < d.size := by omega
  have hg := frsC_get (d.toList.map (·.1)) (j / 2) (by omega)
  have hd : (d.toList.map (·.1)).getD (j / 2) 0 = (d[j / 2]!).1 := by
    rw [List.getD_eq_getElem?_getD, List.getElem?_eq_getElem (by omega), getElem!_pos d (j / 2) hi]
    simp
  rw [hd] at hg
  have hlt : j < (frsC (d.toList.map (·.1))).length := by rw [frsC_len, hlen]; exact hj
  rw [get_flatK _ _ _ _ hj]
  have h2 : j % 2 = 0 ∨ j % 2 = 1 := by omega
  have hjd : (frsC (d.toList.map (·.1))).getD j undef = (encQ (d[j / 2]!))[j % 2]! := by
    rcases h2 with h | h
    · rw [show j = j / 2 * 2 by omega, hg.1, show j / 2 * 2 / 2 = j / 2 by omega, show j / 2 * 2 % 2 = 0 by omega]
      rfl
    · rw [show j = j / 2 * 2 + 1 by omega, hg.2, show (j / 2 * 2 + 1) / 2 = j / 2 by omega, show (j / 2 * 2 + 1) % 2 = 1 by omega]
      rfl
  rw [← hjd, List.getD_eq_getElem?_getD, List.getElem?_eq_getElem hlt]
  rfl
theorem holds_row {w : World} {g : Nat} {d : Array FQ} : HoldsK encQ 2 w g 0 d ↔ QRow w g (d.toList.map (·.1)) := by
  have hlen : (frsC (d.toList.map (·.1))).length = d.size * 2 := by rw [frsC_len]; simp
  constructor
  · intro h j u hj
    have hlt : j < d.size * 2 := by
      have := (List.getElem?_eq_some_iff.1 hj).1
      omega
    rw [flat_get d j hlt] at hj
    have h2 := h j (by rw [size_flatK]; exact hlt)
    rw [show u = _ from (Option.some.inj hj).symm]
    exact h2
  · intro h j hj
    rw [size_flatK] at hj
    exact h j _ (flat_get d j hj)
theorem sortWorld_below {B : Nat} {w : World} {g n : Nat} {d : Array FQ} {os : Array Obj} (hg : B ≤ g) (hs : B ≤ w.heap.size) : Go.RowKit.Below B w (sortWorldK encQ 2 w g 0 n d os) := by
  refine ⟨rfl, rfl, rfl, size_sortWorldK_c encQ 2 w g 0 n d os, fun k hk => ?_⟩
  unfold sortWorldK grow
  show ((putRowK encQ 2 (Sort.ahead w n) g 0 d).heap ++ os)[k]? = _
  have hz : (putRowK encQ 2 (Sort.ahead w n) g 0 d).heap.size = w.heap.size := by
    unfold putRowK
    rw [Sort.size_putRow]
    rfl
  rw [Array.getElem?_append_left (by rw [hz]; omega)]
  show (w.heap.modify g _)[k]? = _
  rw [Array.getElem?_modify, if_neg (by omega)]
theorem cmp_lays (w : World) (g size : Nat) : CmpLays Tryd.prog 62 #[] encQ 2 cmpF g 0 size w := fun _ _ _ _ x y =>
  (order_g x.1 y.1 x.2 y.2 _).mono fun _ _ ⟨he, q, os', hw⟩ => ⟨he, q, os', hw⟩

structure SortR (l : List Rat) (g : Nat) (r : Ending) (w' : World) : Prop where
  out : r = .returned (.tuple #[]) ∧ ∃ d, d.Perm l ∧ (∀ i j, i ≤ j → j < d.length → d.getD i 0 ≤ d.getD j 0) ∧ QRow w' g d

theorem sort_any (l : List Rat) (B g n cap : Nat) (w : World) (hn : l.length = n) (hn2 : n ≤ 1000) (hf : ∀ q ∈ l, fits q) (hgB : B ≤ g) (hgs : g < w.heap.size) (hR : QRow w g l) :
    Calls Tryd.prog 104 #[.slice (some ⟨g, 0, none⟩) n cap, .func (.func 62) #[] #[]] w fun r w' => SortR l g r w' ∧ Go.RowKit.Below B w w' := by
  have hd : ((l.attachWith fits hf).toArray.toList.map (·.1)) = l := by simp
  have hsz : (l.attachWith fits hf).toArray.size = n := by simpa using hn
  generalize (l.attachWith fits hf).toArray = d at hd hsz
  have hH : HoldsK encQ 2 w g 0 d := holds_row.2 (by rw [hd]; exact hR)
  have hs := AnyQ.slices_SortFunc (P := Tryd.prog) Tryd.laysSort 2 Tryd.isAgg32 Tryd.sizeOf32 encQ (fun x => rfl) (fun x v hv => by
    unfold encQ frC at hv
    simp at hv
    rcases hv with rfl | rfl <;> rfl) cmpF swo_F 62 #[] g 0 cap d w (enters_of Tryd.func62 (by kernel_rfl) rfl) (cmp_lays w g d.size) hH hgs (by omega)
  rw [hsz] at hs
  refine hs.mono ?_
  rintro r w' ⟨rfl, d', m, os, hp, hso, rfl⟩
  refine ⟨⟨rfl, d'.toList.map (·.1), ?_, ?_, ?_⟩, sortWorld_below hgB (by omega)⟩
  · obtain ⟨h1, -, h3⟩ := hp
    have e1 : d'.extract 0 n = d' := by rw [← hsz, ← h1]; simp
    have e2 : d.extract 0 n = d := by rw [← hsz]; simp
    rw [e1, e2] at h3
    rw [← hd]
    exact h3.map _
  · intro i j hij hj
    have hj2 : j < d'.size := by simpa using hj
    have hz : d'.size = n := hp.1.trans hsz
    have e : ∀ k, k < d'.size → (d'.toList.map (·.1)).getD k 0 = (d'[k]!).1 := by
      intro k hk
      rw [List.getD_eq_getElem?_getD, List.getElem?_eq_getElem (by simpa using hk), getElem!_pos d' k hk]
      simp
    by_cases hij2 : i = j
    · rw [hij2]; exact Rat.le_refl
    · rw [e i (by omega), e j hj2]
      have h := hso i j (Nat.zero_le _) (by omega) (by omega)
      unfold ltOf cmpF at h
      exact Rat.not_lt.1 (fun hh => of_decide_eq_false h ((cmpQ_lt _ _).2 hh))
  · exact holds_row.1 (holdsK_sortWorldK_c encQ 2 w g 0 d d' m os hH hgs (by rw [hp.1]))

end Go.Proofs.YtfkclcoipadhmaaDoor
