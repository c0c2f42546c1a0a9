/- Plainly: curves with X and Y exchanged. -/
import Derived.Test.YtfkclcoipadhmaaGreatDoorEf
namespace Go.Proofs.YtfkclcoipadhmaaGreatDoor
open Go.RowKit

theorem map_inv_get {c : List P4} {i : Nat} (hi : i < c.length) : (c.map invP).getD i z4 = invP (c.getD i z4) := by
  rw [List.getD_eq_getElem?_getD, List.getElem?_map, List.getD_eq_getElem?_getD, List.getElem?_eq_getElem hi]
  rfl
theorem rv_inv {c : List P4} (h : RV c) : RV (c.map invP) := by
  obtain ⟨h1, h2, h3, h4⟩ := h
  refine ⟨by rwa [List.length_map], by rwa [List.length_map], by rw [map_inv_get (by omega), h3]; rfl, fun i hi => ?_⟩
  rw [List.length_map] at hi
  obtain ⟨a1, a2, a3⟩ := h4 i hi
  unfold OKp
  rw [map_inv_get hi]
  refine ⟨a2, a1, fun h0 => ?_⟩
  rw [map_inv_get (show i - 1 < c.length by omega)]
  exact ⟨(a3 h0).2, (a3 h0).1⟩
theorem inv_inv (c : List P4) : (c.map invP).map invP = c := by
  rw [List.map_map]
  exact (List.map_congr_left (fun p _ => rfl)).trans (List.map_id c)

def swP (p : Pt) : Pt := (p.2, p.1)
theorem toQ_inv (c : List P4) : toQ (c.map invP) = (toQ c).map swP := by
  unfold toQ
  rw [List.map_map, List.map_map]
  rfl

end Go.Proofs.YtfkclcoipadhmaaGreatDoor
