/- Regions of the shape 'x, e := f(..)'. -/
import Derived.Test.YtfkclcoipadhmaaGreatDoorRy
namespace Go.Proofs.YtfkclcoipadhmaaGreatDoor
open Go.RowKit

theorem pinfoFrac : (Tryz.prog.info? 31).map (·.size) = some 2 := by kernel_rfl
/-- What holds of what has come up in a region of the shape 'x, e := f(..)', x a variable of the call's own. -/
structure CallI (B : Nat) (w0 : World) (kc km k0 k1 ka ks kz : Nat) (R x0 x1 : Value) (t : TypeId) (sz : Nat) (rc : Array Value) (l : Nat → Bool) (V : Nat → Value) (w : World) : Prop where
  b : Below B w0 w
  c : l kc = true → V kc = R
  m : l km = true → V km = R
  e0 : l k0 = true → V k0 = x0
  e1 : l k1 = true → V k1 = x1
  a : l ka = true → VarI B w (V ka) t sz (l ks) rc
  z : l kz = true → V kz = x1

end Go.Proofs.YtfkclcoipadhmaaGreatDoor
