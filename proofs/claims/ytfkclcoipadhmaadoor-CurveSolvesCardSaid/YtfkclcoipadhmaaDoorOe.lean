/- A slice of points that is met among a call's arguments is no longer than the memory allows. -/
import Derived.Test.YtfkclcoipadhmaaDoorOc
import Derived.SizedLaws
namespace Go.Proofs.YtfkclcoipadhmaaDoor
open Go.ChangeShapes Go.WideShapes Go.ChangeAt Go.RowKit Go.Deep

set_option maxRecDepth 100000 in
theorem pts_small {H : Type} {enc : TypeId × Value → H} {w : World} {spare : Nat → Bool} {held : Bool} {v : Value} {d : DataW H} {ps : List MemPlace} (h : DataW.Trod enc Tryd.prog w 0 spare held 22 v d ps) {c : List P4} (hc : P4R 0 w v c)
    {ts : List TypeId} {ds : List (DataW H)} (hsz : (DataW.weightsEach Tryd.prog (22 :: ts) (d :: ds)).all (· ≤ reachBytes) = true) : c.length ≤ 8796093022208 := by
  obtain ⟨fuel, hf⟩ := h
  obtain ⟨ao, cap, rfl, -⟩ := hc
  rcases DataW.trod_slice Tryd.underlying22 hf with ⟨h1, -⟩ | ⟨a, len, cap2, elems, rest, n, -, h1, h2, -, -, -, h3, -⟩
  · have h4 : [Value.slice ao c.length cap] = [Value.slice none 0 0] := h1
    simp only [List.cons.injEq, and_true] at h4
    injection h4 with e1 e2 e3
    omega
  · have h4 : [Value.slice ao c.length cap] = [Value.slice (some a) len cap2] := h1
    simp only [List.cons.injEq, and_true] at h4
    injection h4 with e1 e2 e3
    have hd : d = .slice (elems.map (·.1)) (rest.map (·.1)) := congrArg Prod.fst h2
    have hs := sized_slice hsz (j := 0) (t := 22) (elems := elems.map (·.1)) (spare := rest.map (·.1)) rfl (by rw [hd]; rfl) Tryd.underlying22
    rw [List.length_map, List.length_map, show Tryd.prog.bytesOf 52 = 32 by kernel_rfl] at hs
    unfold reachBytes at hs
    omega

end Go.Proofs.YtfkclcoipadhmaaDoor
