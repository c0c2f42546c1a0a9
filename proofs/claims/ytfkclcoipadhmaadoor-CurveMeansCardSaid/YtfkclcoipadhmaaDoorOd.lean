/- Slices of whole numbers as arguments. -/
import Derived.Test.YtfkclcoipadhmaaDoorOc
import Derived.Test.YtfkclcoipadhmaaDoorGl
namespace Go.Proofs.YtfkclcoipadhmaaDoor
open Go.ChangeShapes Go.WideShapes Go.ChangeAt Go.RowKit Go.Deep

theorem flatMap_one {α β : Type} (f : α → β) : ∀ l : List α, (l.flatMap fun z => [f z]) = l.map f
  | [] => rfl
  | a :: l => by
    rw [List.flatMap_cons, List.map_cons, flatMap_one f l]
    rfl
section
variable {H : Type} {enc : TypeId × Value → H} {w : World} {spare : Nat → Bool} {held : Bool}
set_option maxRecDepth 100000 in
theorem open_ints {base : Nat} {v : Value} {d : DataW H} {ps : List MemPlace} (hok : Value.okWide Tryd.prog w .any base 38 v) (h : DataW.Trod enc Tryd.prog w 0 spare held 38 v d ps) :
    ∃ l : List Int, IntsR 0 w v l := by
  obtain ⟨a, len, cap, rfl⟩ := okWide_slice Tryd.underlying38 hok
  obtain ⟨fuel, hf⟩ := h
  obtain ⟨v', l, he, hl⟩ := open_rows (α := Int) (N := 1) (fun z => [Value.int .i64 z]) (fun _ => rfl) (by decide) Tryd.underlying38 (by kernel_rfl) (fun n cs y h => by
    obtain ⟨z, hz, -⟩ := DataW.trod_int Tryd.underlying3 h
    exact ⟨z, hz⟩) hf
  have : [Value.slice a len cap] = [v'] := he
  simp only [List.cons.injEq, and_true] at this
  rw [this]
  rw [flatMap_one] at hl
  exact ⟨l, hl⟩
end

end Go.Proofs.YtfkclcoipadhmaaDoor
