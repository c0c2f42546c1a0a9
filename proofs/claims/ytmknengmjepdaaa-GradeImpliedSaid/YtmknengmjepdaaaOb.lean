/- Arguments opened: whole numbers, pairs of them. -/
import Derived.Test.YtmknengmjepdaaaOa
import Derived.OpenShut
import Derived.Test.YtmknengmjepdaaaMx
namespace Go.Proofs.Ytmknengmjepdaaa
open Go.ChangeShapes Go.WideShapes Go.RowKit Go.Deep

section
variable {H : Type} {enc : TypeId × Value → H} {w : World} {spare : Nat → Bool} {held : Bool}

theorem i64_of_wf {z : Int} (h : (Lit.int .i64 z).wf = true) : I64 z := by
  simp [Lit.wf, IntKind.min, IntKind.max, IntKind.bits, IntKind.signed] at h
  unfold I64
  omega
set_option maxRecDepth 100000 in
/-- A whole number as an argument. -/
theorem open_whole {base : Nat} {v : Value} {d : DataW H} {ps : List MemPlace} (hok : Value.okWide Try.prog w .any base 3 v) (h : DataW.Trod enc Try.prog w 0 spare held 3 v d ps) :
    ∃ z : Int, v = .int .i64 z ∧ I64 z := by
  obtain ⟨n, rfl⟩ := okWide_int Try.underlying3 hok
  obtain ⟨fuel, hf⟩ := h
  obtain ⟨n', h, _, hw⟩ := DataW.trod_int Try.underlying3 hf
  simp [Value.cells] at h
  subst h
  exact ⟨n, rfl, i64_of_wf hw⟩
set_option maxRecDepth 100000 in
/-- A pair of whole numbers as an argument. -/
theorem open_two {base : Nat} {v : Value} {d : DataW H} {ps : List MemPlace} (hok : Value.okWide Try.prog w .any base 66 v) (h : DataW.Trod enc Try.prog w 0 spare held 66 v d ps) :
    ∃ a b : Int, v = .agg #[.int .i64 a, .int .i64 b] ∧ I64 a ∧ I64 b := by
  have hu := Try.underlying66
  simp only [Value.okWide, hu] at hok
  obtain ⟨cs, rfl, _, _⟩ := hok
  obtain ⟨fuel, hf⟩ := h
  obtain ⟨xs, m, _, _, hl, hxl, hk⟩ := DataW.trod_array hu hf
  have hl2 : cs.toList.length = 2 := hl.trans (by kernel_rfl)
  have c0 : Try.prog.cellsOf 3 = 1 := by kernel_rfl
  obtain ⟨a, b, hab⟩ : ∃ a b, cs.toList = [a, b] := by
    match cs.toList, hl2 with
    | [a, b], _ => exact ⟨a, b, rfl⟩
  have e : (Value.agg cs).cells.toList = [a, b] := hab
  rw [e] at hk
  have one : ∀ i, i < 2 → ∃ z : Int, [a, b][i]? = some (.int .i64 z) ∧ I64 z := by
    intro i hi
    have hg := hk i hi
    rw [c0] at hg
    cases hx : xs[i]? with
    | none => rw [List.getElem?_eq_none_iff] at hx; omega
    | some y =>
      rw [hx] at hg
      obtain ⟨z, hz, _, hw⟩ := DataW.trod_int Try.underlying3 hg
      refine ⟨z, ?_, i64_of_wf hw⟩
      have h5 := congrArg (fun l => l[0]?) hz
      simpa [List.getElem?_take, List.getElem?_drop] using h5
  obtain ⟨z0, h0, w0⟩ := one 0 (by decide)
  obtain ⟨z1, h1, w1⟩ := one 1 (by decide)
  simp at h0 h1
  exact ⟨z0, z1, congrArg Value.agg (Array.ext' (by rw [hab, h0, h1])), w0, w1⟩
end

end Go.Proofs.Ytmknengmjepdaaa
