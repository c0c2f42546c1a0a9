/- Two closures compared. -/
import Derived.Test.YtmknengmjepdaaaGa
import Derived.DeepKeys
import Derived.WalkArith
namespace Go.Proofs.Ytmknengmjepdaaa
open Go.RowKit

def litOf : Value → Lit
  | .int k n => .int k n
  | .bool b => .bool b
  | _ => .bool false
theorem mapM_all {α β : Type} {g : α → Option β} {f : α → β} : ∀ (l : List α), (∀ x ∈ l, g x = some (f x)) → l.mapM g = some (l.map f)
  | [], _ => rfl
  | x :: l, h => by
    rw [List.mapM_cons, h x (List.mem_cons_self ..), mapM_all l (fun y hy => h y (List.mem_cons_of_mem _ hy))]
    rfl
theorem seg_flat {α : Type} (c : Nat) : ∀ (n : Nat) (cs : List α), cs.length = n * c → ((List.range n).map fun i => (cs.drop (i * c)).take c).flatten = cs
  | 0, cs, h => by
    have : cs = [] := List.eq_nil_of_length_eq_zero (by simpa using h)
    rw [this]; rfl
  | n + 1, cs, h => by
    rw [List.range_succ_eq_map, List.map_cons, List.flatten_cons, List.map_map]
    have e : ((fun i => (cs.drop (i * c)).take c) ∘ Nat.succ) = fun i => ((cs.drop c).drop (i * c)).take c := by
      funext i
      simp only [Function.comp, List.drop_drop, Nat.succ_mul]
      rw [Nat.add_comm]
    rw [e, seg_flat c n (cs.drop c) (by rw [List.length_drop, h, Nat.succ_mul]; omega), Nat.zero_mul, List.drop_zero, List.take_append_drop]

section
variable {P : Program}
theorem key_int {t : TypeId} {d : Nat} {z : Int} (ht : P.underlying t = some (.int .i64)) (hw : (Lit.int .i64 z).wf = true) : P.keyLits (d + 1) t [.int .i64 z] = some ([Value.int .i64 z].map litOf) := by
  simp [Program.keyLits, ht, hw, litOf]
theorem key_bool {t : TypeId} {d : Nat} {b : Bool} (ht : P.underlying t = some .bool) : P.keyLits (d + 1) t [.bool b] = some ([Value.bool b].map litOf) := by
  simp [Program.keyLits, ht, litOf]
theorem key_arr {t e : TypeId} {d n c : Nat} {cs : List Value} (ht : P.underlying t = some (.array n e)) (hc : P.cellsOf e = c) (hl : P.cellsOf t = n * c) (hcs : cs.length = n * c)
    (h : ∀ i, i < n → P.keyLits d e ((cs.drop (i * c)).take c) = some (((cs.drop (i * c)).take c).map litOf)) : P.keyLits (d + 1) t cs = some (cs.map litOf) := by
  have hm : (List.range n).mapM (fun i => P.keyLits d e ((cs.drop (i * c)).take c)) = some ((List.range n).map fun i => ((cs.drop (i * c)).take c).map litOf) :=
    mapM_all _ (fun i hi => h i (List.mem_range.1 hi))
  have hf : ((List.range n).map fun i => ((cs.drop (i * c)).take c).map litOf).flatten = cs.map litOf := by
    have := congrArg (List.map litOf) (seg_flat c n cs hcs)
    rw [List.map_flatten, List.map_map] at this
    exact this
  have e : P.keyLits (d + 1) t cs = if cs.length = P.cellsOf t then ((List.range n).mapM fun i => P.keyLits d e ((cs.drop (i * P.cellsOf e)).take (P.cellsOf e))).map List.flatten else none := by
    conv => lhs; unfold Program.keyLits
    rw [ht]
  rw [e, if_pos (by rw [hcs, hl]), hc, hm]
  simp only [Option.map_some]
  rw [hf]
theorem key_struct2 {t : TypeId} {f0 f1 : Field} {d a b : Nat} {cs : List Value} (ht : P.underlying t = some (.struct #[f0, f1])) (hn : (#[f0, f1].all (·.name != "_")) = true) (o0 : f0.offset = 0) (o1 : f1.offset = a) (c0 : P.cellsOf f0.type = a) (c1 : P.cellsOf f1.type = b) (hl : P.cellsOf t = a + b) (hcs : cs.length = a + b)
    (h0 : P.keyLits d f0.type (cs.take a) = some ((cs.take a).map litOf)) (h1 : P.keyLits d f1.type (cs.drop a) = some ((cs.drop a).map litOf)) : P.keyLits (d + 1) t cs = some (cs.map litOf) := by
  have e1 : (cs.drop a).take b = cs.drop a := List.take_of_length_le (by rw [List.length_drop]; omega)
  have hf : (cs.take a).map litOf ++ (cs.drop a).map litOf = cs.map litOf := by rw [← List.map_append, List.take_append_drop]
  have e : P.keyLits (d + 1) t cs = if cs.length = P.cellsOf t ∧ #[f0, f1].all (·.name != "_") = true then (#[f0, f1].toList.mapM fun f => P.keyLits d f.type ((cs.drop f.offset).take (P.cellsOf f.type))).map List.flatten else none := by
    conv => lhs; unfold Program.keyLits
    rw [ht]
  rw [e, if_pos ⟨by rw [hcs, hl], hn⟩]
  simp only [List.mapM_cons, List.mapM_nil, o0, o1, c0, c1, List.drop_zero, e1, h0, h1]
  rw [← hf]
  simp
end

theorem wf_i64 {z : Int} (h : I64 z) : (Lit.int .i64 z).wf = true := WalkArith.wf_i64 (by unfold I64 at h; omega)
/-- The cells of a closure as its literals. -/
theorem cl_lits {N : Nat} {M : Nat → Nat → Int} (hM : ∀ a b, I64 (M a b)) : Try.prog.keyLits 4 122 (clArr N M).toList = some ((clArr N M).toList.map litOf) := by
  have hlen : (clArr N M).toList.length = 512 := by rw [Array.length_toList, clArr_size]
  have hget : ∀ i, i < 512 → (clArr N M).toList[i]? = some (clV N M i) := fun i hi => by
    have := vArr_get (g := clV N M) hi
    rw [Array.getElem?_toList]
    exact this
  obtain ⟨cs, hcs⟩ : ∃ cs, (clArr N M).toList = cs := ⟨_, rfl⟩
  rw [hcs] at hlen hget ⊢
  have one : ∀ k, k < 512 → (cs.drop k).take 1 = [clV N M k] := fun k hk => by
    have := hget k hk
    rw [List.getElem?_eq_getElem (by omega)] at this
    rw [List.drop_eq_getElem_cons (by omega), List.take_succ_cons, List.take_zero, Option.some.inj this]
  refine key_struct2 (a := 256) (b := 256) Try.underlying122 (by kernel_rfl) rfl rfl (by kernel_rfl) (by kernel_rfl) (by kernel_rfl) hlen ?_ ?_
  · refine key_arr (c := 16) Try.underlying118 (by kernel_rfl) (by kernel_rfl) (by rw [List.length_take]; omega) (fun i hi => ?_)
    refine key_arr (c := 1) Try.underlying117 (by kernel_rfl) (by kernel_rfl) (by rw [List.length_take, List.length_drop, List.length_take]; omega) (fun j hj => ?_)
    have e : List.take 1 (List.drop (j * 1) (List.take 16 (List.drop (i * 16) (List.take 256 cs)))) = [clV N M (i * 16 + j)] := by
      have hmin : min 1 (min 16 (256 - i * 16) - j * 1) = 1 := by omega
      rw [← one (i * 16 + j) (by omega)]
      simp only [List.drop_take, List.take_take, List.drop_drop]
      rw [hmin, Nat.mul_one]
    rw [e, clV_w (by omega) (by omega)]
    refine key_int Try.underlying3 (wf_i64 ?_)
    unfold onW
    split
    · exact hM _ _
    · unfold I64; omega
  · refine key_arr (c := 16) Try.underlying120 (by kernel_rfl) (by kernel_rfl) (by rw [List.length_drop]; omega) (fun i hi => ?_)
    refine key_arr (c := 1) Try.underlying119 (by kernel_rfl) (by kernel_rfl) (by rw [List.length_take, List.length_drop, List.length_drop]; omega) (fun j hj => ?_)
    have e : List.take 1 (List.drop (j * 1) (List.take 16 (List.drop (i * 16) (List.drop 256 cs)))) = [clV N M (256 + i * 16 + j)] := by
      rw [← one (256 + i * 16 + j) (by omega), List.drop_take, List.take_take, List.drop_drop, List.drop_drop]
      rw [show min 1 (16 - j * 1) = 1 by omega, Nat.mul_one, Nat.add_assoc]
    rw [e, clV_b (by omega)]
    exact key_bool Try.underlying4

/-- Two closures are the same just where all entries are. -/
theorem clArr_eq {N : Nat} {M M' : Nat → Nat → Int} (hN : N ≤ 16) : clArr N M = clArr N M' ↔ ∀ x y, x < N → y < N → M x y = M' x y := by
  constructor
  · intro h x y hx hy
    have h1 : (clArr N M)[x * 16 + y]? = (clArr N M')[x * 16 + y]? := by rw [h]
    have h2 : (clArr N M)[256 + x * 16 + y]? = (clArr N M')[256 + x * 16 + y]? := by rw [h]
    rw [clArr_w (by omega) (by omega), clArr_w (by omega) (by omega)] at h1
    rw [clArr_b (by omega) (by omega), clArr_b (by omega) (by omega)] at h2
    simp only [Option.some.injEq, Value.int.injEq, true_and, Value.bool.injEq] at h1 h2
    by_cases hm : M x y = NONE
    · have e : onB N M x y = false := by unfold onB; simp [hm]
      rw [e] at h2
      unfold onB at h2
      have h3 := of_decide_eq_false h2.symm
      have h4 : M' x y = NONE := Decidable.byContradiction fun hh => h3 ⟨hx, hy, hh⟩
      rw [hm, h4]
    · have e : onB N M x y = true := by unfold onB; simp [hm, hx, hy]
      have e' : onB N M' x y = true := by rw [← h2]; exact e
      unfold onW at h1
      rw [e, e'] at h1
      simpa using h1
  · intro h; exact clArr_congr h
theorem lits_inj {N : Nat} {M M' : Nat → Nat → Int} (h : (clArr N M).toList.map litOf = (clArr N M').toList.map litOf) : clArr N M = clArr N M' := by
  apply Array.ext_getElem?
  intro i
  by_cases hi : i < 512
  · have e : ∀ M, (clArr N M)[i]? = some (clV N M i) := fun M => vArr_get hi
    rw [e, e]
    have h1 := congrArg (fun l => l[i]?) h
    simp only [List.getElem?_map, Array.getElem?_toList, e, Option.map_some, Option.some.injEq] at h1
    unfold clV at h1 ⊢
    split at h1
    · rename_i h3
      rw [if_pos h3, if_pos h3]
      simp only [litOf, Lit.int.injEq, true_and] at h1
      rw [h1]
    · rename_i h3
      rw [if_neg h3, if_neg h3]
      simp only [litOf, Lit.bool.injEq] at h1
      rw [h1]
  · rw [Array.getElem?_eq_none (by rw [clArr_size]; omega), Array.getElem?_eq_none (by rw [clArr_size]; omega)]
set_option maxRecDepth 100000 in
/-- The comparison. -/
theorem cl_equal {N : Nat} {M M' : Nat → Nat → Int} (hM : ∀ a b, I64 (M a b)) (hM' : ∀ a b, I64 (M' a b)) (w : World) :
    ∃ r : Bool, (r = true ↔ clArr N M = clArr N M') ∧ (Op.equalIn 10000 122 (.agg (clArr N M)) (.agg (clArr N M'))).run Try.prog w = .ok r w := by
  have hf : ∀ M : Nat → Nat → Int, (Value.agg (clArr N M)).formed Try.prog 122 = true := fun M => by
    simp only [Value.formed, Try.underlying122, clArr_size]
    kernel_rfl
  obtain ⟨r, hr, hiff⟩ := run_equalIn_deep (P := Try.prog) 9996 4 122 (by kernel_rfl) w 4 4 (.agg (clArr N M)) (.agg (clArr N M')) _ _ (hf M) (hf M') (cl_lits hM) (cl_lits hM')
  exact ⟨r, ⟨fun h => lits_inj (hiff.1 h), fun h => hiff.2 (by rw [h])⟩, hr⟩

end Go.Proofs.Ytmknengmjepdaaa
