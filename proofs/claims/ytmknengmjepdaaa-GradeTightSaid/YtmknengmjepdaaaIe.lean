/- For the walk of grade.Pattern.solve: the three stores of a gain, in whatever order they come up among the reads. -/
import Derived.Test.YtmknengmjepdaaaId
import Derived.Test.YtmknengmjepdaaaRl
namespace Go.Proofs.Ytmknengmjepdaaa
open Go.RowKit Go.Shelf

/-- A region all of whose operations are quiet; calls may lay blocks. -/
theorem wp_region_sub {P : Program} {id : Nat} {Q : Exit → Act → World → Prop} {a : Act} {w : World} {l : List Oper} (hm : P.follows .mixedOrders = true) (hB : Region.lexB .any l.toArray = true)
    (h : wpQuiet P l.toArray (fun w' => ∃ x : Sub w, w' = x.w) (fun a' => ∀ w', (∃ x : Sub w, w' = x.w) → Q .normal a' w') l a) : (Code.region id l.toArray true).wp P Q a w :=
  wp_region_quiet (C := fun w' => ∃ x : Sub w, w' = x.w) hm hB (Sub.first w) (by simpa using h)
/-- The length of a slice value. -/
def lenSl : Value → Nat
  | .slice _ n _ => n
  | _ => 0
theorem updF_idem (f : Nat → Int) (a : Nat) (z : Int) : updF (updF f a z) a z = updF f a z := by
  funext v; unfold updF; split <;> rfl
theorem getD_set_self {L : Array Bool} {i : Nat} (h : i < L.size) : (L.setIfInBounds i true).getD i false = true := by
  rw [Array.getD_eq_getD_getElem?, Array.getElem?_setIfInBounds_self_of_lt h]; rfl

/-- What is done, as far as it has come up. -/
def gainSt (s : BSt) (A : Nat) (y k : Int) (L : Array Bool) : BSt :=
  ⟨if L.getD 11 false = true then updF s.x A y else s.x, if L.getD 13 false = true then updF s.by_ A k else s.by_, if L.getD 14 false = true then (A : Int) else s.last⟩
/-- The class; G: what else is kept. -/
def Gain (S N : Nat) (pa : Array Value) (n d : Int) (s : BSt) (A : Nat) (y k : Int) (G : World → Prop) (L : Array Bool) (W : World) : Prop :=
  L.size = 15 ∧ So W S N pa n d (gainSt s A y k L) ∧ G W
/-- G is kept by the stores. -/
def StoreOk (S : Nat) (G : World → Prop) : Prop := ∀ W b cs t j u, S + 3 ≤ b → b < S + 7 → Blk W b cs t → G W → G (W.setCell ⟨b, j, none⟩ u)
section
variable {S N : Nat} {pa : Array Value} {n d : Int} {s : BSt} {A : Nat} {y k : Int} {G : World → Prop} {L : Array Bool} {W : World}
theorem gain_read {i : Nat} (h1 : i ≠ 11) (h2 : i ≠ 13) (h3 : i ≠ 14) (h : Gain S N pa n d s A y k G L W) : Gain S N pa n d s A y k G (L.setIfInBounds i true) W := by
  obtain ⟨a, b, c⟩ := h
  refine ⟨by simpa using a, ?_, c⟩
  have e : gainSt s A y k (L.setIfInBounds i true) = gainSt s A y k L := by
    unfold gainSt
    rw [Go.getD_set_ne false h1, Go.getD_set_ne false h2, Go.getD_set_ne false h3]
  rw [e]
  exact b
theorem gain_x (hG : StoreOk S G) (h : Gain S N pa n d s A y k G L W) : Gain S N pa n d s A y k G (L.setIfInBounds 11 true) (W.setCell ⟨S + 1 + 1 + 1, A, none⟩ (.int .i64 y)) := by
  obtain ⟨a, b, c⟩ := h
  refine ⟨by simpa using a, ?_, hG W _ _ _ _ _ (by omega) (by omega) b.kx c⟩
  have e : gainSt s A y k (L.setIfInBounds 11 true) = ⟨updF (gainSt s A y k L).x A y, (gainSt s A y k L).by_, (gainSt s A y k L).last⟩ := by
    unfold gainSt
    rw [getD_set_self (by omega), Go.getD_set_ne false (by decide), Go.getD_set_ne false (by decide), if_pos rfl]
    congr 1
    dsimp only
    split
    · rw [updF_idem]
    · rfl
  rw [e]
  exact b.setX A y
theorem gain_b (hG : StoreOk S G) (h : Gain S N pa n d s A y k G L W) : Gain S N pa n d s A y k G (L.setIfInBounds 13 true) (W.setCell ⟨S + 1 + 1 + 1 + 1, A, none⟩ (.int .i64 k)) := by
  obtain ⟨a, b, c⟩ := h
  refine ⟨by simpa using a, ?_, hG W _ _ _ _ _ (by omega) (by omega) b.kb c⟩
  have e : gainSt s A y k (L.setIfInBounds 13 true) = ⟨(gainSt s A y k L).x, updF (gainSt s A y k L).by_ A k, (gainSt s A y k L).last⟩ := by
    unfold gainSt
    rw [getD_set_self (by omega), Go.getD_set_ne false (by decide), Go.getD_set_ne false (by decide), if_pos rfl]
    congr 1
    dsimp only
    split
    · rw [updF_idem]
    · rfl
  rw [e]
  exact b.setB A k
theorem gain_l (hG : StoreOk S G) (h : Gain S N pa n d s A y k G L W) : Gain S N pa n d s A y k G (L.setIfInBounds 14 true) (W.setCell ⟨S + 1 + 1 + 1 + 1 + 1 + 1, 0, none⟩ (.int .i64 (A : Int))) := by
  obtain ⟨a, b, c⟩ := h
  refine ⟨by simpa using a, ?_, hG W _ _ _ _ _ (by omega) (by omega) b.kl c⟩
  have e : gainSt s A y k (L.setIfInBounds 14 true) = ⟨(gainSt s A y k L).x, (gainSt s A y k L).by_, (A : Int)⟩ := by
    unfold gainSt
    rw [getD_set_self (by omega), Go.getD_set_ne false (by decide), Go.getD_set_ne false (by decide), if_pos rfl]
  rw [e]
  exact b.setLast A
theorem gain_end (h : Gain S N pa n d s A y k G L W) (hL : ∀ j, j < 15 → L.getD j false = true) : So W S N pa n d ⟨updF s.x A y, updF s.by_ A k, (A : Int)⟩ ∧ G W := by
  obtain ⟨_, b, c⟩ := h
  unfold gainSt at b
  rw [hL 11 (by decide), hL 13 (by decide), hL 14 (by decide), if_pos rfl, if_pos rfl, if_pos rfl] at b
  exact ⟨b, c⟩
end

end Go.Proofs.Ytmknengmjepdaaa
