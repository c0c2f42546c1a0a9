/- What both Slacks share. -/
import Derived.Test.YtmknengmjepdaaaYc
namespace Go.Proofs.Ytmknengmjepdaaa
open Go.RowKit

/-- What holds of what has come up in a region of the shape 'x, e := f(..)', x a variable of the call's own. -/
structure CallI (B : Nat) (w0 : World) (kc km k0 k1 ka ks kz : Nat) (R x0 x1 : Value) (t : TypeId) (sz : Nat) (rc : Array Value) (l : Nat → Bool) (V : Nat → Value) (w : World) : Prop where
  b : Below B w0 w
  c : l kc = true → V kc = R
  m : l km = true → V km = R
  e0 : l k0 = true → V k0 = x0
  e1 : l k1 = true → V k1 = x1
  a : l ka = true → VarI B w (V ka) t sz (l ks) rc
  z : l kz = true → V kz = x1

theorem owns_setCell {w : World} {B0 B : Nat} {e : TypeId} {size : Nat} {v : Value} {n : Nat} {xs : List Value} (h : w.ownsRow B0 e size v n xs) (hb : ∀ k, v.ownBlock = some k → k < B) {p : Addr} (hp : B ≤ p.block) (u : Value) : (w.setCell p u).ownsRow B0 e size v n xs := by
  refine h.kept (row := some p.block) ⟨rfl, rfl, rfl, by simp, fun k hk hne => Below.heap_setCell w p u k (fun e => hne (by rw [e]))⟩ ?_
  cases hv : v.ownBlock with
  | none => exact .inl rfl
  | some k =>
    right
    intro e
    have := hb k hv
    have := Option.some.inj e
    omega
/-- The slack of one rule. -/
def slkE (n d : Int) (l : List (Int × Int)) (r : Rul) : Int :=
  let a := l.getD r.a.toNat (0, 0)
  let b := l.getD r.b.toNat (0, 0)
  if subE a.1 a.2 b.1 b.2 = 0 then subE (subN a.1 a.2 b.1 b.2) (subD a.1 a.2 b.1 b.2) (newN (wt r n d) d) (newD (wt r n d) d) else subE a.1 a.2 b.1 b.2
def slkF (n d : Int) (l : List (Int × Int)) (r : Rul) : Int × Int :=
  let a := l.getD r.a.toNat (0, 0)
  let b := l.getD r.b.toNat (0, 0)
  (subN (subN a.1 a.2 b.1 b.2) (subD a.1 a.2 b.1 b.2) (newN (wt r n d) d) (newD (wt r n d) d), subD (subN a.1 a.2 b.1 b.2) (subD a.1 a.2 b.1 b.2) (newN (wt r n d) d) (newD (wt r n d) d))
/-- The first error. -/
def slkEs (n d : Int) (l : List (Int × Int)) : List Rul → Int
  | [] => 0
  | r :: rs => if slkE n d l r = 0 then slkEs n d l rs else slkE n d l r
theorem slkEs_all {n d : Int} {l : List (Int × Int)} : ∀ {rs : List Rul}, (∀ r ∈ rs, slkE n d l r = 0) → slkEs n d l rs = 0
  | [], _ => rfl
  | r :: rs, h => by
    unfold slkEs
    rw [if_pos (h r (List.mem_cons_self ..))]
    exact slkEs_all (fun x hx => h x (List.mem_cons_of_mem _ hx))
theorem slkEs_at {n d : Int} {l : List (Int × Int)} : ∀ {rs : List Rul} {i : Nat} {r : Rul}, rs[i]? = some r → (∀ x ∈ rs.take i, slkE n d l x = 0) → slkE n d l r ≠ 0 → slkEs n d l rs = slkE n d l r
  | [], i, r, h, _, _ => by simp at h
  | x :: rs, 0, r, h, _, h2 => by
    have : x = r := by simpa using h
    subst this
    unfold slkEs
    rw [if_neg h2]
  | x :: rs, i + 1, r, h, h1, h2 => by
    unfold slkEs
    rw [if_pos (h1 x (by simp))]
    exact slkEs_at (by simpa using h) (fun y hy => h1 y (by simp [hy])) h2
/-- What Slack hands back. -/
def slE (p : Pat) (n d : Int) (l : List (Int × Int)) : Int := if PValid p ∧ FSize n d ∧ AsgP p l then slkEs n d l p.rules else 2
def slL (p : Pat) (n d : Int) (l : List (Int × Int)) : List (Int × Int) := if slE p n d l = 0 then p.rules.map (slkF n d l) else []
theorem slack_two {p : Pat} {n d : Int} {l : List (Int × Int)} (h : ¬ (PValid p ∧ FSize n d ∧ AsgP p l)) : slE p n d l = 2 ∧ slL p n d l = [] := by
  have h1 : slE p n d l = 2 := if_neg h
  exact ⟨h1, by unfold slL; rw [h1]; rfl⟩
theorem slack_at {p : Pat} {n d : Int} {l : List (Int × Int)} (h : PValid p ∧ FSize n d ∧ AsgP p l) {i : Nat} {r : Rul} (hr : p.rules[i]? = some r) (h1 : ∀ x ∈ p.rules.take i, slkE n d l x = 0) {e : Int} (h2 : slkE n d l r = e) (h3 : e ≠ 0) : slE p n d l = e ∧ slL p n d l = [] := by
  have h4 : slE p n d l = e := by
    unfold slE
    rw [if_pos h, slkEs_at hr h1 (by rw [h2]; exact h3), h2]
  exact ⟨h4, by unfold slL; rw [if_neg (by rw [h4]; exact h3)]⟩
theorem slack_ok {p : Pat} {n d : Int} {l : List (Int × Int)} (h : PValid p ∧ FSize n d ∧ AsgP p l) (h1 : ∀ x ∈ p.rules, slkE n d l x = 0) : slE p n d l = 0 ∧ slL p n d l = p.rules.map (slkF n d l) := by
  have h4 : slE p n d l = 0 := by
    unfold slE
    rw [if_pos h, slkEs_all h1]
  exact ⟨h4, by unfold slL; rw [if_pos h4]⟩


end Go.Proofs.Ytmknengmjepdaaa
