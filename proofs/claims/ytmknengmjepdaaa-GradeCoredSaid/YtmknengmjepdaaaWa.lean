/- Rules that follow from others, and the core of a pattern, plainly. -/
import Derived.Test.YtmknengmjepdaaaGd
import Derived.Test.YtmknengmjepdaaaWl
namespace Go.Proofs.Ytmknengmjepdaaa
open Go.RowKit

theorem less_mem {p : Pat} {k : Nat} {r : Rul} (h : r ∈ (lessP p k).rules) : r ∈ p.rules := List.mem_of_mem_eraseIdx h
theorem ext_mem_iff {p : Pat} {r : Rul} : r ∈ ext p ↔ r ∈ p.rules ∨ r ∈ (List.range (p.n.toNat - 1)).map fun i => ground (i + 1) := by unfold ext; exact List.mem_append
theorem ext_sub {p q : Pat} (hn : q.n = p.n) (h : ∀ r ∈ q.rules, r ∈ p.rules) : ∀ r ∈ ext q, r ∈ ext p := by
  intro r hr
  rw [ext_mem_iff] at hr ⊢
  rw [hn] at hr
  exact hr.imp (h r) id
theorem less_valid {p : Pat} (hp : PValid p) (k : Nat) : PValid (lessP p k) :=
  ⟨hp.1, hp.2.1, Nat.le_trans (List.length_eraseIdx_le _ _) hp.2.2.1, fun r hr => hp.2.2.2 r (less_mem hr)⟩
theorem sub_nopos {p q : Pat} {n d : Int} (hs : ∀ r ∈ ext q, r ∈ ext p) (h : NoPos p n d) : NoPos q n d := fun l a hl hw => h l a (fun r hr => hs r (hl r hr)) hw
theorem less_nopos {p : Pat} {n d : Int} (k : Nat) (h : NoPos p n d) : NoPos (lessP p k) n d := sub_nopos (ext_sub (p := p) (q := lessP p k) rfl fun _ hr => less_mem hr) h
theorem less_bad {p : Pat} {n d : Int} (hp : PValid p) (hs : FSize n d) (k : Nat) (h : chBad p n d = false) : chBad (lessP p k) n d = false := (chBad_iff (less_valid hp k) hs).2 (less_nopos k ((chBad_iff hp hs).1 h))

/-- A rule follows from a pattern. -/
def Fol (p : Pat) (n d : Int) (r : Rul) : Prop := ∃ l, (∀ x ∈ l, x ∈ ext p) ∧ isWalk l r.a.toNat r.b.toNat ∧ wt r n d ≤ wts n d l
theorem fol_mono {p q : Pat} {n d : Int} {r : Rul} (hs : ∀ r ∈ ext q, r ∈ ext p) (h : Fol q n d r) : Fol p n d r := by
  obtain ⟨l, h1, h2, h3⟩ := h
  exact ⟨l, fun x hx => hs x (h1 x hx), h2, h3⟩
theorem folB_iff {p : Pat} {n d : Int} {r : Rul} (hp : PValid p) (hs : FSize n d) (hb : chBad p n d = false) (hr : RV p.n r) : folB p n d r = true ↔ Fol p n d r := by
  have ha : r.a.toNat < p.n.toNat := by have := hr.1; have := hr.2.1; omega
  have hbb : r.b.toNat < p.n.toNat := by have := hr.2.2.1; have := hr.2.2.2.1; omega
  unfold folB
  simp only [Bool.and_eq_true, decide_eq_true_eq]
  constructor
  · rintro ⟨h1, h2⟩
    obtain ⟨l, l1, l2, l3⟩ := (finv_good hp hs hb).wk _ _ ha hbb h1
    exact ⟨l, l1, l2, by omega⟩
  · rintro ⟨l, l1, l2, l3⟩
    obtain ⟨-, k1, k2⟩ := finv_walk hp (finv_good hp hs hb) l _ _ ha l1 l2
    exact ⟨k1, by omega⟩
theorem fol_self {p : Pat} {n d : Int} {r : Rul} (hr : r ∈ ext p) (h0 : 0 ≤ r.a) : Fol p n d r := ⟨[r], by simpa using hr, ⟨by omega, rfl⟩, by simp [wts]⟩
theorem fol_chain {q : Pat} {n d : Int} : ∀ (l : List Rul) (a b : Nat), (∀ x ∈ l, Fol q n d x) → isWalk l a b → ∃ l', (∀ x ∈ l', x ∈ ext q) ∧ isWalk l' a b ∧ wts n d l ≤ wts n d l'
  | [], a, b, _, hw => ⟨[], by simp, hw, Int.le_refl _⟩
  | r :: l, a, b, hl, hw => by
    obtain ⟨l1, a1, a2, a3⟩ := hl r (List.mem_cons_self ..)
    obtain ⟨l2, b1, b2, b3⟩ := fol_chain l r.b.toNat b (fun x hx => hl x (List.mem_cons_of_mem _ hx)) hw.2
    have ha : r.a.toNat = a := by rw [hw.1]; simp
    rw [ha] at a2
    exact ⟨l1 ++ l2, mem_app a1 b1, isWalk_append a2 b2, by rw [wts_cons, wts_append]; omega⟩
theorem fol_trans {p q : Pat} {n d : Int} {r : Rul} (h : ∀ x ∈ ext p, Fol q n d x) (k : Fol p n d r) : Fol q n d r := by
  obtain ⟨l, h1, h2, h3⟩ := k
  obtain ⟨l', k1, k2, k3⟩ := fol_chain l _ _ (fun x hx => h x (h1 x hx)) h2
  exact ⟨l', k1, k2, by omega⟩

/-- One rule of the core: the rules that are left, and those of them that are kept. -/
def coreS (n d : Int) (k : Nat) (s : Pat × List Int) : Pat × List Int :=
  if folB (lessP s.1 k) n d (s.1.rules.getD k ⟨0, 0, 0, 0⟩) then (lessP s.1 k, s.2) else (s.1, (k : Int) :: s.2)
/-- The core behind j rules, the last ones. -/
def coreN (n d : Int) (p : Pat) : Nat → Pat × List Int
  | 0 => (p, [])
  | j + 1 => coreS n d (p.rules.length - (j + 1)) (coreN n d p j)
def coreP (n d : Int) (p : Pat) : Pat × List Int := coreN n d p p.rules.length

theorem getD_rule {p : Pat} {k : Nat} (h : k < p.rules.length) : p.rules[k]? = some (p.rules.getD k ⟨0, 0, 0, 0⟩) := by
  rw [List.getD_eq_getElem?_getD, List.getElem?_eq_getElem h]; rfl
/-- What holds behind j rules. -/
structure CoreOk (n d : Int) (p : Pat) (k : Nat) (s : Pat × List Int) : Prop where
  nn : s.1.n = p.n
  len : s.1.rules.length = k + s.2.length
  val : PValid s.1
  low : s.1.rules.take k = p.rules.take k
  sub : ∀ r ∈ s.1.rules, r ∈ p.rules
  get : ∀ i : Nat, i < s.2.length → ∃ m : Nat, s.2[i]? = some (m : Int) ∧ k ≤ m ∧ m < p.rules.length ∧ s.1.rules[k + i]? = p.rules[m]?
  inc : ∀ (i : Nat) (x y : Int), s.2[i]? = some x → s.2[i + 1]? = some y → x < y
  fol : ∀ r ∈ ext p, Fol s.1 n d r
  irr : ∀ j r, k ≤ j → s.1.rules[j]? = some r → ¬ Fol (lessP s.1 j) n d r
theorem core_start {n d : Int} {p : Pat} (hp : PValid p) : CoreOk n d p p.rules.length (p, []) where
  nn := rfl
  len := rfl
  val := hp
  low := rfl
  sub := fun r hr => hr
  get := fun i hi => by simp at hi
  inc := fun i x y hx => by simp at hx
  fol := fun r hr => fol_self hr (ext_rv hp.1 hp.2.2.2 r hr).1
  irr := fun j r hj hr => by
    have := (List.getElem?_eq_some_iff.1 hr).1
    dsimp only at this
    omega
theorem core_step {n d : Int} {p : Pat} {k : Nat} {s : Pat × List Int} (hp : PValid p) (hs : FSize n d) (hb : chBad p n d = false) (hk : k < p.rules.length) (h : CoreOk n d p (k + 1) s) : CoreOk n d p k (coreS n d k s) := by
  obtain ⟨P, o⟩ := s
  have hkl : k < P.rules.length := by have := h.len; dsimp only at this; omega
  have hg := getD_rule hkl
  have hval := h.val
  have hsub := h.sub
  dsimp only at hval hsub
  have hbP : chBad P n d = false := (chBad_iff hval hs).2 (sub_nopos (ext_sub h.nn hsub) ((chBad_iff hp hs).1 hb))
  have hlow : ∀ i, i < k + 1 → P.rules[i]? = p.rules[i]? := by
    intro i hi
    have := congrArg (fun l => l[i]?) h.low
    dsimp only at this
    rwa [List.getElem?_take_of_lt hi, List.getElem?_take_of_lt hi] at this
  obtain ⟨r, hr⟩ : ∃ r, P.rules.getD k ⟨0, 0, 0, 0⟩ = r := ⟨_, rfl⟩
  rw [hr] at hg
  have hrm : r ∈ P.rules := List.mem_of_getElem? hg
  have hrv : RV (lessP P k).n r := hval.2.2.2 r hrm
  have hiff := folB_iff (less_valid hval k) hs (less_bad hval hs k hbP) hrv
  unfold coreS
  dsimp only
  rw [hr]
  by_cases hf : folB (lessP P k) n d r = true
  · rw [if_pos hf]
    have hfo := hiff.1 hf
    have hlen : (lessP P k).rules.length = P.rules.length - 1 := List.length_eraseIdx_of_lt hkl
    have hge : ∀ j, k ≤ j → (lessP P k).rules[j]? = P.rules[j + 1]? := fun j hj => by
      show (P.rules.eraseIdx k)[j]? = _
      rw [List.getElem?_eraseIdx, if_neg (by omega)]
    have hl := h.len
    dsimp only at hl
    refine ⟨h.nn, ?_, less_valid hval k, ?_, fun x hx => hsub x (less_mem hx), ?_, h.inc, ?_, ?_⟩
    · dsimp only; omega
    · dsimp only
      have : (lessP P k).rules.take k = P.rules.take k := by
        show (P.rules.eraseIdx k).take k = _
        rw [List.eraseIdx_eq_take_drop_succ, List.take_append_of_le_length (by rw [List.length_take]; omega), List.take_take, Nat.min_self]
      rw [this]
      have h2 := congrArg (List.take k) h.low
      rwa [List.take_take, List.take_take, Nat.min_eq_left (Nat.le_succ k)] at h2
    · intro i hi
      obtain ⟨m, m1, m2, m3, m4⟩ := h.get i hi
      refine ⟨m, m1, by omega, m3, ?_⟩
      dsimp only at m4 ⊢
      rw [hge (k + i) (by omega), show k + i + 1 = k + 1 + i by omega]
      exact m4
    · intro x hx
      refine fol_trans (fun y hy => ?_) (h.fol x hx)
      rcases ext_mem_iff.1 hy with hy | hy
      · by_cases hyr : y = r
        · subst hyr; exact hfo
        · refine fol_self ?_ (hval.2.2.2 y hy).1
          rw [ext_mem_iff]
          left
          obtain ⟨j, hj⟩ := List.getElem?_of_mem hy
          refine (List.mem_eraseIdx_iff_getElem? ..).2 ⟨j, ?_, hj⟩
          rintro rfl
          rw [hg] at hj
          exact hyr (Option.some.inj hj).symm
      · refine fol_self (ext_mem_iff.2 (.inr hy)) ?_
        obtain ⟨i, _, rfl⟩ := List.mem_map.1 hy
        show (0 : Int) ≤ ((i + 1 : Nat) : Int)
        omega
    · intro j x hj hx hfx
      dsimp only at hx hfx
      rw [hge j hj] at hx
      refine h.irr (j + 1) x (by omega) hx (fol_mono (p := lessP P (j + 1)) (q := lessP (lessP P k) j) (ext_sub rfl fun y hy => ?_) hfx)
      obtain ⟨i, hi, hiy⟩ := (List.mem_eraseIdx_iff_getElem? ..).1 hy
      refine (List.mem_eraseIdx_iff_getElem? ..).2 ?_
      change (P.rules.eraseIdx k)[i]? = some y at hiy
      rw [List.getElem?_eraseIdx] at hiy
      by_cases hik : i < k
      · rw [if_pos hik] at hiy
        exact ⟨i, by omega, hiy⟩
      · rw [if_neg hik] at hiy
        exact ⟨i + 1, by omega, hiy⟩
  · rw [if_neg hf]
    have hno : ¬ Fol (lessP P k) n d r := fun hh => hf (hiff.2 hh)
    have hl := h.len
    dsimp only at hl
    refine ⟨h.nn, ?_, hval, ?_, hsub, ?_, ?_, h.fol, ?_⟩
    · dsimp only; rw [List.length_cons]; omega
    · have h2 := congrArg (List.take k) h.low
      rwa [List.take_take, List.take_take, Nat.min_eq_left (Nat.le_succ k)] at h2
    · intro i hi
      cases i with
      | zero => exact ⟨k, rfl, Nat.le_refl _, hk, hlow k (by omega)⟩
      | succ i =>
        obtain ⟨m, m1, m2, m3, m4⟩ := h.get i (by simpa using hi)
        refine ⟨m, m1, by omega, m3, ?_⟩
        dsimp only at m4 ⊢
        rw [show k + (i + 1) = k + 1 + i by omega]
        exact m4
    · intro i x y hx hy
      cases i with
      | zero =>
        obtain rfl : (k : Int) = x := by simpa using hx
        have hy0 : o[0]? = some y := by simpa using hy
        obtain ⟨m, m1, m2, -, -⟩ := h.get 0 (List.getElem?_eq_some_iff.1 hy0).1
        rw [hy0] at m1
        have := Option.some.inj m1
        omega
      | succ i => exact h.inc i x y (by simpa using hx) (by simpa using hy)
    · intro j x hj hx
      dsimp only at hx ⊢
      by_cases hjk : j = k
      · subst hjk
        rw [hg] at hx
        rw [← Option.some.inj hx]
        exact hno
      · exact h.irr j x (by omega) hx
theorem core_ok {n d : Int} {p : Pat} (hp : PValid p) (hs : FSize n d) (hb : chBad p n d = false) : ∀ j, j ≤ p.rules.length → CoreOk n d p (p.rules.length - j) (coreN n d p j)
  | 0, _ => core_start hp
  | j + 1, hj => by
    have h := core_ok hp hs hb j (by omega)
    rw [show p.rules.length - j = p.rules.length - (j + 1) + 1 by omega] at h
    exact core_step hp hs hb (by omega) h

/-- What Implied hands back. -/
def impE (p : Pat) (n d k : Int) : Int := if PValid p ∧ FSize n d ∧ 0 ≤ k ∧ k < p.rules.length then (if chBad p n d then 10 else 0) else 2
def impB (p : Pat) (n d k : Int) : Bool := decide (impE p n d k = 0) && folB (lessP p k.toNat) n d (p.rules.getD k.toNat ⟨0, 0, 0, 0⟩)
def coreL (p : Pat) (n d : Int) : List Int := if rLeastE p n d = 0 then (coreP n d p).2 else []

end Go.Proofs.Ytmknengmjepdaaa
