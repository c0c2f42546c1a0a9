/- Two sound patterns have the same closures just where each one's rules follow from the other one. -/
import Derived.Test.YtmknengmjepdaaaGa
import Derived.Test.YtmknengmjepdaaaHb
namespace Go.Proofs.Ytmknengmjepdaaa
open Go.RowKit

theorem fol_walk {q : Pat} {n d : Int} {V : Int} {M : Nat → Nat → Int} (h : FInv q n d q.n.toNat V M) : ∀ (l : List Rul) (a b : Nat), (∀ r ∈ l, RV q.n r ∧ M r.a.toNat r.b.toNat ≠ NONE ∧ wt r n d ≤ M r.a.toNat r.b.toNat) → a < q.n.toNat → b < q.n.toNat → isWalk l a b → M a b ≠ NONE ∧ wts n d l ≤ M a b
  | [], a, b, _, ha, _, hw => by
    cases hw
    have := h.diag a ha
    rw [wts_nil]
    exact ⟨by unfold NONE; omega, this⟩
  | r :: l, a, b, hl, ha, hb, hw => by
    obtain ⟨h1, h2, h3⟩ := hl r (List.mem_cons_self ..)
    have hra : r.a.toNat = a := by rw [hw.1]; simp
    have hrb : r.b.toNat < q.n.toNat := by have := h1.2.2.1; have := h1.2.2.2.1; omega
    rw [hra] at h2 h3
    obtain ⟨k1, k2⟩ := fol_walk h l r.b.toNat b (fun r hr => hl r (List.mem_cons_of_mem _ hr)) hrb hb hw.2
    obtain ⟨t1, t2⟩ := h.tri r.b.toNat a b hrb hrb ha hb h2 k1
    rw [wts_cons]
    exact ⟨t1, by omega⟩

theorem fol_half {p q : Pat} {n d : Int} (hp : PValid p) (hq : PValid q) (hs : FSize n d) (hbp : chBad p n d = false) (hbq : chBad q n d = false) (hN : p.n = q.n) (hf : ∀ r ∈ p.rules, folB q n d r = true) :
    ∀ x y, x < p.n.toNat → y < p.n.toNat → chainM p n d x y ≠ NONE → chainM q n d x y ≠ NONE ∧ chainM p n d x y ≤ chainM q n d x y := by
  intro x y hx hy hne
  obtain ⟨l, l1, l2, l3⟩ := (finv_good hp hs hbp).wk x y hx hy hne
  have hi := finv_good hq hs hbq
  rw [← l3]
  refine fol_walk hi l x y (fun r hr => ?_) (by rw [← hN]; exact hx) (by rw [← hN]; exact hy) l2
  have hm := l1 r hr
  have hrv := ext_rv hp.1 hp.2.2.2 r hm
  rw [hN] at hrv
  unfold ext at hm
  rcases List.mem_append.1 hm with hm | hm
  · have := hf r hm
    unfold folB at this
    simp only [Bool.and_eq_true, decide_eq_true_eq] at this
    exact ⟨hrv, this.1, this.2⟩
  · obtain ⟨h1, h2⟩ := hi.edge r (by
      unfold ext
      rw [← hN]
      exact List.mem_append.2 (.inr hm))
    exact ⟨hrv, h1, h2⟩

theorem fol_iff {p q : Pat} {n d : Int} (hp : PValid p) (hq : PValid q) (hs : FSize n d) (hbp : chBad p n d = false) (hbq : chBad q n d = false) (hN : p.n = q.n) :
    (∀ x y, x < p.n.toNat → y < p.n.toNat → chainM p n d x y = chainM q n d x y) ↔ (p.rules.all (folB q n d) = true ∧ q.rules.all (folB p n d) = true) := by
  have side : ∀ {p q : Pat}, PValid p → chBad p n d = false → p.n = q.n → (∀ x y, x < p.n.toNat → y < p.n.toNat → chainM p n d x y = chainM q n d x y) → p.rules.all (folB q n d) = true := by
    intro p q hp hb hN he
    rw [List.all_eq_true]
    intro r hr
    have hrv := hp.2.2.2 r hr
    obtain ⟨h1, h2⟩ := (finv_good hp hs hb).edge r (by unfold ext; exact List.mem_append.2 (.inl hr))
    rw [he _ _ (by have := hrv.1; have := hrv.2.1; omega) (by have := hrv.2.2.1; have := hrv.2.2.2.1; omega)] at h1 h2
    unfold folB
    simp only [Bool.and_eq_true, decide_eq_true_eq]
    exact ⟨h1, h2⟩
  constructor
  · intro he
    exact ⟨side hp hbp hN he, side hq hbq hN.symm (fun x y hx hy => (he x y (by rw [hN]; exact hx) (by rw [hN]; exact hy)).symm)⟩
  · rintro ⟨f1, f2⟩ x y hx hy
    rw [List.all_eq_true] at f1 f2
    have a1 := fol_half hp hq hs hbp hbq hN f1 x y hx hy
    have a2 := fol_half hq hp hs hbq hbp hN.symm f2 x y (by rw [← hN]; exact hx) (by rw [← hN]; exact hy)
    by_cases h1 : chainM p n d x y = NONE
    · by_cases h2 : chainM q n d x y = NONE
      · rw [h1, h2]
      · exact absurd h1 (a2 h2).1
    · have b1 := a1 h1
      have b2 := a2 b1.1
      omega

end Go.Proofs.Ytmknengmjepdaaa
