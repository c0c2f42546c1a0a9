/- The core of a pattern has the same solutions, and none of its rules follows from the others, plainly. -/
import Derived.Test.YtmknengmjepdaaaWe
import Derived.Test.YtmknengmjepdaaaHc
namespace Go.Proofs.Ytmknengmjepdaaa
open Go.RowKit

structure Cored (p : Pat) (n d : Int) (q : Pat) (l : List Int) : Prop where
  val : PValid q
  nn : q.n = p.n
  eqe : eqE p q n d = 0
  eqb : eqB p q n d = true
  imp : ∀ k : Nat, k < q.rules.length → impE q n d k = 0 ∧ impB q n d k = false
  len : q.rules.length = l.length
  get : ∀ i : Nat, i < l.length → ∃ m : Nat, l[i]? = some (m : Int) ∧ m < p.rules.length ∧ q.rules[i]? = p.rules[m]?
  inc : ∀ (i : Nat) (x y : Int), l[i]? = some x → l[i + 1]? = some y → x < y
theorem cored_plain {p : Pat} {n d : Int} (hp : PValid p) (hs : FSize n d) (hb : chBad p n d = false) : Cored p n d (coreP n d p).1 (coreP n d p).2 := by
  have h := core_ok hp hs hb p.rules.length (Nat.le_refl _)
  rw [Nat.sub_self] at h
  unfold coreP
  obtain ⟨s, hs'⟩ : ∃ s, coreN n d p p.rules.length = s := ⟨_, rfl⟩
  rw [hs'] at h ⊢
  have hbq : chBad s.1 n d = false := (chBad_iff h.val hs).2 (sub_nopos (ext_sub h.nn h.sub) ((chBad_iff hp hs).1 hb))
  have hlen := h.len
  have hEE : eqE p s.1 n d = 0 := by
    unfold eqE
    rw [decide_eq_true hp, decide_eq_true hs, decide_eq_true h.val, hb, hbq]
    rfl
  refine ⟨h.val, h.nn, hEE, ?_, ?_, by omega, ?_, h.inc⟩
  · unfold eqB
    rw [hEE]
    simp only [Bool.and_eq_true, decide_eq_true_eq, List.all_eq_true]
    refine ⟨⟨⟨trivial, h.nn.symm⟩, fun r hr => ?_⟩, fun r hr => ?_⟩
    · refine (folB_iff h.val hs hbq (by rw [h.nn]; exact hp.2.2.2 r hr)).2 (h.fol r (ext_mem_iff.2 (.inl hr)))
    · refine (folB_iff hp hs hb (hp.2.2.2 r (h.sub r hr))).2 (fol_self (ext_mem_iff.2 (.inl (h.sub r hr))) (hp.2.2.2 r (h.sub r hr)).1)
  · intro k hk
    have hin : impIn s.1 n d k := ⟨h.val, hs, by omega, by omega⟩
    have e := impE_ok hin hbq
    refine ⟨e.1, ?_⟩
    rw [e.2]
    have hg := getD_rule hk
    cases hf : folB (lessP s.1 k) n d (s.1.rules.getD k ⟨0, 0, 0, 0⟩) with
    | false => rfl
    | true =>
      exfalso
      have hrv : RV s.1.n (s.1.rules.getD k ⟨0, 0, 0, 0⟩) := h.val.2.2.2 _ (rule_mem hg)
      exact h.irr k _ (Nat.zero_le _) hg ((folB_iff (less_valid h.val k) hs (less_bad h.val hs k hbq) hrv).1 hf)
  · intro i hi
    obtain ⟨m, m1, -, m3, m4⟩ := h.get i hi
    exact ⟨m, m1, m3, by rwa [Nat.zero_add] at m4⟩

end Go.Proofs.Ytmknengmjepdaaa
