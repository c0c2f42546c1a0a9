/- The iterator of slices.Chunk at bytes, six at a time. -/
import Derived.RangeFuncNested
import Derived.RangeFuncBound
import Derived.RangeFuncCalls
import Derived.RangeFuncLeaves
import Derived.Shelf.Abstract
import Derived.Shelf.RegionOpen
import Derived.WalkKit
import Derived.OwnWalkIn
import Derived.TacticsInMore
import Derived.LoopNIn
import Derived.LoopIn
import Derived.Test.YtcpefolhohakmaaV6
namespace Go.Proofs.Ytcpefolhohakmaa
open Go.RowKit Go.Shelf
attribute [local go_sem] Oper.semAt_some
attribute [local irreducible] seqS seqST walkV walkJ

/-- One of m pieces. -/
structure Ek (m : Nat) where
  k : Nat
  lt : k < m
/-- What a round keeps: two blocks. -/
def KpP (Bs Bn : Nat) (W W' : World) : Prop := W.heap.size ≤ W'.heap.size ∧ W'.heap[Bs]? = W.heap[Bs]? ∧ W'.heap[Bn]? = W.heap[Bn]?
theorem KpP.refl (Bs Bn : Nat) (W : World) : KpP Bs Bn W W := ⟨Nat.le_refl _, rfl, rfl⟩
theorem KpP.trans {Bs Bn : Nat} {X Y Z : World} (h : KpP Bs Bn X Y) (k : KpP Bs Bn Y Z) : KpP Bs Bn X Z := ⟨Nat.le_trans h.1 k.1, k.2.1.trans h.2.1, k.2.2.trans h.2.2⟩
theorem ek_len {m : Nat} {pre : List (Ek m)} {k : Nat} (h : pre.map Ek.k = List.range k) : pre.length = k := by
  have := congrArg List.length h
  rwa [List.length_map, List.length_range] at this
theorem ek_snoc {m : Nat} {pre : List (Ek m)} {k : Nat} (h : pre.map Ek.k = List.range k) (hk : k < m) : (pre ++ [(⟨k, hk⟩ : Ek m)]).map Ek.k = List.range (k + 1) := by
  rw [List.map_append, h, List.range_succ]; rfl

set_option maxRecDepth 100000 in
set_option maxHeartbeats 4000000 in
theorem chunk1_in (n : Nat) (hn : 1 ≤ n) (l Bs Bn g off m M cap : Nat) (hM : M = 6 * m) (hcap : M ≤ cap) (hcm : cap ≤ maxLen) (W : World)
    (J Jx : List (Ek m) → World → Prop) (hJ : AbidesFrom W.heap.size J)
    (hY : ∀ pre (x : Ek m) W1, J pre W1 → pre.length < m → YieldAt Fence.wide (n - 1) Try.prog l #[.slice (some ⟨g, off + 6 * x.k, none⟩) 6 6] W1 fun e W' =>
      (e = .returned (.bool true) ∧ J (pre ++ [x]) W' ∧ KpP Bs Bn W1 W') ∨ (e = .returned (.bool false) ∧ Jx (pre ++ [x]) W'))
    (kS : Blk W Bs #[.slice (some ⟨g, off, none⟩) M cap] 48) (kN : Blk W Bn #[.int .i64 6] 3) (h0 : J [] W) :
    CallsIn Fence.wide n Try.prog 91 #[.func (.yield l) #[] #[], .pointer (some ⟨Bs, 0, none⟩), .pointer (some ⟨Bn, 0, none⟩)] W fun e W' => (∃ v, e = .returned v) ∧
      ((∃ xs : List (Ek m), xs.map Ek.k = List.range m ∧ J xs W') ∨ (∃ pre : List (Ek m), pre.map Ek.k <+: List.range m ∧ Jx pre W')) := by
  unfold maxLen at hcm
  have HM := hid hM
  have HJ := hid hJ
  have HY := hid hY
  clear hM hJ hY
  refine callsIn_of_wp Try.func91 rfl trivial ?_ rfl
  simp only [Try.ntmps91, List.size_toArray, List.length_cons, List.length_nil, Nat.reduceAdd, Nat.reduceSub, Array.replicate_succ, Array.replicate_zero, List.push_toArray, List.append_toArray, List.nil_append, List.cons_append]
  gi_wp2_with fail
  gi_loopw [4, 5] (fun i _ wr => ∃ (k K : Nat) (pre : List (Ek m)), i = .int .i64 (K : Int) ∧ k ≤ m ∧ Hid (K = 6 * k) ∧ Hid (pre.map Ek.k = List.range k) ∧ Hid (J pre wr) ∧ Hid (KpP Bs Bn W wr))
    (fun i _ _ => M - (intOf i).toNat)
  case atStart => exact ⟨0, 0, [], rfl, Nat.zero_le _, hid rfl, hid rfl, hid h0, hid (KpP.refl _ _ _)⟩
  case round =>
    obtain ⟨k, K, pre, rfl, hk, HK, HPRE, HJS, HKP⟩ := hrel
    have kS1 : Blk wr Bs _ _ := HKP.out.2.1.trans kS
    have kN1 : Blk wr Bn _ _ := HKP.out.2.2.trans kN
    have c0 := kS1.look 0 rfl
    have c1 := kN1.look 0 rfl
    by_cases hkm : k < m
    case neg =>
      have hKM : ¬ (K : Int) < (M : Int) := by have := HK.out; have := HM.out; omega
      have hkm2 : k = m := by omega
      gi_wp2
      go_end0
      exact ⟨⟨_, rfl⟩, .inl ⟨pre, by rw [HPRE.out, hkm2], HJS.out⟩⟩
    case pos =>
      have hK6 : K + 6 ≤ M := by have := HK.out; have := HM.out; omega
      have hKM : (K : Int) < (M : Int) := by omega
      gi_wp2_with fail
      refine wpIn_wide.2 ?_
      have z0 := fun y : SubT (Below wr.heap.size) wr.drew => (kS1.below ((Below.refl wr.heap.size wr).drew.trans y.b)).look 0 rfl
      have z1 := fun y : SubT (Below wr.heap.size) wr.drew => (kN1.below ((Below.refl wr.heap.size wr).drew.trans y.b)).look 0 rfl
      have h60 : ¬ ((M - K : Nat) : Int) < 6 := by omega
      have hKM2 : K ≤ M := by omega
      have hKc : ¬ cap = K := by omega
      refine wp_walkJ (T := Below (wr.heap.size)) (belowV_pre _) (.rd 0 (.rd 1 (.rd 2 (.rd 3 (.rd 4 (.rd 5 (.rd 6 (.inv [])))))))) (by kernel_rfl) rfl (by kernel_rfl) (by kernel_rfl) ?_
      iterate 7 (refine walkJ_rd rfl (fun K hK => ?_); go_simp; refine hK _ ?_; clear hK K)
      refine walkJ_nil ?_
      have HJ3 : Hid (J pre wr.drew) := hid (HJ.out _ _ _ none HJS.out ⟨rfl, rfl, rfl, Nat.le_refl _, fun _ _ _ => rfl⟩ (fun _ e => by cases e))
      have HK3 : Hid (KpP Bs Bn W wr.drew) := hid (HKP.out.trans ⟨Nat.le_refl _, rfl, rfl⟩)
      clear z0 z1 h60 c0 c1 kS1 kN1 HJS HKP
      generalize wr.drew = w3 at HJ3 HK3 ⊢
      have kS1 : Blk w3 Bs _ _ := HK3.out.2.1.trans kS
      have kN1 : Blk w3 Bn _ _ := HK3.out.2.2.trans kN
      have c0 := kS1.look 0 rfl
      have c1 := kN1.look 0 rfl
      have hYx := HY.out pre ⟨k, hkm⟩ w3 HJ3.out (by rw [ek_len HPRE.out]; exact hkm)
      dsimp only at hYx
      rw [← HK.out] at hYx
      obtain ⟨fn, tmps, assign, body, hy, hR⟩ := hYx
      have hKc6 : ¬ K + 6 = K := by omega
      have HPRE2 : Hid ((pre ++ [(⟨k, hkm⟩ : Ek m)]).map Ek.k = List.range (k + 1)) := hid (ek_snoc HPRE.out hkm)
      have HK4 : Hid (K + 6 = 6 * (k + 1)) := hid (by have := HK.out; omega)
      have hw6 : IntKind.i64.wrap ((K : Int) + 6) = ((K + 6 : Nat) : Int) := by
        have := Go.Lib.wrap_i64_small (K + 6) (by omega)
        rwa [show ((K + 6 : Nat) : Int) = (K : Int) + 6 by omega] at this ⊢
      clear hKM2 hKc HPRE HK
      gi_wp2_with fail
      refine hR.mono ?_
      rintro e W3 (⟨rfl, hJ4, hk4⟩ | ⟨rfl, hJx4⟩)
      · have HJ4 := hid hJ4
        have HKP4 := hid (HK3.out.trans hk4)
        have kN4 : Blk W3 Bn _ _ := HKP4.out.2.2.trans kN
        have c4 := kN4.look 0 rfl
        clear c0 c1 kS1 kN1 hJ4 hk4
        gi_wp2
        go_roundw
        case rel => exact ⟨k + 1, K + 6, _, by go_num, by omega, HK4, HPRE2, HJ4, HKP4⟩
        case measure => simp [intOf]; omega
      · have HJX := hid hJx4
        clear c0 c1 hJx4
        gi_wp2
        refine bodyPost_ret (results_none rfl _ _ _) rfl ?_
        exact ⟨⟨_, rfl⟩, .inr ⟨_, by rw [HPRE2.out]; exact List.prefix_iff_eq_take.2 (by rw [List.length_range, List.take_range, Nat.min_eq_left (by omega)]), HJX.out⟩⟩

/-- The maker: bytes and number are boxed. -/
theorem chunk_any (ao : Option Addr) (M cap : Nat) (w : World) :
    Calls Try.prog 74 #[.slice ao M cap, .int .i64 6] w fun e w' => e = .returned (.func (.func 91) #[] #[.pointer (some ⟨w.heap.size, 0, none⟩), .pointer (some ⟨w.heap.size + 1, 0, none⟩)]) ∧ w' = (w.alloc (.cells #[.slice ao M cap] 48)).alloc (.cells #[.int .i64 6] 3) := by
  go_enter Try.func74, Try.ntmps74
  go_wp2
  go_ret
  exact ⟨rfl, rfl⟩

theorem chunk_stops (n : Nat) (hn : 1 ≤ n) (Bs Bn g off m M cap : Nat) (hM : M = 6 * m) (hcap : M ≤ cap) (hcm : cap ≤ maxLen) (w : World)
    (kS : Blk w Bs #[.slice (some ⟨g, off, none⟩) M cap] 48) (kN : Blk w Bn #[.int .i64 6] 3) :
    SeqStopsK Fence.wide n Try.prog 91 #[.pointer (some ⟨Bs, 0, none⟩), .pointer (some ⟨Bn, 0, none⟩)] (fun x : Ek m => #[.slice (some ⟨g, off + 6 * x.k, none⟩) 6 6]) (KpP Bs Bn) (fun xs => xs.map Ek.k = List.range m) (fun pre => pre.map Ek.k <+: List.range m) m w :=
  fun l J Jx W hW hJ _ hY h0 => chunk1_in n hn l Bs Bn g off m M cap hM hcap hcm W J Jx hJ hY (kS.below hW) (kN.below hW) h0

end Go.Proofs.Ytcpefolhohakmaa
