/- Walks of trankref01's natural numbers: natural, trimmed. -/
import Derived.Test.YtmknengmjepdaaaBs
namespace Go.Proofs.Ytmknengmjepdaaa
open Go.RowKit

theorem infoU32 : (Try.prog.info? 116).map (fun i => (i.zero, i.size, i.bytes)) = some (some (.int .u32 0), 1, 4) := by kernel_rfl

theorem digs_split {n m : Nat} {outs : List Nat} (h : outs ++ digs m = digs n) (hm : m ≠ 0) : (outs ++ [m % 4294967296]) ++ digs (m / 4294967296) = digs n := by
  rw [← h, digs_pos hm, List.append_assoc]; rfl

set_option maxHeartbeats 400000 in
theorem natural_any (n : Nat) (w : World) (hn : n < 18446744073709551616) :
    Calls Try.prog 88 #[.int .u64 n] w fun e w' => ∃ v, e = .returned v ∧ NatF w.heap.size w' v n ∧ Below w.heap.size w w' := by
  go_enter Try.func88, Try.ntmps88
  go_wp2
  go_loopw [0, 3] (fun x v wr => ∃ (m : Nat) (outs : List Nat), x = .int .u64 m ∧ m < 18446744073709551616 ∧ wr.ownsRow w.heap.size 116 1 v outs.length (u32s outs) ∧ outs ++ digs m = digs n ∧ Below w.heap.size w wr) (fun x _ _ => (intOf x).toNat)
  case atStart => exact ⟨n, [], rfl, hn, World.ownsRow_nil _ _ _ _, rfl, Below.refl _ _⟩
  case round =>
    obtain ⟨m, outs, rfl, hm, hown, hd, hb⟩ := hrel
    have HD := hid hd
    clear hd
    by_cases h0 : m = 0
    · subst h0
      go_wp2
      go_ret
      refine ⟨_, rfl, ?_, hb⟩
      have h := HD.out
      rw [digs_zero, List.append_nil] at h
      subst h
      exact SlR.of_owns hown
    · have hl : outs.length ≤ 2 := by have := digs_len_two hn; rw [← HD.out, List.length_append] at this; omega
      have hsz := hb.size
      go_wp2_with (at_builtin; refine wpList_app rfl (.tmp 6) (.tmp 9) _ rfl w.heap.size 116 (.int .u32 0) 1 4 Try.underlying41 infoU32 rfl (by decide) 116 _ _ _ rfl hown [.int .u32 ((m % 4294967296 : Nat) : Int)] rfl rfl (by simp [Value.oneCell']) (by unfold maxLen; omega) (by omega) (by omega) ?_; intro g cap w2 hown2 hb2 _ _ _)
      go_roundw
      case rel => exact ⟨m / 4294967296, outs ++ [m % 4294967296], by go_num, by omega, by rw [u32s_append, List.length_append]; exact hown2, digs_split HD.out h0, hb.trans hb2⟩
      case measure => simp [intOf]; omega

theorem DsR.take {lo : Nat} {w : World} {ao : Option Addr} {len cap k : Nat} {ds : List Nat} (h : CellsOf lo w ao (u32s ds)) (hlen : ds.length = len) (hcap : len ≤ cap) (hm : cap ≤ maxLen) (hk : k ≤ len) : DsR lo w (.slice ao k cap) (ds.take k) := by
  have hl : (ds.take k).length = k := by rw [List.length_take]; omega
  unfold maxLen at hm
  refine ⟨ao, cap, by rw [hl], by rw [hl]; omega, by unfold maxLen; exact hm, fun hne => ?_⟩
  obtain ⟨b, off, h1, hlo, h2, h3⟩ := h (by intro h0; apply hne; have := congrArg List.length h0; rw [u32s_length, List.length_nil] at this; apply List.eq_nil_of_length_eq_zero; rw [u32s_length, hl]; omega)
  refine ⟨b, off, h1, hlo, h2, fun j hj => ?_⟩
  rw [u32s_length, hl] at hj
  rw [h3 j (by rw [u32s_length]; omega)]
  simp [u32s, List.getD_eq_getElem?_getD, List.getElem?_map, List.getElem?_take_of_lt hj]

theorem trim_done {lo : Nat} {w : World} {ao : Option Addr} {cap k : Nat} {ds : List Nat} (h : CellsOf lo w ao (u32s ds)) (hds : ∀ d ∈ ds, d < 4294967296) (hcap : ds.length ≤ cap) (hm : cap ≤ maxLen) (hk : k ≤ ds.length)
    (hz : dval (ds.drop k) = 0) (hl : k = 0 ∨ ds.getD (k - 1) 0 ≠ 0) : NatF lo w (.slice ao k cap) (dval ds) := by
  unfold NatF
  rw [digs_dval_take ds hds k hk hz hl]
  exact DsR.take h rfl hcap hm hk
theorem trim_step {k : Nat} {ds : List Nat} (hk : k ≠ 0) (hle : k ≤ ds.length) (hz : dval (ds.drop k) = 0) (h0 : ds.getD (k - 1) 0 = 0) : dval (ds.drop (k - 1)) = 0 := by
  have h1 : ds.drop (k - 1) = ds.getD (k - 1) 0 :: ds.drop k := by
    rw [List.drop_eq_getElem_cons (by omega), List.getD_eq_getElem?_getD, List.getElem?_eq_getElem (by omega), show k - 1 + 1 = k by omega]; rfl
  rw [h1, dval, h0, hz]
/-- The length in a slice value, for a loop's measure. -/
def lenOf : Value → Nat | .slice _ k _ => k | _ => 0

set_option maxHeartbeats 400000 in
theorem trimmed_any (lo : Nat) (ds : List Nat) (v : Value) (w : World) (hds : ∀ d ∈ ds, d < 4294967296) (h : DsR lo w v ds) :
    Calls Try.prog 115 #[v] w fun e w' => ∃ v', e = .returned v' ∧ NatF lo w v' (dval ds) ∧ w = w' := by
  obtain ⟨ao, cap, rfl, hcap, hmax, hc⟩ := h
  have hmax' := hmax
  unfold maxLen at hmax'
  go_enter Try.func115, Try.ntmps115
  go_wp2
  go_loop [0] (fun x => ∃ k : Nat, x = .slice ao k cap ∧ k ≤ ds.length ∧ dval (ds.drop k) = 0) (fun x => lenOf x)
  case atStart => exact ⟨ds.length, rfl, Nat.le_refl _, by rw [List.drop_length]; rfl⟩
  case round =>
    obtain ⟨k, rfl, hk, hz⟩ := hrel
    have HZ := hid hz
    clear hz
    by_cases h0 : k = 0
    · subst h0
      go_wp2
      go_ret
      exact ⟨_, rfl, trim_done hc hds hcap hmax hk HZ.out (.inl rfl), rfl⟩
    · obtain ⟨b, off, rfl, hb, hcell⟩ := u32s_cell hc (i := k - 1) (by omega)
      obtain ⟨d, hd⟩ : ∃ d, ds.getD (k - 1) 0 = d := ⟨_, rfl⟩
      rw [hd] at hcell
      have HD := hid hd
      clear hd
      by_cases hd0 : d = 0
      · subst hd0
        go_wp2
        go_round
        case rel => exact ⟨k - 1, rfl, by omega, trim_step h0 hk HZ.out HD.out⟩
        case measure => simp [lenOf]; omega
      · go_wp2
        go_ret
        exact ⟨_, rfl, trim_done hc hds hcap hmax hk HZ.out (.inr (by rw [HD.out]; exact hd0)), rfl⟩

end Go.Proofs.Ytmknengmjepdaaa
