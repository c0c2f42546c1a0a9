/- Walks over bytes: Equal, putNumber, getNumber, checksum. -/
import Derived.Test.YtcpefolhohakmaaBc
import Derived.Test.YtcpefolhohakmaaRq
import Derived.Test.YtcpefolhohakmaaH4
import Derived.Laws.IdiomStrings
import Derived.Lib.BufferRead
import Derived.Lib.QuoteBits
import Derived.Laws.BitsAllLaws
namespace Go.Proofs.Ytcpefolhohakmaa
open Go.RowKit
attribute [local irreducible] seqS seqST walkV walkJ

def u8V (b : Bts) : List Value := b.map fun x => .int .u8 (x.toNat : Int)
theorem u8V_len (b : Bts) : (u8V b).length = b.length := List.length_map _
theorem u8V_append (a b : Bts) : u8V (a ++ b) = u8V a ++ u8V b := by unfold u8V; exact List.map_append
theorem u8V_get {b : Bts} {i : Nat} (hi : i < b.length) : (u8V b)[i]? = some (.int .u8 ((b.getD i 0).toNat : Int)) := by
  unfold u8V
  rw [List.getElem?_map, List.getElem?_eq_getElem hi, List.getD_eq_getElem?_getD, List.getElem?_eq_getElem hi]; rfl
/-- A slice of bytes. -/
def BsR (w : World) (v : Value) (b : Bts) : Prop := SlR 0 w v b.length (u8V b)
theorem BsR.below {w w' : World} {v : Value} {b : Bts} (h : BsR w v b) (k : Below w.heap.size w w') : BsR w' v b := SlR.below h k
theorem infoU8 : (Try.prog.info? 5).map (fun i => (i.zero, i.size, i.bytes)) = some (some (.int .u8 0), 1, 1) := by kernel_rfl
theorem u8_cell {w : World} {ao : Option Addr} {n cap : Nat} {b : Bts} (h : BsR w (.slice ao n cap) b) {i : Nat} (hi : i < b.length) : ∃ g off, ao = some ⟨g, off, none⟩ ∧ g < w.heap.size ∧ w.cell? ⟨g, off + i, none⟩ = some (.int .u8 ((b.getD i 0).toNat : Int)) := by
  obtain ⟨ao', cap', e, -, -, hc⟩ := h
  cases e
  obtain ⟨g, off, rfl, -, h2, h3⟩ := hc (by intro e; have := congrArg List.length e; rw [u8V_len] at this; rw [this] at hi; exact absurd hi (Nat.not_lt_zero _))
  refine ⟨g, off, rfl, h2, ?_⟩
  rw [h3 i (by rw [u8V_len]; exact hi), List.getD_eq_getElem?_getD, u8V_get hi]; rfl
/-- Bytes as a string. -/
theorem bs_string {w : World} {v : Value} {b : Bts} (h : BsR w v b) : (convert 48 9 v).run Try.prog w = .ok (.string ⟨b.toArray⟩) w := by
  obtain ⟨ao, cap, rfl, -, -, hc⟩ := h
  cases b with
  | nil =>
    cases ao with
    | none => exact Go.Lib.run_convert_nil_bytes w _ _ 5 cap Try.underlying48 Try.underlying5 Try.underlying9
    | some a => exact run_convert_bytes_back w _ _ 5 a cap [] Try.underlying48 Try.underlying5 Try.underlying9 (fun j hj => absurd hj (Nat.not_lt_zero _))
  | cons x b =>
    obtain ⟨g, off, rfl, -, -, h3⟩ := hc (by simp [u8V])
    refine run_convert_bytes_back w _ _ 5 _ cap (x :: b) Try.underlying48 Try.underlying5 Try.underlying9 (fun j hj => ?_)
    rw [Addr.add_lit, h3 j (by rw [u8V_len]; exact hj), List.getD_eq_getElem?_getD, u8V_get hj, List.getD_eq_getElem?_getD, List.getElem?_eq_getElem hj]; rfl

set_option maxHeartbeats 1000000 in
theorem Equal_any (a b : Bts) (v1 v2 : Value) (w : World) (h1 : BsR w v1 a) (h2 : BsR w v2 b) :
    Calls Try.prog 17 #[v1, v2] w fun r w' => r = .returned (.bool (decide (a = b))) ∧ w = w' := by
  have s1 := bs_string h1
  have s2 := bs_string h2
  have he : (a == b) = decide (a = b) := by rw [Bool.eq_iff_iff]; simp
  have HE := hid he
  clear he h1 h2
  go_enter Try.func17, Try.ntmps17
  go_wp2
  go_ret
  exact ⟨ret_bool HE.out, rfl⟩

set_option maxRecDepth 100000 in
theorem or_i64 (y c : Nat) (hc : c < 256) (h : y * 256 + c < 9223372036854775807) : bits .or .i64 ((y : Int) * 256) (c : Int) = ((y * 256 + c : Nat) : Int) := by
  have e : (y : Int) * 256 = ((y * 256 : Nat) : Int) := by omega
  rw [e]
  show IntKind.i64.wrap ((BitVec.ofInt 64 ((y * 256 : Nat) : Int) ||| BitVec.ofInt 64 (c : Int)).toNat : Int) = _
  rw [BitVec.toNat_or, ofInt_u64 _ (by omega), ofInt_u64 c (by omega)]
  have e2 : y * 256 ||| c = y * 256 + c := by
    rw [Nat.mul_comm, show (256 : Nat) = 2 ^ 8 from rfl, ← Nat.two_pow_add_eq_or_of_lt (by omega)]
  rw [e2]
  exact Go.Lib.wrap_i64_small _ (by omega)
theorem take_snocB {b : Bts} {k : Nat} (h : k < b.length) : b.take (k + 1) = b.take k ++ [b.getD k 0] := by
  rw [List.take_succ_eq_append_getElem h, List.getD_eq_getElem?_getD, List.getElem?_eq_getElem h]; rfl

set_option maxHeartbeats 2000000 in
theorem getNumber_any (b : Bts) (v : Value) (w : World) (h : BsR w v b) (hb : getN b < 4611686018427387905) :
    Calls Try.prog 75 #[v] w fun r w' => r = .returned (.int .i64 (getN b : Int)) ∧ w = w' := by
  have HB := hid h
  obtain ⟨ao, cap, rfl, hcap, hmax, -⟩ := h
  unfold maxLen at hmax
  obtain ⟨n, hn⟩ : ∃ n, b.length = n := ⟨_, rfl⟩
  have HN := hid hn
  rw [hn] at hcap HB ⊢
  clear hn
  go_enter Try.func75, Try.ntmps75
  go_wp2_with fail
  go_loop [3, 8] (fun y z => ∃ k : Nat, z = .int .i64 k ∧ k ≤ n ∧ y = .int .i64 (getN (b.take k) : Int)) (fun _ z => n - (intOf z).toNat)
  case atStart => exact ⟨0, rfl, Nat.zero_le _, rfl⟩
  case round =>
    obtain ⟨k, rfl, hk, rfl⟩ := hrel
    by_cases hkn : k < n
    case pos =>
      have hk2 : (k : Int) < (n : Int) := by omega
      obtain ⟨g, off, rfl, hg, x0⟩ := u8_cell HB.out (show k < b.length by rw [HN.out]; exact hkn)
      obtain ⟨c, hc⟩ : ∃ c, (b.getD k 0).toNat = c := ⟨_, rfl⟩
      obtain ⟨y, hy⟩ : ∃ c, getN (b.take k) = c := ⟨_, rfl⟩
      have hst : getN (b.take (k + 1)) = y * 256 + c := by
        rw [take_snocB (by rw [HN.out]; exact hkn), getN_snoc, hy, hc]
      have hle := getN_take_le b (k + 1)
      rw [hst] at hle
      have hc2 : c < 256 := by rw [← hc]; exact (b.getD k 0).toNat_lt
      rw [hc] at x0
      rw [hy]
      have hor := or_i64 y c hc2 (by omega)
      have HST := hid hst
      clear hst hc hy
      go_wp2
      go_round
      case rel => exact ⟨k + 1, by go_num, by omega, by rw [HST.out]; go_num⟩
      case measure => simp [intOf]; omega
    case neg =>
      obtain rfl : n = k := by omega
      have hk2 : ¬ (n : Int) < (n : Int) := by omega
      have hf : Hid (b.take n = b) := hid (List.take_of_length_le (by rw [HN.out]; exact Nat.le_refl _))
      rw [hf.out]
      go_wp2
      go_ret
      exact ⟨rfl, rfl⟩

theorem and_one (c : Nat) (h : c < 4294967296) : bits .and .u32 (c : Int) 1 = ((c % 2 : Nat) : Int) := by
  have := u32_and_nat c 1 h (by omega)
  rw [Nat.and_one_is_mod] at this
  exact this
theorem not_u32 (y : Nat) (h : y < 4294967296) : bits .xor .u32 IntKind.u32.max (y : Int) = 4294967295 - (y : Int) := by
  have e : IntKind.u32.max = ((4294967295 : Nat) : Int) := rfl
  rw [e, u32_xor_nat 4294967295 y (by omega) h]
  have h2 : 4294967295 ^^^ y = 4294967295 - y := by
    have h3 : (BitVec.allOnes 32 ^^^ BitVec.ofNat 32 y).toNat = (~~~(BitVec.ofNat 32 y)).toNat := by rw [BitVec.allOnes_xor]
    rw [BitVec.toNat_xor, BitVec.toNat_allOnes, BitVec.toNat_not, BitVec.toNat_ofNat, Nat.mod_eq_of_lt (by omega)] at h3
    exact h3
  rw [h2]
  omega
set_option maxHeartbeats 4000000 in
set_option maxRecDepth 100000 in
theorem checksum_any (b : Bts) (v : Value) (w : World) (h : BsR w v b) :
    Calls Try.prog 81 #[v] w fun r w' => r = .returned (.int .i64 (crc b : Int)) ∧ w = w' := by
  have HB := hid h
  obtain ⟨ao, cap, rfl, hcap, hmax, -⟩ := h
  unfold maxLen at hmax
  obtain ⟨n, hn⟩ : ∃ n, b.length = n := ⟨_, rfl⟩
  have HN := hid hn
  rw [hn] at hcap HB ⊢
  clear hn
  go_enter Try.func81, Try.ntmps81
  go_wp2_with fail
  go_loop [3, 8] (fun y z => ∃ k : Nat, z = .int .i64 k ∧ k ≤ n ∧ y = .int .u32 (crcR (b.take k) : Int)) (fun _ z => n - (intOf z).toNat)
  case atStart => exact ⟨0, rfl, Nat.zero_le _, rfl⟩
  case round =>
    obtain ⟨k, rfl, hk, rfl⟩ := hrel
    by_cases hkn : k < n
    case pos =>
      have hk2 : (k : Int) < (n : Int) := by omega
      obtain ⟨g, off, rfl, hg, x0⟩ := u8_cell HB.out (show k < b.length by rw [HN.out]; exact hkn)
      have hst : crcR (b.take (k + 1)) = crcBits (crcR (b.take k) ^^^ (b.getD k 0).toNat) 8 := by
        rw [take_snocB (by rw [HN.out]; exact hkn), crcR_snoc]; rfl
      have hcl := crcR_lt (b.take k)
      have hx256 := (b.getD k 0).toNat_lt
      obtain ⟨c, hc⟩ : ∃ c, (b.getD k 0).toNat = c := ⟨_, rfl⟩
      obtain ⟨y, hy⟩ : ∃ c, crcR (b.take k) = c := ⟨_, rfl⟩
      rw [hc] at x0 hst hx256
      rw [hy] at hcl hst ⊢
      have hxo := u32_xor_nat y c hcl (by omega)
      have hxl : y ^^^ c < 4294967296 := xor_lt32 hcl (by omega)
      obtain ⟨d, hd⟩ : ∃ d, y ^^^ c = d := ⟨_, rfl⟩
      rw [hd] at hxo hxl hst
      have HST := hid hst
      have HD := hid hd
      clear hst hc hy hd
      go_wp2_with fail
      go_loop [3, 16] (fun y z => ∃ j : Nat, z = .int .i64 j ∧ j ≤ 8 ∧ y = .int .u32 (crcBits d j : Int)) (fun _ z => 8 - (intOf z).toNat)
      case atStart => exact ⟨0, rfl, Nat.zero_le _, rfl⟩
      case round =>
        obtain ⟨j, rfl, hj, rfl⟩ := hrel
        by_cases hj8 : j < 8
        case neg =>
          obtain rfl : j = 8 := by omega
          rw [← HST.out]
          go_wp2
          go_round
          case rel => exact ⟨k + 1, by go_num, by omega, rfl⟩
          case measure => simp [intOf]; omega
        case pos =>
          have hj2 : (j : Int) < 8 := by omega
          have hb := crcBits_lt hxl j
          have hst2 : crcBits d (j + 1) = crcBit (crcBits d j) := rfl
          unfold crcBit at hst2
          obtain ⟨e, he⟩ : ∃ e, crcBits d j = e := ⟨_, rfl⟩
          rw [he] at hb hst2
          rw [he]
          have ha := and_one e hb
          by_cases ho : e % 2 = 1
          · rw [ho] at ha
            rw [if_pos ho] at hst2
            have hdv : ((e / 2 : Nat) : Int) = (e : Int) / 2 := by omega
            have hx : bits .xor .u32 ((e : Int) / 2) 3988292384 = ((e / 2 ^^^ 3988292384 : Nat) : Int) := by
              rw [← hdv]
              exact u32_xor_nat (e / 2) 3988292384 (by omega) (by omega)
            have HST2 := hid hst2
            clear hst2 he hdv ho
            go_wp2_with fail
            go_round
            case rel => exact ⟨j + 1, by go_num, by omega, by rw [HST2.out]⟩
            case measure => simp [intOf]; omega
          · have ho0 : e % 2 = 0 := by omega
            rw [ho0] at ha
            rw [if_neg ho] at hst2
            have hdv : ((e / 2 : Nat) : Int) = (e : Int) / 2 := by omega
            have HST2 := hid hst2
            have HDV := hid hdv
            clear hst2 he hdv ho ho0
            go_wp2_with fail
            go_round
            case rel => exact ⟨j + 1, by go_num, by omega, by rw [HST2.out, HDV.out]⟩
            case measure => simp [intOf]; omega
    case neg =>
      obtain rfl : n = k := by omega
      have hk2 : ¬ (n : Int) < (n : Int) := by omega
      have hf : Hid (b.take n = b) := hid (List.take_of_length_le (by rw [HN.out]; exact Nat.le_refl _))
      rw [hf.out]
      have hcl := crcR_lt b
      have hcr : Hid (crc b = 4294967295 - crcR b) := hid rfl
      obtain ⟨y, hy⟩ : ∃ c, crcR b = c := ⟨_, rfl⟩
      rw [hy] at hcl hcr ⊢
      clear hy
      have hnt := not_u32 y hcl
      have hy0 : (0 : Int) ≤ 4294967295 - (y : Int) := by omega
      have hy1 : 4294967295 - (y : Int) < 9223372036854775808 := by omega
      have hcr2 : Hid ((crc b : Int) = 4294967295 - (y : Int)) := hid (by rw [hcr.out]; omega)
      go_wp2
      go_ret
      have hw : wrap64 (4294967295 - (y : Int)) = 4294967295 - (y : Int) := by unfold wrap64; omega
      exact ⟨ret_int (hw.trans hcr2.out.symm), rfl⟩

/-- What an append of one's own row leaves of the rest. -/
structure GrwO (w w' : World) (v v' : Value) : Prop where
  g : w.grownBy w' v.ownBlock
  o : v'.ownBlock = v.ownBlock ∨ ∃ g, v'.ownBlock = some g ∧ w.heap.size ≤ g
theorem GrwO.refl (w : World) (v : Value) : GrwO w w v v := ⟨⟨rfl, rfl, rfl, Nat.le_refl _, fun _ _ _ => rfl⟩, .inl rfl⟩
theorem GrwO.trans {a b c : World} {u v x : Value} (h : GrwO a b u v) (k : GrwO b c v x) : GrwO a c u x := by
  refine ⟨⟨k.g.os.trans h.g.os, k.g.tape.trans h.g.tape, k.g.output.trans h.g.output, Nat.le_trans h.g.size k.g.size, fun i hi hne => ?_⟩, ?_⟩
  · refine (k.g.block i (Nat.lt_of_lt_of_le hi h.g.size) (fun e => ?_)).trans (h.g.block i hi hne)
    rcases h.o with h1 | ⟨g, h1, h2⟩
    · exact hne (by rw [← h1]; exact e)
    · rw [h1] at e
      cases e
      omega
  · rcases k.o with h1 | ⟨g, h1, h2⟩
    · rw [h1]; exact h.o
    · exact .inr ⟨g, h1, Nat.le_trans h.g.size h2⟩
theorem GrwO.keep {w w' : World} {v v' : Value} (h : GrwO w w' v v') {S : Nat → Prop} (hs : ∀ g, v.ownBlock = some g → ¬ S g) : Keep S w w' := Keep.grown h.g hs
theorem shr_byte (n k : Nat) : ((n / 2 ^ (8 * k) % 256 : Nat) : Int) = (((UInt8.ofNat (n / 256 ^ k)).toNat : Nat) : Int) := by
  rw [show (256 : Nat) ^ k = 2 ^ (8 * k) by rw [show (256 : Nat) = 2 ^ 8 from rfl, ← Nat.pow_mul]]
  simp

set_option maxHeartbeats 4000000 in
set_option maxRecDepth 100000 in
theorem putNumber_any (n size : Nat) (hs : size ≤ 8) (B L : Nat) (l : Bts) (v : Value) (w : World) (hL : L + 8 ≤ 100000000) (hB : B ≤ w.heap.size) (h : w.ownsRow B 5 1 v L (u8V l)) :
    Calls Try.prog 43 #[v, .int .i64 (n : Int), .int .i64 (size : Int)] w fun r w' => (∃ v', r = .returned v' ∧ w'.ownsRow B 5 1 v' (L + size) (u8V (l ++ putN n size)) ∧ GrwO w w' v v') ∧ Below B w w' := by
  have HO := hid h
  clear h
  go_enter Try.func43, Try.ntmps43
  go_wp2_with fail
  go_loopw [0, 7] (fun y z wr => ∃ (j : Nat) (P : Bts), z = .int .i64 ((j : Int) - 1) ∧ j ≤ size ∧ Hid (P ++ putN n j = putN n size ∧ P.length = size - j) ∧ Hid (wr.ownsRow B 5 1 y (L + (size - j)) (u8V (l ++ P))) ∧ Hid (GrwO w wr v y) ∧ Hid (Below B w wr)) (fun _ z _ => (intOf z + 1).toNat)
  case atStart => exact ⟨size, [], rfl, Nat.le_refl _, hid ⟨rfl, by simp⟩, hid (by simpa using HO.out), hid (GrwO.refl _ _), hid (Below.refl _ _)⟩
  case round =>
    obtain ⟨j, P, rfl, hj, HP, HR, HG, HBW⟩ := hrel
    cases j with
    | zero =>
      have hj2 : ¬ (0 : Int) ≤ ((0 : Nat) : Int) - 1 := by omega
      have HF : Hid (wr.ownsRow B 5 1 u0 (L + size) (u8V (l ++ putN n size))) := hid (by
        have h1 := HP.out.1
        have e : P = putN n size := by rw [← h1]; show P = P ++ []; rw [List.append_nil]
        have := HR.out
        rw [e] at this
        simpa using this)
      go_wp2
      go_ret
      exact ⟨⟨_, rfl, HF.out, HG.out⟩, HBW.out⟩
    | succ j =>
      have hj2 : ((j + 1 : Nat) : Int) - 1 = (j : Int) := by omega
      rw [hj2]
      have hj8 : j < 8 := by omega
      have hsz : B ≤ wr.heap.size := Nat.le_trans hB HBW.out.size
      have hbv : u8V [UInt8.ofNat (n / 256 ^ j)] = [.int .u8 ((n : Int) / 2 ^ (8 * j) % 256)] := by
        show [Value.int .u8 _] = _
        rw [← shr_byte n j]
        congr 2
      have HBV := hid hbv
      have HP2 : Hid ((P ++ [UInt8.ofNat (n / 256 ^ j)]) ++ putN n j = putN n size ∧ (P ++ [UInt8.ofNat (n / 256 ^ j)]).length = size - j) := hid (by
        have h1 := HP.out
        refine ⟨?_, by rw [List.length_append, h1.2]; simp; omega⟩
        rw [← h1.1, List.append_assoc]; rfl)
      clear hbv HP
      go_wp2_with (at_builtin; refine wpList_appO rfl (.tmp 14) (.tmp 20) _ rfl B 5 (.int .u8 0) 1 1 Try.underlying48 infoU8 rfl (by decide) 5 _ _ _ rfl HR.out [.int .u8 ((n : Int) / 2 ^ (8 * j) % 256)] _ rfl rfl rfl (by simp [Value.oneCell']) (by unfold maxLen; omega) (by omega) hsz ?_; intro g5 c5 w5 ho5 hb5 hg5 hbg hl5 hor)
      have HR2 : Hid (w5.ownsRow B 5 1 (.slice (some ⟨g5, 0, none⟩) (L + (size - (j + 1)) + 1) c5) (L + (size - j)) (u8V (l ++ (P ++ [UInt8.ofNat (n / 256 ^ j)])))) := hid (by
        have e : L + (size - (j + 1)) + 1 = L + (size - j) := by omega
        rw [← List.append_assoc, u8V_append, HBV.out]
        rw [← e]; exact ho5)
      have hgo : GrwO wr w5 u0 (.slice (some ⟨g5, 0, none⟩) (L + (size - (j + 1)) + 1) c5) := ⟨hg5, by
        rcases hor with h1 | h1
        · exact .inl h1.symm
        · exact .inr ⟨g5, rfl, by omega⟩⟩
      have HG2 := hid (HG.out.trans hgo)
      have HB2 := hid (HBW.out.trans hb5)
      clear hgo hg5 hor hbg hl5 hb5 ho5 HR HG HBW HBV
      go_roundw
      case rel => exact ⟨j, _, rfl, by omega, HP2, HR2, HG2, HB2⟩
      case measure => simp [intOf]

end Go.Proofs.Ytcpefolhohakmaa
