/- Walks of trankref04.chains. -/
import Derived.Test.YtmknengmjepdaaaMa
import Derived.Test.YtmknengmjepdaaaRs
import Derived.Deep.RegionLaw
import Derived.BigRegion
import Derived.Deep.Cut
namespace Go.Proofs.Ytmknengmjepdaaa
open Go.RowKit

theorem infoInts : (Try.prog.info? 49).map (fun i => (i.zero, i.size, i.bytes)) = some (some (.slice none 0 0), 1, 24) := by kernel_rfl
theorem wpList_mkr {P : Program} {w : World} {ops : Array Oper} {rest : List Oper} {o : Oper} {a : Act} {Q : Exit → Act → World → Prop} (hgd : o.guard = none) (l c : Operand) (t : TypeId) (ho : o.op = Op.makeSlice t l c)
    (e : TypeId) (z : Value) (bytes : Nat) (ht : P.underlying t = some (.slice e)) (hi : (P.info? e).map (fun i => (i.zero, i.size, i.bytes)) = some (some z, 1, bytes)) (hz : z.cells = #[z])
    (kl kc : IntKind) (n : Nat) (hl : a.eval l = .int kl (n : Int)) (hc : a.eval c = .int kc (n : Int)) (b2 : bytes * n ≤ 281474976710656) (b3 : n ≤ 9223372036854775807)
    (hK : wpList P ops Q rest (a.put o.dst (.slice (some ⟨w.heap.size, 0, none⟩) n n)) (w.alloc (.cells (madeCells #[z] n) e))) : wpList P ops Q (o :: rest) a w := by
  obtain ⟨i, hi0, hz0, hsize, hby⟩ := info_parts hi
  exact wpList_make_row w hgd l c t ho e i z ht hi0 hz0 hsize hz kl kc n hl hc (by rw [hby]; exact b2) b3 hK

/-- The memory of chains: the boxed pattern and size, the outer slice, the rows. -/
structure Ch (wr : World) (S N k : Nat) (pa : Array Value) (n d : Int) (M : Nat → Nat → Int) : Prop where
  kp : Blk wr S pa 24
  ks : Blk wr (S + 1) #[.int .i64 n, .int .i64 d] 26
  ko : Blk wr (S + 1 + 1) (outArr (S + 1 + 1 + 1) N k) 49
  km : ∀ a, a < k → Blk wr (S + 1 + 1 + 1 + a) (rowArr N (M a)) 3
theorem Ch.below {w w' : World} {S N k : Nat} {pa : Array Value} {n d : Int} {M : Nat → Nat → Int} (h : Ch w S N k pa n d M) (hb : Below w.heap.size w w') : Ch w' S N k pa n d M :=
  ⟨h.kp.below hb, h.ks.below hb, h.ko.below hb, fun a ha => (h.km a ha).below hb⟩

theorem Ch.set {w : World} {S N k : Nat} {pa : Array Value} {n d : Int} {M : Nat → Nat → Int} (h : Ch w S N k pa n d M) (a b : Nat) (z : Int) : Ch (w.setCell ⟨S + 1 + 1 + 1 + a, b, none⟩ (.int .i64 z)) S N k pa n d (upd M a b z) := by
  refine ⟨h.kp.other (by simp; omega) _, h.ks.other (by simp; omega) _, h.ko.other (by simp; omega) _, fun c hc => ?_⟩
  by_cases hac : c = a
  · subst hac
    have := (h.km c hc).set b (.int .i64 z)
    rw [rowArr_set] at this
    have e : (fun x => if x = b then z else M c x) = upd M c b z c := by funext x; unfold upd; simp
    rw [e] at this
    exact this
  · have := (h.km c hc).other (p := ⟨S + 1 + 1 + 1 + a, b, none⟩) (by simp; omega) (.int .i64 z)
    have e : rowArr N (M c) = rowArr N (upd M a b z c) := rowArr_congr (fun x _ => by unfold upd; rw [if_neg (by intro hh; exact hac hh.1)])
    rw [e] at this
    exact this
theorem Ch.congr {w : World} {S N k : Nat} {pa : Array Value} {n d : Int} {M M' : Nat → Nat → Int} (h : Ch w S N k pa n d M) (he : ∀ a, a < k → ∀ b, b < N → M a b = M' a b) : Ch w S N k pa n d M' :=
  ⟨h.kp, h.ks, h.ko, fun a ha => by rw [← rowArr_congr (he a ha)]; exact h.km a ha⟩
/-- A new row is laid. -/
theorem Ch.grow {w : World} {S N k : Nat} {pa : Array Value} {n d : Int} {M : Nat → Nat → Int} (h : Ch w S N k pa n d M) (hz : w.heap.size = S + 1 + 1 + 1 + k) (f : Nat → Int) :
    Ch ((w.setCell ⟨S + 1 + 1, k, none⟩ (.slice (some ⟨S + 1 + 1 + 1 + k, 0, none⟩) N N)).alloc (.cells (rowArr N f) 3)) S N (k + 1) pa n d (fun a => if a = k then f else M a) := by
  refine ⟨(h.kp.other (by simp; omega) _).alloc _, (h.ks.other (by simp) _).alloc _, ?_, fun c hc => ?_⟩
  · have := (h.ko.set k (.slice (some ⟨S + 1 + 1 + 1 + k, 0, none⟩) N N)).alloc (.cells (rowArr N f) 3)
    rw [outArr_set] at this
    exact this
  · by_cases hck : c = k
    · subst hck
      have := Blk.new (w.setCell ⟨S + 1 + 1, c, none⟩ (.slice (some ⟨S + 1 + 1 + 1 + c, 0, none⟩) N N)) (rowArr N f) 3
      have e : (w.setCell ⟨S + 1 + 1, c, none⟩ (.slice (some ⟨S + 1 + 1 + 1 + c, 0, none⟩) N N)).heap.size = S + 1 + 1 + 1 + c := by simp [World.setCell]; exact hz
      rw [e] at this
      simpa using this
    · have := ((h.km c (by omega)).other (p := ⟨S + 1 + 1, k, none⟩) (by simp; omega) (.slice (some ⟨S + 1 + 1 + 1 + k, 0, none⟩) N N)).alloc (.cells (rowArr N f) 3)
      simpa [hck] using this

/-- A square matrix: a slice of slices, in blocks from lo on. -/
def MatF (lo : Nat) (w : World) (v : Value) (N : Nat) (M : Nat → Nat → Int) : Prop :=
  ∃ o base, v = .slice (some ⟨o, 0, none⟩) N N ∧ lo ≤ o ∧ lo ≤ base ∧ Blk w o (outArr base N N) 49 ∧ ∀ a, a < N → Blk w (base + a) (rowArr N (M a)) 3
theorem MatF.below {lo : Nat} {w w' : World} {v : Value} {N : Nat} {M : Nat → Nat → Int} (h : MatF lo w v N M) (hb : Below w.heap.size w w') : MatF lo w' v N M := by
  obtain ⟨o, base, rfl, h1, h2, h3, h4⟩ := h
  exact ⟨o, base, rfl, h1, h2, h3.below hb, fun a ha => (h4 a ha).below hb⟩

theorem ext_rv {p : Pat} (h1 : 1 ≤ p.n) (h : ∀ r ∈ p.rules, RV p.n r) : ∀ r ∈ ext p, RV p.n r := by
  intro r hr
  unfold ext at hr
  rcases List.mem_append.1 hr with hr | hr
  · exact h r hr
  · obtain ⟨i, hi, rfl⟩ := List.mem_map.1 hr
    have := List.mem_range.1 hi
    unfold RV ground
    dsimp only
    omega

theorem keep17 {W w' : World} {S N A X : Nat} {pa : Array Value} {n d : Int} {M : Nat → Nat → Int} {x0 x1 x2 x3 : Value} {t : TypeId} (kr : Blk W X #[x0, x1, x2, x3] t) (h : Ch W S N N pa n d M) (hA : A < N) (hb : Below W.heap.size W w') :
    w'.cell? ⟨X, 0, none⟩ = some x0 ∧ w'.cell? ⟨X, 1, none⟩ = some x1 ∧ w'.cell? ⟨X, 2, none⟩ = some x2 ∧ w'.cell? ⟨X, 3, none⟩ = some x3 ∧
    w'.cell? ⟨S + 1, 0, none⟩ = some (.int .i64 n) ∧ w'.cell? ⟨S + 1, 1, none⟩ = some (.int .i64 d) ∧ w'.cell? ⟨S + 1 + 1, A, none⟩ = some (.slice (some ⟨S + 1 + 1 + 1 + A, 0, none⟩) N N) :=
  ⟨(kr.below hb).look 0 rfl, (kr.below hb).look 1 rfl, (kr.below hb).look 2 rfl, (kr.below hb).look 3 rfl, (h.ks.below hb).look 0 rfl, (h.ks.below hb).look 1 rfl, (h.ko.below hb).look A (outArr_get hA hA)⟩
theorem keep17s {W w' : World} {S N A B X : Nat} {pa : Array Value} {n d : Int} {M : Nat → Nat → Int} {x0 x1 x2 x3 u : Value} {t : TypeId} (kr : Blk W X #[x0, x1, x2, x3] t) (h : Ch W S N N pa n d M) (hA : A < N) (hX : X ≠ S + 1 + 1 + 1 + A) (hb : Below W.heap.size W w') :
    (w'.setCell ⟨S + 1 + 1 + 1 + A, B, none⟩ u).cell? ⟨X, 0, none⟩ = some x0 ∧ (w'.setCell ⟨S + 1 + 1 + 1 + A, B, none⟩ u).cell? ⟨X, 1, none⟩ = some x1 ∧ (w'.setCell ⟨S + 1 + 1 + 1 + A, B, none⟩ u).cell? ⟨X, 2, none⟩ = some x2 ∧ (w'.setCell ⟨S + 1 + 1 + 1 + A, B, none⟩ u).cell? ⟨X, 3, none⟩ = some x3 ∧
    (w'.setCell ⟨S + 1 + 1 + 1 + A, B, none⟩ u).cell? ⟨S + 1, 0, none⟩ = some (.int .i64 n) ∧ (w'.setCell ⟨S + 1 + 1 + 1 + A, B, none⟩ u).cell? ⟨S + 1, 1, none⟩ = some (.int .i64 d) ∧ (w'.setCell ⟨S + 1 + 1 + 1 + A, B, none⟩ u).cell? ⟨S + 1 + 1, A, none⟩ = some (.slice (some ⟨S + 1 + 1 + 1 + A, 0, none⟩) N N) := by
  have k1 := (kr.below hb).other (p := ⟨S + 1 + 1 + 1 + A, B, none⟩) hX u
  have k2 := (h.ks.below hb).other (p := ⟨S + 1 + 1 + 1 + A, B, none⟩) (by simp; omega) u
  have k3 := (h.ko.below hb).other (p := ⟨S + 1 + 1 + 1 + A, B, none⟩) (by simp; omega) u
  exact ⟨k1.look 0 rfl, k1.look 1 rfl, k1.look 2 rfl, k1.look 3 rfl, k2.look 0 rfl, k2.look 1 rfl, k3.look A (outArr_get hA hA)⟩

set_option maxHeartbeats 4000000 in
set_option maxRecDepth 100000 in
theorem chains_any (p : Pat) (n d : Int) (v : Value) (w : World) (h : PatF 0 w v p) (hp : PValid p) (hs : FSize n d) :
    Calls Try.prog 72 #[v, .agg #[.int .i64 n, .int .i64 d]] w fun e w' => (∃ vm ok, e = .returned (.tuple #[vm, .bool ok]) ∧
      ((ok = false ∧ vm = .slice none 0 0 ∧ ∃ a, a < p.n.toNat ∧ 0 < chainM p n d a a) ∨ (ok = true ∧ (∀ a, a < p.n.toNat → chainM p n d a a ≤ 0) ∧ MatF w.heap.size w' vm p.n.toNat (chainM p n d)))) ∧ Below w.heap.size w w' := by
  have h00 := h
  obtain ⟨ao, cap, rfl, hcap, hmax, hc⟩ := h.shape
  unfold maxLen at hmax
  clear h
  obtain ⟨N, hN⟩ : ∃ N : Nat, p.n = N := ⟨p.n.toNat, by have := hp.1; omega⟩
  obtain ⟨hp1, hp2, hp3, hp4⟩ := hp
  rw [hN] at hp1 hp2
  obtain ⟨L, hL⟩ : ∃ L, p.rules.length = L := ⟨_, rfl⟩
  have HL := hid hL
  have HN := hid hN
  have HP4 := hid hp4
  have HS := hid hs
  rw [hL] at hcap hp3 h00 ⊢
  rw [hN] at h00 ⊢
  clear hL hN hp4 hs hc
  go_enter Try.func72, Try.ntmps72
  go_wp2_with (at_make; refine wpList_mkr rfl (.tmp 18) (.tmp 18) 77 rfl 49 (.slice none 0 0) 24 Try.underlying77 infoInts rfl _ _ N rfl rfl (by omega) (by omega) ?_)
  rw [made_out (w.heap.size + 1 + 1 + 1)]
  obtain ⟨w0, hw0, k0, k1, k2, hB, hsz⟩ := three_new w #[.int .i64 (N : Int), .slice ao L cap] #[.int .i64 n, .int .i64 d] (outArr (w.heap.size + 1 + 1 + 1) N 0) 24 26 49
  rw [hw0]
  clear hw0
  obtain ⟨S, hS⟩ : ∃ S, w.heap.size = S := ⟨_, rfl⟩
  rw [hS] at k0 k1 k2 hB hsz ⊢
  have hch : Ch w0 S N 0 #[.int .i64 (N : Int), .slice ao L cap] n d m0 := ⟨k0, k1, k2, fun a ha => absurd ha (Nat.not_lt_zero a)⟩
  have HSS := hid hS
  clear hS k0 k1 k2
  go_loopw [22] (fun x wr => ∃ k : Nat, x = .int .i64 k ∧ k ≤ N ∧ Ch wr S N k #[.int .i64 (N : Int), .slice ao L cap] n d m0 ∧ wr.heap.size = S + 1 + 1 + 1 + k ∧ Below S w wr) (fun x _ => N - (intOf x).toNat)
  case atStart => exact ⟨0, rfl, Nat.zero_le _, hch, by omega, hB⟩
  case round =>
    obtain ⟨k, rfl, hk, hch', hsz', hbel⟩ := hrel
    have HZ := hid hsz'
    clear hsz' hch
    by_cases hkN : k < N
    · have c0 := hch'.kp.look 0 rfl
      have f0 := hch'.ko.frozen
      have cO := hch'.ko.look k (outArr_old hkN (Nat.lt_irrefl k))
      have l1 := hch'.kp.lt
      have l2 := hch'.ko.lt
      go_wp2_with (at_make; refine wpList_mkr rfl (.tmp 28) (.tmp 28) 49 rfl 3 (.int .i64 0) 8 Try.underlying49 infoInt rfl _ _ N rfl rfl (by omega) (by omega) ?_)
      rw [HZ.out, made_row]
      have hg := hch'.grow HZ.out (fun _ => 0)
      have hbg : Below S w ((wr.setCell ⟨S + 1 + 1, k, none⟩ (.slice (some ⟨S + 1 + 1 + 1 + k, 0, none⟩) N N)).alloc (.cells (rowArr N (fun _ => 0)) 3)) := (hbel.setCell (Nat.le_add_right S 2) _).alloc (by simp [World.setCell]; omega) _
      have hzg : ((wr.setCell ⟨S + 1 + 1, k, none⟩ (.slice (some ⟨S + 1 + 1 + 1 + k, 0, none⟩) N N)).alloc (.cells (rowArr N (fun _ => 0)) 3)).heap.size = S + 1 + 1 + 1 + (k + 1) := by simp [World.setCell, HZ.out]; omega
      obtain ⟨wg, hwg⟩ : ∃ wg, (wr.setCell ⟨S + 1 + 1, k, none⟩ (.slice (some ⟨S + 1 + 1 + 1 + k, 0, none⟩) N N)).alloc (.cells (rowArr N (fun _ => 0)) 3) = wg := ⟨_, rfl⟩
      rw [hwg] at hg hbg hzg ⊢
      have HZG := hid hzg
      clear hwg hzg hch' c0 f0 cO l1 l2 hbel HZ
      go_loopw [36] (fun x wr => ∃ b : Nat, x = .int .i64 b ∧ b ≤ N ∧ Ch wr S N (k + 1) #[.int .i64 (N : Int), .slice ao L cap] n d (fun a => if a = k then (fun x => if x < b then NONE else 0) else m0 a) ∧ wr.heap.size = S + 1 + 1 + 1 + (k + 1) ∧ Below S w wr) (fun x _ => N - (intOf x).toNat)
      case atStart => exact ⟨0, rfl, Nat.zero_le _, by simpa using hg, HZG.out, hbg⟩
      case round =>
        obtain ⟨b, rfl, hb, hc2, hz2, hbel2⟩ := hrel
        have HZ2 := hid hz2
        clear hz2 hg hbg
        have cO := hc2.ko.look k (outArr_get hkN (Nat.lt_succ_self k))
        have hrow := hc2.km k (Nat.lt_succ_self k)
        have fr := hrow.frozen
        by_cases hbN : b < N
        · have cb := hrow.look b (rowArr_get hbN)
          simp only [if_true] at cb
          rw [if_neg (Nat.lt_irrefl b)] at cb
          go_wp2
          go_roundw
          case rel =>
            refine ⟨b + 1, by go_num, by omega, (hc2.set k b NONE).congr (fun a _ x _ => ?_), by simpa [World.setCell] using HZ2.out, hbel2.setCell (by show S ≤ S + 1 + 1 + 1 + k; omega) _⟩
            unfold upd
            by_cases hak : a = k
            · subst hak
              by_cases hxb : x = b
              · subst hxb; simp
              · simp only [true_and, hxb, if_false, if_true]
                by_cases h1 : x < b
                · rw [if_pos h1, if_pos (by omega)]
                · rw [if_neg h1, if_neg (by omega)]
            · simp [hak]
          case measure => simp [intOf]; omega
        · obtain rfl : b = N := by omega
          have cb := hrow.look k (rowArr_get hkN)
          simp only [if_true] at cb
          go_wp2
          go_roundw
          case rel =>
            refine ⟨k + 1, by go_num, by omega, (hc2.set k k 0).congr (fun a ha x hx => ?_), by simpa [World.setCell] using HZ2.out, hbel2.setCell (by show S ≤ S + 1 + 1 + 1 + k; omega) _⟩
            unfold upd m0
            by_cases hak : a = k
            · subst hak
              by_cases hxb : x = a
              · subst hxb; simp
              · simp [hxb, hx, Ne.symm hxb]
            · simp [hak]
          case measure => simp [intOf]; omega
    · obtain rfl : k = N := by omega
      have c0 := hch'.kp.look 0 rfl
      have c1 := hch'.kp.look 1 rfl
      have hB1 : Below w.heap.size w wr := by rw [HSS.out]; exact hbel
      go_wp2_with fail
      refine (All4_any p _ _ (h00.below hB1) (by rw [HN.out]; omega) (by rw [HN.out]; omega) (by rw [HL.out]; omega)).mono ?_
      rintro e w1 ⟨v1, v2, rfl, hr1, hr2, hb1⟩
      have hch1 := hch'.below hb1
      have hbel1 := hbel.trans (hb1.mono (by have := HZ.out; omega))
      have hlt1 : S + 1 + 1 + 1 + k ≤ w1.heap.size := by have := hb1.size; have := HZ.out; omega
      obtain ⟨ro, rcap, rfl, hrc, hrm, hrcells⟩ := hr1
      unfold maxLen at hrm
      rw [HZ.out] at hrcells
      clear hch' hr2 hb1 hbel hB1 c0 c1
      obtain ⟨E, hE⟩ : ∃ E, (ext p).length = E := ⟨_, rfl⟩
      have HE := hid hE
      have hE80 : E ≤ 80 := by rw [← hE]; unfold ext; rw [List.length_append, List.length_map, List.length_range, HL.out, HN.out]; omega
      have HRV : Hid (∀ r ∈ ext p, RV (k : Int) r) := by have := ext_rv (p := p) (by rw [HN.out]; omega) HP4.out; rw [HN.out] at this; exact this
      rw [hE] at hrc ⊢
      clear hE
      go_wp2_with fail
      go_loopw [60] (fun x wr => ∃ j : Nat, x = .int .i64 j ∧ j ≤ E ∧ Ch wr S k k #[.int .i64 (k : Int), .slice ao L cap] n d (((ext p).take j).foldl (addR n d) m0) ∧ CellsOf (S + 1 + 1 + 1 + k) wr ro (ruCells (ext p)) ∧ S + 1 + 1 + 1 + k ≤ wr.heap.size ∧ Below S w wr) (fun x _ => E - (intOf x).toNat)
      case atStart => exact ⟨0, rfl, Nat.zero_le _, by simpa using hch1, hrcells, hlt1, hbel1⟩
      case round =>
        obtain ⟨j, rfl, hj, hc3, hrcs, hlt3, hbel3⟩ := hrel
        clear hch1 hrcells hlt1 hbel1
        by_cases hjE : j < E
        · obtain ⟨r, hr⟩ := ex_rule (l := ext p) (i := j) (by rw [HE.out]; exact hjE)
          obtain ⟨b, off, rfl, hb, d0, d1, d2, d3⟩ := ru_cell hrcs hr
          have hrv := HRV.out r (rule_mem hr)
          have hfold : ((ext p).take (j + 1)).foldl (addR n d) m0 = addR n d (((ext p).take j).foldl (addR n d) m0) r := by
            rw [List.take_succ_eq_append_getElem (by rw [HE.out]; exact hjE), List.foldl_append]
            have : (ext p)[j]'(by rw [HE.out]; exact hjE) = r := (List.getElem?_eq_some_iff.1 hr).2
            rw [this]; rfl
          generalize ((ext p).take j).foldl (addR n d) m0 = M at hc3 hfold
          have HRV2 := hid hrv
          have HFO := hid hfold
          clear hr hfold
          obtain ⟨A, hA⟩ : ∃ A : Nat, r.a = A := ⟨r.a.toNat, by have := hrv.1; omega⟩
          obtain ⟨B, hBB⟩ : ∃ A : Nat, r.b = A := ⟨r.b.toNat, by have := hrv.2.2.1; omega⟩
          have hAk : A < k := by have := hrv.2.1; omega
          have hBk : B < k := by have := hrv.2.2.2.1; omega
          rw [hA] at d0
          rw [hBB] at d1
          have HA := hid hA
          have HBB := hid hBB
          clear hA hBB hrv
          obtain ⟨rc, hrcc⟩ : ∃ x, r.c = x := ⟨_, rfl⟩
          obtain ⟨rd, hrdd⟩ : ∃ x, r.d = x := ⟨_, rfl⟩
          rw [hrcc] at d2
          rw [hrdd] at d3
          have WT : Hid (∀ w, Calls Try.prog 81 #[.agg #[.int .i64 (A : Int), .int .i64 (B : Int), .int .i64 rc, .int .i64 rd], .agg #[.int .i64 n, .int .i64 d]] w fun e w' => e = .returned (.int .i64 (wt r n d)) ∧ Below w.heap.size w w') := by
            rw [← HA.out, ← HBB.out, ← hrcc, ← hrdd]; exact fun w => weight_any k r n d w HRV2.out HS.out
          clear hrcc hrdd
          go_upto_region 17 with fail
          have kr := Blk.new wr #[.int .i64 (A : Int), .int .i64 (B : Int), .int .i64 rc, .int .i64 rd] 46
          have hbW : Below wr.heap.size wr (wr.alloc (.cells #[.int .i64 (A : Int), .int .i64 (B : Int), .int .i64 rc, .int .i64 rd] 46)) := (Below.refl _ _).alloc (Nat.le_refl _) _
          have hzW : (wr.alloc (.cells #[.int .i64 (A : Int), .int .i64 (B : Int), .int .i64 rc, .int .i64 rd] 46)).heap.size = wr.heap.size + 1 := World.size_alloc _ _
          obtain ⟨W0, hW0⟩ : ∃ W0, wr.alloc (.cells #[.int .i64 (A : Int), .int .i64 (B : Int), .int .i64 rc, .int .i64 rd] 46) = W0 := ⟨_, rfl⟩
          rw [hW0] at kr hbW hzW ⊢
          have hcW := hc3.below hbW
          have hrW := hrcs.below hbW
          have hBW := hbel3.trans (hbW.mono (by omega))
          obtain ⟨X, hX⟩ : ∃ X, wr.heap.size = X := ⟨_, rfl⟩
          rw [hX] at kr hzW hlt3 ⊢
          clear hW0 hX hbW hc3 hrcs hbel3 d0 d1 d2 d3 hb
          have hXA : X ≠ S + 1 + 1 + 1 + A := by omega
          have hWd := (Below.refl W0.heap.size W0).drew
          have z0 := fun x : Sub W0 => (keep17 kr hcW hAk x.b).1
          have z1 := fun x : Sub W0 => (keep17 kr hcW hAk x.b).2.1
          have z2 := fun x : Sub W0 => (keep17 kr hcW hAk x.b).2.2.1
          have z3 := fun x : Sub W0 => (keep17 kr hcW hAk x.b).2.2.2.1
          have z4 := fun x : Sub W0 => (keep17 kr hcW hAk x.b).2.2.2.2.1
          have z5 := fun x : Sub W0 => (keep17 kr hcW hAk x.b).2.2.2.2.2.1
          have z6 := fun x : Sub W0 => (keep17 kr hcW hAk x.b).2.2.2.2.2.2
          have z7 := fun x : Sub W0 => ((hcW.below x.b).km A hAk).look B (rowArr_get hBk)
          have z8 := fun x : Sub W0 => ((hcW.below x.b).km A hAk).frozen
          refine wp_region_snoc' (C := fun w' => ∃ x : Sub _, w' = x.w) (l := [_, _, _, _, _, _, _, _, _, _, _, _, _, _, _, _, _, _, _, _, _]) rfl (by kernel_rfl) (by kernel_rfl) (by kernel_rfl) (Sub.first _) ?_
          repeat (quiet_step ((go_at_call 81; refine sub_call (WT.out _))))
          refine wpQuiet_nil ?_
          intro _ hw'
          obtain ⟨xq, hw''⟩ := hw'
          subst hw''
          have hz := hcW.below xq.b
          have hcs := (hrW.below xq.b).setCell (p := ⟨S + 1 + 1 + 1 + A, B, none⟩) (by simp; omega) (.int .i64 (if M A B < wt r n d then wt r n d else M A B))
          have hset := hz.set A B (if M A B < wt r n d then wt r n d else M A B)
          have hbx : Below S w xq.w := hBW.trans (xq.b.mono (by omega))
          have hsx : X + 1 ≤ xq.w.heap.size := by have := xq.b.size; omega
          go_wp2
          go_roundw
          case rel =>
            refine ⟨j + 1, by go_num, by omega, ?_, hcs, by simp [World.setCell]; omega, hbx.setCell (by show S ≤ S + 1 + 1 + 1 + A; omega) _⟩
            rw [HFO.out]
            have e : addR n d M r = upd M A B (if M A B < wt r n d then wt r n d else M A B) := by
              unfold addR
              rw [HA.out, HBB.out, Int.toNat_natCast, Int.toNat_natCast]
              congr 1
              split <;> omega
            rw [e]
            exact hset
          case measure => simp [intOf]; omega
        · obtain rfl : j = E := by omega
          have htk : (ext p).take j = ext p := List.take_of_length_le (by rw [HE.out]; exact Nat.le_refl _)
          rw [htk] at hc3
          obtain ⟨M0, hM0⟩ : ∃ M0, (ext p).foldl (addR n d) m0 = M0 := ⟨_, rfl⟩
          rw [hM0] at hc3
          have HM0 := hid hM0
          clear hM0 htk hrcs hlt3
          have c0 := hc3.kp.look 0 rfl
          go_wp2_with fail
          clear c0
          generalize wr = w4 at *
          go_loopw [88] (fun x wr => ∃ m : Nat, x = .int .i64 m ∧ m ≤ k ∧ Ch wr S k k #[.int .i64 (k : Int), .slice ao L cap] n d ((List.range m).foldl (fwStep k) M0) ∧ Below S w wr) (fun x _ => k - (intOf x).toNat)
          case atStart => exact ⟨0, rfl, Nat.zero_le _, hc3, hbel3⟩
          case round =>
            obtain ⟨m, rfl, hm, hc4, hbel4⟩ := hrel
            clear hc3 hbel3
            have c0 := hc4.kp.look 0 rfl
            by_cases hmk : m < k
            · go_wp2_with fail
              clear c0
              obtain ⟨M1, hM1⟩ : ∃ M1, (List.range m).foldl (fwStep k) M0 = M1 := ⟨_, rfl⟩
              rw [hM1] at hc4
              have HM1 := hid hM1
              clear hM1
              generalize wr = w5 at *
              go_loopw [93] (fun x wr => ∃ a : Nat, x = .int .i64 a ∧ a ≤ k ∧ Ch wr S k k #[.int .i64 (k : Int), .slice ao L cap] n d ((List.range a).foldl (fwRow k m) M1) ∧ Below S w wr) (fun x _ => k - (intOf x).toNat)
              case atStart => exact ⟨0, rfl, Nat.zero_le _, hc4, hbel4⟩
              case round =>
                obtain ⟨a, rfl, ha, hc5, hbel5⟩ := hrel
                clear hc4 hbel4
                have c0 := hc5.kp.look 0 rfl
                by_cases hak : a < k
                · go_wp2_with fail
                  clear c0
                  obtain ⟨M2, hM2⟩ : ∃ M2, (List.range a).foldl (fwRow k m) M1 = M2 := ⟨_, rfl⟩
                  rw [hM2] at hc5
                  have HM2 := hid hM2
                  clear hM2
                  generalize wr = w6 at *
                  go_loopw [98] (fun x wr => ∃ b : Nat, x = .int .i64 b ∧ b ≤ k ∧ Ch wr S k k #[.int .i64 (k : Int), .slice ao L cap] n d ((List.range b).foldl (fwC m a) M2) ∧ Below S w wr) (fun x _ => k - (intOf x).toNat)
                  case atStart => exact ⟨0, rfl, Nat.zero_le _, hc5, hbel5⟩
                  case round =>
                    obtain ⟨b, rfl, hb, hc6, hbel6⟩ := hrel
                    clear hc5 hbel5
                    by_cases hbk : b < k
                    · obtain ⟨M3, hM3⟩ : ∃ M3, (List.range b).foldl (fwC m a) M2 = M3 := ⟨_, rfl⟩
                      rw [hM3] at hc6
                      have hfo : (List.range (b + 1)).foldl (fwC m a) M2 = fwC m a M3 b := by rw [foldl_range_succ, hM3]
                      have HFO := hid hfo
                      clear hM3 hfo
                      have oa := hc6.ko.look a (outArr_get hak hak)
                      have om := hc6.ko.look m (outArr_get hmk hmk)
                      have cam := (hc6.km a hak).look m (rowArr_get hmk)
                      have cmb := (hc6.km m hmk).look b (rowArr_get hbk)
                      obtain ⟨xam, hxam⟩ : ∃ x, M3 a m = x := ⟨_, rfl⟩
                      obtain ⟨xmb, hxmb⟩ : ∃ x, M3 m b = x := ⟨_, rfl⟩
                      rw [hxam] at cam
                      rw [hxmb] at cmb
                      by_cases h1 : xam = -1152921504606846976
                      · have hst : fwC m a M3 b = M3 := by unfold fwC NONE; rw [if_neg (by rw [hxam]; intro hh; exact hh.1 h1)]
                        have HXA := hid hxam
                        have HXB := hid hxmb
                        have HST := hid hst
                        clear hxam hxmb hst
                        subst h1
                        go_wp2
                        go_roundw
                        case rel => exact ⟨b + 1, by go_num, by omega, by rw [HFO.out, HST.out]; exact hc6, hbel6⟩
                        case measure => simp [intOf]; omega
                      · by_cases h2 : xmb = -1152921504606846976
                        · have hst : fwC m a M3 b = M3 := by unfold fwC NONE; rw [if_neg (by rw [hxmb]; intro hh; exact hh.2 h2)]
                          have HXA := hid hxam
                          have HXB := hid hxmb
                          have HST := hid hst
                          clear hxam hxmb hst
                          subst h2
                          go_wp2
                          go_roundw
                          case rel => exact ⟨b + 1, by go_num, by omega, by rw [HFO.out, HST.out]; exact hc6, hbel6⟩
                          case measure => simp [intOf]; omega
                        · have hst : fwC m a M3 b = upd M3 a b (max (M3 a b) (wrap64 (xam + xmb))) := by
                            unfold fwC NONE
                            rw [hxam, hxmb, if_pos ⟨h1, h2⟩]
                          have HXA := hid hxam
                          have HXB := hid hxmb
                          have HST := hid hst
                          clear hxam hxmb hst
                          have hn1 : (xam != -1152921504606846976) = true := by simpa using h1
                          have hn2 : (xmb != -1152921504606846976) = true := by simpa using h2
                          go_wp2_with fail
                          have z0 := fun x : Sub wr => ((hc6.below x.b).ko).look a (outArr_get hak hak)
                          have z1 := fun x : Sub wr => ((hc6.below x.b).ko).look m (outArr_get hmk hmk)
                          have z2 := fun x : Sub wr => (((hc6.below x.b).km a hak).look m (rowArr_get hmk)).trans (congrArg (fun y => some (Value.int .i64 y)) HXA.out)
                          have z3 := fun x : Sub wr => (((hc6.below x.b).km m hmk).look b (rowArr_get hbk)).trans (congrArg (fun y => some (Value.int .i64 y)) HXB.out)
                          have z4 := fun x : Sub wr => ((hc6.below x.b).km a hak).look b (rowArr_get hbk)
                          have z5 := fun x : Sub wr => ((hc6.below x.b).km a hak).frozen
                          clear oa om cam cmb hn1 hn2
                          refine wp_region_snoc' (C := fun w' => ∃ x : Sub _, w' = x.w) (l := [_, _, _, _, _, _, _, _, _, _, _, _, _, _, _, _, _, _, _, _, _, _, _, _, _, _, _, _, _]) rfl (by kernel_rfl) (by kernel_rfl) (by kernel_rfl) (Sub.first _) ?_
                          repeat (quiet_step ((fail)))
                          refine wpQuiet_nil ?_
                          intro _ hw'
                          obtain ⟨xq, hw''⟩ := hw'
                          subst hw''
                          have hz := (hc6.below xq.b)
                          have hbx : Below S w xq.w := hbel6.trans (xq.b.mono (by have := hc6.ko.lt; omega))
                          have hset := hz.set a b (if M3 a b < wrap64 (xam + xmb) then wrap64 (xam + xmb) else M3 a b)
                          go_wp2
                          go_roundw
                          case rel =>
                            refine ⟨b + 1, by go_num, by omega, ?_, hbx.setCell (by show S ≤ S + 1 + 1 + 1 + a; omega) _⟩
                            rw [HFO.out, HST.out]
                            have e : upd M3 a b (max (M3 a b) (wrap64 (xam + xmb))) = upd M3 a b (if M3 a b < wrap64 (xam + xmb) then wrap64 (xam + xmb) else M3 a b) := by
                              congr 1
                              generalize wrap64 (xam + xmb) = y
                              split <;> omega
                            rw [e]
                            exact hset
                          case measure => simp [intOf]; omega
                    · obtain rfl : b = k := by omega
                      go_wp2
                      go_roundw
                      case rel =>
                        refine ⟨a + 1, by go_num, by omega, ?_, hbel6⟩
                        rw [foldl_range_succ, HM2.out]
                        exact hc6
                      case measure => simp [intOf]; omega
                · obtain rfl : a = k := by omega
                  go_wp2
                  go_roundw
                  case rel =>
                    refine ⟨m + 1, by go_num, by omega, ?_, hbel5⟩
                    rw [foldl_range_succ, HM1.out]
                    exact hc5
                  case measure => simp [intOf]; omega
            · obtain rfl : m = k := by omega
              go_wp2_with fail
              clear c0
              obtain ⟨F, hF⟩ : ∃ F, chainM p n d = F := ⟨_, rfl⟩
              have hF2 : (List.range m).foldl (fwStep m) M0 = F := by
                rw [← hF, ← HM0.out]
                unfold chainM fwAll
                rw [HN.out, Int.toNat_natCast]
              rw [hF2] at hc4
              have HF := hid hF
              clear hF hF2
              generalize wr = w5 at *
              go_loopw [153] (fun x wr => ∃ i : Nat, x = .int .i64 i ∧ i ≤ m ∧ (∀ a, a < i → F a a ≤ 0) ∧ Ch wr S m m #[.int .i64 (m : Int), .slice ao L cap] n d F ∧ Below S w wr) (fun x _ => m - (intOf x).toNat)
              case atStart => exact ⟨0, rfl, Nat.zero_le _, fun a ha => absurd ha (Nat.not_lt_zero a), hc4, hbel4⟩
              case round =>
                obtain ⟨i, rfl, hi, hdia, hc5, hbel5⟩ := hrel
                clear hc4 hbel4
                by_cases him : i < m
                · have o1 := hc5.ko.look i (outArr_get him him)
                  have c1 := (hc5.km i him).look i (rowArr_get him)
                  obtain ⟨y, hy⟩ : ∃ y, F i i = y := ⟨_, rfl⟩
                  rw [hy] at c1
                  have HY := hid hy
                  clear hy
                  by_cases hpos : 0 < y
                  · go_wp2
                    refine bodyPost_ret (v := .tuple #[.slice none 0 0, .bool false]) (by simp [results, Try.results72, go_sem]) rfl ⟨⟨_, _, rfl, .inl ⟨rfl, rfl, i, ?_, ?_⟩⟩, by rw [HSS.out]; exact hbel5⟩
                    · rw [Int.toNat_natCast]; exact him
                    · rw [HF.out, HY.out]; exact hpos
                  · go_wp2
                    go_roundw
                    case rel =>
                      refine ⟨i + 1, by go_num, by omega, fun a ha => ?_, hc5, hbel5⟩
                      by_cases hai : a = i
                      · subst hai; rw [HY.out]; omega
                      · exact hdia a (by omega)
                    case measure => simp [intOf]; omega
                · obtain rfl : i = m := by omega
                  go_wp2
                  refine bodyPost_ret (v := .tuple #[.slice (some ⟨S + 1 + 1, 0, none⟩) i i, .bool true]) (by simp [results, Try.results72, go_sem]) rfl ⟨⟨_, _, rfl, .inr ⟨rfl, ?_, ?_⟩⟩, by rw [HSS.out]; exact hbel5⟩
                  · rw [Int.toNat_natCast, HF.out]; exact hdia
                  · rw [Int.toNat_natCast, HF.out, HSS.out]
                    exact ⟨S + 1 + 1, S + 1 + 1 + 1, rfl, by omega, by omega, hc5.ko, hc5.km⟩

end Go.Proofs.Ytmknengmjepdaaa
