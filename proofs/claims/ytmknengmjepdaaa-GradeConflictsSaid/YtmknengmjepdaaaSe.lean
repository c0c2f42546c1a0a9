/- Walks of grade.Sizes, Ends, Conflict. -/
import Derived.Test.YtmknengmjepdaaaSd
import Derived.Test.YtmknengmjepdaaaRv
namespace Go.Proofs.Ytmknengmjepdaaa
open Go.RowKit
attribute [local irreducible] seqS seqST walkV

@[local go_sem] theorem eql_nil3 (a : Option Addr) (n c : Nat) (w : World) : (binOp .eql 77 (.slice a n c) (.slice none 0 0)).run Try.prog w = .ok (.bool a.isNone) w := Lib.run_eql_slice_nil w 77 49 a n c 0 0 Try.underlying77
@[local go_sem] theorem neq_nil3 (a : Option Addr) (n c : Nat) (w : World) : (binOp .neq 77 (.slice a n c) (.slice none 0 0)).run Try.prog w = .ok (.bool a.isSome) w := by
  simp only [binOp]
  simp [Op.equal, Op.maxDepth, Lib.run_equalIn_slice_nil w 9999 77 49 a n c 0 0 Try.underlying77]

/-- All blocks but one are as they were. -/
structure OnlyB (b : Nat) (w w' : World) : Prop where
  size : w.heap.size ≤ w'.heap.size
  block : ∀ k, k ≠ b → k < w.heap.size → w'.heap[k]? = w.heap[k]?
theorem onlyB_pre (b : Nat) : Pre (OnlyB b) := ⟨fun _ => ⟨Nat.le_refl _, fun _ _ _ => rfl⟩, fun h k => ⟨Nat.le_trans h.size k.size, fun i hi hlt => (k.block i hi (Nat.lt_of_lt_of_le hlt h.size)).trans (h.block i hi hlt)⟩⟩
theorem OnlyB.blk {b c : Nat} {w w' : World} {cs : Array Value} {t : TypeId} (h : OnlyB b w w') (k : Blk w c cs t) (hne : c ≠ b) : Blk w' c cs t := (h.block c hne k.lt).trans k
instance instOnlyB (b : Nat) (W : World) : Nonempty (SubT (OnlyB b) W) := ⟨⟨W, (onlyB_pre b).refl W⟩⟩
theorem OnlyB.set (w : World) (b j : Nat) (u : Value) : OnlyB b w (w.setCell ⟨b, j, none⟩ u) := ⟨by simp [World.setCell], fun k hk _ => Below.heap_setCell w ⟨b, j, none⟩ u k hk⟩
theorem OnlyB.drew (w : World) (b : Nat) : OnlyB b w w.drew := ⟨Nat.le_refl _, fun _ _ _ => rfl⟩

theorem ConfOk.shape {p : Pat} {lo : Nat} {W : World} {v : Value} (h : ConfOk p lo W v) : ∃ g n, v = .slice (some ⟨g, 0, none⟩) n n := by
  rcases h with ⟨g, v1, es, h1, -⟩ | ⟨g, v1, v2, es1, es2, h1, -⟩
  · exact ⟨g, 1, h1⟩
  · exact ⟨g, 2, h1⟩
theorem ConfOk.below {p : Pat} {lo : Nat} {W W' : World} {v : Value} (h : ConfOk p lo W v) (hb : Below W.heap.size W W') : ConfOk p lo W' v := by
  rcases h with ⟨g, v1, es, h1, h2, h3, h4, h5⟩ | ⟨g, v1, v2, es1, es2, h1, h2, h3, h4, h5, h6⟩
  · exact .inl ⟨g, v1, es, h1, h2, h3.below hb, h4.below hb, h5⟩
  · exact .inr ⟨g, v1, v2, es1, es2, h1, h2, h3.below hb, h4.below hb, h5.below hb, h6⟩

/-- What Sizes hands back. -/
def GSz (p : Pat) (ln ld hn hd E : Int) : Prop :=
  (¬ PValid p ∧ E = 2 ∧ ln = 0 ∧ ld = 0 ∧ hn = 0 ∧ hd = 0) ∨ (PValid p ∧ SzNo p ∧ E = 10 ∧ ln = 0 ∧ ld = 0 ∧ hn = 0 ∧ hd = 0) ∨ (PValid p ∧ E = 0 ∧ SzOk p ln ld hn hd)
theorem gsz_unique {p : Pat} {a b c e E a' b' c' e' E' : Int} (h : GSz p a b c e E) (k : GSz p a' b' c' e' E') : a = a' ∧ b = b' ∧ c = c' ∧ e = e' ∧ E = E' := by
  rcases h with ⟨h1, rfl, rfl, rfl, rfl, rfl⟩ | ⟨h1, h2, rfl, rfl, rfl, rfl, rfl⟩ | ⟨h1, rfl, h2⟩
  · rcases k with ⟨k1, rfl, rfl, rfl, rfl, rfl⟩ | ⟨k1, -⟩ | ⟨k1, -⟩
    · simp
    · exact absurd k1 h1
    · exact absurd k1 h1
  · rcases k with ⟨k1, -⟩ | ⟨k1, k2, rfl, rfl, rfl, rfl, rfl⟩ | ⟨k1, rfl, k2⟩
    · exact absurd h1 k1
    · simp
    · exact (szok_no k2 h2).elim
  · rcases k with ⟨k1, -⟩ | ⟨k1, k2, rfl, rfl, rfl, rfl, rfl⟩ | ⟨k1, rfl, k2⟩
    · exact absurd h1 k1
    · exact (szok_no h2 k2).elim
    · obtain ⟨a1, a2, a3, a4⟩ := szok_unique h2 k2
      exact ⟨a1, a2, a3, a4, rfl⟩

set_option maxHeartbeats 4000000 in
set_option maxRecDepth 100000 in
theorem gSizes_any (p : Pat) (v : Value) (w : World) (h : PatF 0 w v p) :
    Calls Try.prog 47 #[v] w fun e w' => (∃ ln ld hn hd E, e = .returned (.tuple #[frV ln ld, frV hn hd, .int .i64 E]) ∧ GSz p ln ld hn hd E) ∧ Below w.heap.size w w' := by
  obtain ⟨sv, rfl, -⟩ := id h
  have H := hid h
  go_enter Try.func47, Try.ntmps47
  go_wp2_with fail
  have k0 := ((Blk.new w #[.int .i64 p.n, sv] 33).alloc (.cells #[.int .i64 0, .int .i64 0] 26)).alloc (.cells #[.int .i64 0, .int .i64 0] 26)
  have k1 := (Blk.new (w.alloc (.cells #[.int .i64 p.n, sv] 33)) #[.int .i64 0, .int .i64 0] 26).alloc (.cells #[.int .i64 0, .int .i64 0] 26)
  have k2 := Blk.new ((w.alloc (.cells #[.int .i64 p.n, sv] 33)).alloc (.cells #[.int .i64 0, .int .i64 0] 26)) #[.int .i64 0, .int .i64 0] 26
  have b0 := (((Below.refl w.heap.size w).alloc (Nat.le_refl _) (.cells #[.int .i64 p.n, sv] 33)).alloc (by simp) (.cells #[.int .i64 0, .int .i64 0] 26)).alloc (by simp <;> omega) (.cells #[.int .i64 0, .int .i64 0] 26)
  simp only [World.size_alloc] at k1 k2
  obtain ⟨w0, hw0⟩ : ∃ w0, ((w.alloc (.cells #[.int .i64 p.n, sv] 33)).alloc (.cells #[.int .i64 0, .int .i64 0] 26)).alloc (.cells #[.int .i64 0, .int .i64 0] 26) = w0 := ⟨_, rfl⟩
  rw [hw0] at k0 k1 k2 b0 ⊢
  clear hw0
  obtain ⟨S, hS⟩ : ∃ S, w.heap.size = S := ⟨_, rfl⟩
  have HS := hid hS
  rw [hS] at k0 k1 k2 b0 ⊢
  clear hS h
  refine (gValid_any p _ _ (H.out.below (by rw [HS.out]; exact b0))).mono ?_
  rintro e w1 ⟨rfl, hb1⟩
  have hlt0 := k2.lt
  have b1 := b0.trans (hb1.mono (by omega))
  have k01 := k0.below hb1
  have k11 := k1.below hb1
  have k21 := k2.below hb1
  clear k0 k1 k2 b0 hb1 hlt0
  by_cases hp : PValid p
  · rw [decide_eq_true hp]
    have HP := hid hp
    clear hp
    have c0 := k01.look 0 rfl
    have c1 := k01.look 1 rfl
    go_wp2_with fail
    refine (sizes_any p _ _ (H.out.below (by rw [HS.out]; exact b1)) HP.out).mono ?_
    rintro e w2 ⟨⟨ln, ld, hn, hd, low, high, conf, rfl, ⟨xa, xn, xc, rfl⟩, ⟨ya, yn, yc, rfl⟩, hret⟩, hb2⟩
    have hlt1 := k21.lt
    have b2 := b1.trans (hb2.mono (by omega))
    have k12 := k11.below hb2
    have k22 := k21.below hb2
    clear k01 k11 k21 b1 hb2 c0 c1
    have hlt2 := k22.lt
    have kI := fun v => Blk.new w2 #[.int .i64 ln, .int .i64 ld, .int .i64 hn, .int .i64 hd, .slice xa xn xc, .slice ya yn yc, v] 126
    have k13 := fun v => k12.alloc (.cells #[.int .i64 ln, .int .i64 ld, .int .i64 hn, .int .i64 hd, .slice xa xn xc, .slice ya yn yc, v] 126)
    have k23 := fun v => k22.alloc (.cells #[.int .i64 ln, .int .i64 ld, .int .i64 hn, .int .i64 hd, .slice xa xn xc, .slice ya yn yc, v] 126)
    have b3 := fun v => b2.alloc (by omega) (.cells #[.int .i64 ln, .int .i64 ld, .int .i64 hn, .int .i64 hd, .slice xa xn xc, .slice ya yn yc, v] 126)
    rcases hret with ⟨hno, hcf⟩ | ⟨rfl, hok, hlow, hhigh⟩
    · obtain ⟨g, m, rfl⟩ := hcf.shape
      have HNO := hid hno
      replace k13 := k13 (.slice (some ⟨g, 0, none⟩) m m)
      replace k23 := k23 (.slice (some ⟨g, 0, none⟩) m m)
      replace b3 := b3 (.slice (some ⟨g, 0, none⟩) m m)
      replace kI := kI (.slice (some ⟨g, 0, none⟩) m m)
      have i6 := kI.look 6 rfl
      have f1 := k13.frozen
      have f2 := k23.frozen
      have q0 := k13.look 0 rfl
      have q1 := k13.look 1 rfl
      have q2 := k23.look 0 rfl
      have q3 := k23.look 1 rfl
      have r0 := k13.cell 0
      have r1 := k13.cell 1
      have r2 := k23.cell 0
      have r3 := k23.cell 1
      clear hcf hno k12 k22 b2 kI
      go_wp2
      refine bodyPost_ret (v := .tuple #[frV 0 0, frV 0 0, .int .i64 10]) ?_ rfl ⟨⟨_, _, _, _, _, rfl, .inr (.inl ⟨HP.out, HNO.out, rfl, rfl, rfl, rfl, rfl⟩)⟩, by rw [HS.out]; exact ((((b3.setCell (p := ⟨S + 1, 0, none⟩) (by show S ≤ S + 1; omega) _).setCell (p := ⟨S + 1, 1, none⟩) (by show S ≤ S + 1; omega) _).setCell (p := ⟨S + 1 + 1, 0, none⟩) (by show S ≤ S + 1 + 1; omega) _).setCell (p := ⟨S + 1 + 1, 1, none⟩) (by show S ≤ S + 1 + 1; omega) _)⟩
      simp [results, Try.results47, go_sem, r0, r1, r2, r3]
    · have HOK := hid hok
      replace k13 := k13 (.slice none 0 0)
      replace k23 := k23 (.slice none 0 0)
      replace b3 := b3 (.slice none 0 0)
      replace kI := kI (.slice none 0 0)
      have i6 := kI.look 6 rfl
      clear hok hlow hhigh k12 k22 b2
      go_wp2_with fail
      obtain ⟨w3, hw3⟩ : ∃ w3, w2.alloc (.cells #[.int .i64 ln, .int .i64 ld, .int .i64 hn, .int .i64 hd, .slice xa xn xc, .slice ya yn yc, .slice none 0 0] 126) = w3 := ⟨_, rfl⟩
      obtain ⟨B, hBB⟩ : ∃ B, w2.heap.size = B := ⟨_, rfl⟩
      rw [hw3] at k13 k23 b3 kI ⊢
      rw [hBB] at kI hlt2 ⊢
      clear i6 hw3 hBB
      have hd := OnlyB.drew w3 (S + 1)
      have z0 := fun x : SubT (OnlyB (S + 1)) w3.drew => (((onlyB_pre (S + 1)).trans hd x.b).blk kI (by omega)).look 0 rfl
      have z1 := fun x : SubT (OnlyB (S + 1)) w3.drew => (((onlyB_pre (S + 1)).trans hd x.b).blk kI (by omega)).look 1 rfl
      have z2 := fun x : SubT (OnlyB (S + 1)) w3.drew => (((onlyB_pre (S + 1)).trans hd x.b).blk kI (by omega)).look 2 rfl
      have z3 := fun x : SubT (OnlyB (S + 1)) w3.drew => (((onlyB_pre (S + 1)).trans hd x.b).blk kI (by omega)).look 3 rfl
      refine wp_walkV (T := OnlyB (S + 1)) (onlyB_pre _) (.rd 0 (.rd 1 (.rd 2 (.rd 3 (.mv 4 (.bt 5 (.rd 6 .nil))))))) (by kernel_rfl) rfl rfl (by kernel_rfl) (by kernel_rfl) ?_
      iterate 4 (refine walkV_rd rfl (fun K hK => ?_); go_simp; refine hK _ ?_; clear hK K)
      clear z0 z1 z2 z3
      have k14 := k13.drew
      have k24 := k23.drew
      have b4 := b3.drew
      have f1 := k14.frozen
      have q0 := k14.look 0 rfl
      have q1 := k14.look 1 rfl
      generalize w3.drew = w4 at k14 k24 b4 f1 q0 q1 ⊢
      clear k13 k23 b3 hd
      (refine walkV_mv rfl (fun K hK => ?_); go_simp; refine hK _ _ ((onlyB_pre _).trans (OnlyB.set _ _ _ _) (OnlyB.set _ _ _ _)) ?_; clear hK K)
      have k15 := (k14.set 0 (.int .i64 ln)).set 1 (.int .i64 ld)
      have k25 := (k24.other (p := ⟨S + 1, 0, none⟩) (by show S + 1 + 1 ≠ S + 1; omega) (.int .i64 ln)).other (p := ⟨S + 1, 1, none⟩) (by show S + 1 + 1 ≠ S + 1; omega) (.int .i64 ld)
      have b5 := (b4.setCell (p := ⟨S + 1, 0, none⟩) (by show S ≤ S + 1; omega) (.int .i64 ln)).setCell (p := ⟨S + 1, 1, none⟩) (by show S ≤ S + 1; omega) (.int .i64 ld)
      clear f1 q0 q1 k14 k24 b4
      generalize (w4.setCell ⟨S + 1, 0, none⟩ (.int .i64 ln)).setCell ⟨S + 1, 1, none⟩ (.int .i64 ld) = w5 at k15 k25 b5 ⊢
      have f2 := k25.frozen
      have q2 := k25.look 0 rfl
      have q3 := k25.look 1 rfl
      (refine walkV_bt rfl (fun K hK => ?_); go_simp; refine hK _ _ ?_; clear hK K)
      have k16 := (k15.other (p := ⟨S + 1 + 1, 0, none⟩) (by show S + 1 ≠ S + 1 + 1; omega) (.int .i64 hn)).other (p := ⟨S + 1 + 1, 1, none⟩) (by show S + 1 ≠ S + 1 + 1; omega) (.int .i64 hd)
      have k26 := (k25.set 0 (.int .i64 hn)).set 1 (.int .i64 hd)
      have b6 := (b5.setCell (p := ⟨S + 1 + 1, 0, none⟩) (by show S ≤ S + 1 + 1; omega) (.int .i64 hn)).setCell (p := ⟨S + 1 + 1, 1, none⟩) (by show S ≤ S + 1 + 1; omega) (.int .i64 hd)
      clear f2 q2 q3 k15 k25 b5
      generalize (w5.setCell ⟨S + 1 + 1, 0, none⟩ (.int .i64 hn)).setCell ⟨S + 1 + 1, 1, none⟩ (.int .i64 hd) = w6 at k16 k26 b6 ⊢
      iterate 1 (refine walkV_rd rfl (fun K hK => ?_); go_simp; refine hK _ ?_; clear hK K)
      refine walkV_nil ?_
      have r0 := k16.cell 0
      have r1 := k16.cell 1
      have r2 := k26.cell 0
      have r3 := k26.cell 1
      go_wp2
      refine bodyPost_ret (v := .tuple #[frV ln ld, frV hn hd, .int .i64 0]) ?_ rfl ⟨⟨_, _, _, _, _, rfl, .inr (.inr ⟨HP.out, rfl, HOK.out⟩)⟩, by rw [HS.out]; exact b6⟩
      simp [results, Try.results47, go_sem, r0, r1, r2, r3]
  · rw [decide_eq_false hp]
    have HP := hid hp
    have f1 := k11.frozen
    have f2 := k21.frozen
    have q0 := k11.look 0 rfl
    have q1 := k11.look 1 rfl
    have q2 := k21.look 0 rfl
    have q3 := k21.look 1 rfl
    have r0 := k11.cell 0
    have r1 := k11.cell 1
    have r2 := k21.cell 0
    have r3 := k21.cell 1
    go_wp2
    refine bodyPost_ret (v := .tuple #[frV 0 0, frV 0 0, .int .i64 2]) ?_ rfl ⟨⟨_, _, _, _, _, rfl, .inl ⟨HP.out, rfl, rfl, rfl, rfl, rfl⟩⟩, by rw [HS.out]; exact ((((b1.setCell (p := ⟨S + 1, 0, none⟩) (by show S ≤ S + 1; omega) _).setCell (p := ⟨S + 1, 1, none⟩) (by show S ≤ S + 1; omega) _).setCell (p := ⟨S + 1 + 1, 0, none⟩) (by show S ≤ S + 1 + 1; omega) _).setCell (p := ⟨S + 1 + 1, 1, none⟩) (by show S ≤ S + 1 + 1; omega) _)⟩
    simp [results, Try.results47, go_sem, r0, r1, r2, r3]

/-- What Ends hands back. -/
def GEn (p : Pat) (lo : Nat) (W : World) (low high : Value) (E : Int) : Prop :=
  (¬ PValid p ∧ E = 2 ∧ low = .slice none 0 0 ∧ high = .slice none 0 0) ∨ (PValid p ∧ SzNo p ∧ E = 10 ∧ low = .slice none 0 0 ∧ high = .slice none 0 0) ∨ (PValid p ∧ E = 0 ∧ ∃ ln ld hn hd, SzOk p ln ld hn hd ∧ LowOk p lo W low ln ld ∧ HighOk p lo W high hn hd)
set_option maxHeartbeats 4000000 in
set_option maxRecDepth 100000 in
theorem gEnds_any (p : Pat) (v : Value) (w : World) (h : PatF 0 w v p) :
    Calls Try.prog 49 #[v] w fun e w' => (∃ low high E, e = .returned (.tuple #[low, high, .int .i64 E]) ∧ GEn p w.heap.size w' low high E) ∧ Below w.heap.size w w' := by
  obtain ⟨sv, rfl, -⟩ := id h
  have H := hid h
  go_enter Try.func49, Try.ntmps49
  go_wp2_with fail
  have k0 := Blk.new w #[.int .i64 p.n, sv] 33
  have b0 := (Below.refl w.heap.size w).alloc (Nat.le_refl _) (.cells #[.int .i64 p.n, sv] 33)
  obtain ⟨w0, hw0⟩ : ∃ w0, w.alloc (.cells #[.int .i64 p.n, sv] 33) = w0 := ⟨_, rfl⟩
  rw [hw0] at k0 b0 ⊢
  clear hw0 h
  refine (gValid_any p _ _ (H.out.below b0)).mono ?_
  rintro e w1 ⟨rfl, hb1⟩
  have b1 := b0.trans (hb1.mono b0.size)
  have k01 := k0.below hb1
  clear k0 b0 hb1
  by_cases hp : PValid p
  · rw [decide_eq_true hp]
    have HP := hid hp
    clear hp
    have c0 := k01.look 0 rfl
    have c1 := k01.look 1 rfl
    go_wp2_with fail
    refine (sizes_any p _ _ (H.out.below b1) HP.out).mono ?_
    rintro e w2 ⟨⟨ln, ld, hn, hd, low, high, conf, rfl, ⟨xa, xn, xc, rfl⟩, ⟨ya, yn, yc, rfl⟩, hret⟩, hb2⟩
    have b2 := b1.trans (hb2.mono b1.size)
    have hs1 := b1.size
    clear k01 b1 hb2 c0 c1
    rcases hret with ⟨hno, hcf⟩ | ⟨rfl, hok, hlow, hhigh⟩
    · obtain ⟨g, m, rfl⟩ := hcf.shape
      have HNO := hid hno
      have i6 := (Blk.new w2 #[.int .i64 ln, .int .i64 ld, .int .i64 hn, .int .i64 hd, .slice xa xn xc, .slice ya yn yc, .slice (some ⟨g, 0, none⟩) m m] 126).look 6 rfl
      clear hcf hno
      go_wp2
      refine bodyPost_ret (v := .tuple #[.slice none 0 0, .slice none 0 0, .int .i64 10]) ?_ rfl ⟨⟨_, _, _, rfl, .inr (.inl ⟨HP.out, HNO.out, rfl, rfl, rfl⟩)⟩, b2.alloc b2.size _⟩
      simp [results, Try.results49, go_sem]
    · have HOK := hid (And.intro hok (And.intro (hlow.mono hs1) (hhigh.mono hs1)))
      have kI := Blk.new w2 #[.int .i64 ln, .int .i64 ld, .int .i64 hn, .int .i64 hd, .slice xa xn xc, .slice ya yn yc, .slice none 0 0] 126
      have i6 := kI.look 6 rfl
      clear hok hlow hhigh
      go_wp2_with fail
      have hd3 : Below w2.heap.size w2 (w2.alloc (.cells #[.int .i64 ln, .int .i64 ld, .int .i64 hn, .int .i64 hd, .slice xa xn xc, .slice ya yn yc, .slice none 0 0] 126)).drew := ((Below.refl _ _).alloc (Nat.le_refl _) _).drew
      have z2 := fun x : Sub (w2.alloc (.cells #[.int .i64 ln, .int .i64 ld, .int .i64 hn, .int .i64 hd, .slice xa xn xc, .slice ya yn yc, .slice none 0 0] 126)).drew => (kI.drew.below x.b).look 4 rfl
      have z3 := fun x : Sub (w2.alloc (.cells #[.int .i64 ln, .int .i64 ld, .int .i64 hn, .int .i64 hd, .slice xa xn xc, .slice ya yn yc, .slice none 0 0] 126)).drew => (kI.drew.below x.b).look 5 rfl
      refine wp_seq [(0, false), (1, false), (2, false), (3, false), (4, false), (5, false), (6, false)] [(_, false), (_, false), (_, false), (_, false), (_, false), (_, false), (_, false)] (by kernel_rfl) rfl rfl (by kernel_rfl) ?_
      iterate 7 (refine seqS_read (fun K hK => ?_); go_simp; refine hK _ ?_; clear hK K)
      refine seqS_nil ?_
      go_wp2
      refine bodyPost_ret (v := .tuple #[.slice xa xn xc, .slice ya yn yc, .int .i64 0]) ?_ rfl ⟨⟨_, _, _, rfl, .inr (.inr ⟨HP.out, rfl, _, _, _, _, HOK.out.1, HOK.out.2.1.of fun es he => he.below hd3, HOK.out.2.2.of fun es he => he.below hd3⟩)⟩, b2.trans (hd3.mono b2.size)⟩
      simp [results, Try.results49, go_sem]
  · rw [decide_eq_false hp]
    have HP := hid hp
    go_wp2
    refine bodyPost_ret (v := .tuple #[.slice none 0 0, .slice none 0 0, .int .i64 2]) ?_ rfl ⟨⟨_, _, _, rfl, .inl ⟨HP.out, rfl, rfl, rfl⟩⟩, b1⟩
    simp [results, Try.results49, go_sem]

/-- What Conflict hands back. -/
def GCo (p : Pat) (lo : Nat) (W : World) (conf : Value) (E : Int) : Prop :=
  (¬ PValid p ∧ E = 2 ∧ conf = .slice none 0 0) ∨ (PValid p ∧ SzNo p ∧ E = 0 ∧ ConfOk p lo W conf) ∨ (PValid p ∧ E = 7 ∧ conf = .slice none 0 0 ∧ ∃ ln ld hn hd, SzOk p ln ld hn hd)
set_option maxHeartbeats 4000000 in
set_option maxRecDepth 100000 in
theorem gConflict_any (p : Pat) (v : Value) (w : World) (h : PatF 0 w v p) :
    Calls Try.prog 50 #[v] w fun e w' => (∃ conf E, e = .returned (.tuple #[conf, .int .i64 E]) ∧ GCo p w.heap.size w' conf E) ∧ Below w.heap.size w w' := by
  obtain ⟨sv, rfl, -⟩ := id h
  have H := hid h
  go_enter Try.func50, Try.ntmps50
  go_wp2_with fail
  have k0 := Blk.new w #[.int .i64 p.n, sv] 33
  have b0 := (Below.refl w.heap.size w).alloc (Nat.le_refl _) (.cells #[.int .i64 p.n, sv] 33)
  obtain ⟨w0, hw0⟩ : ∃ w0, w.alloc (.cells #[.int .i64 p.n, sv] 33) = w0 := ⟨_, rfl⟩
  rw [hw0] at k0 b0 ⊢
  clear hw0 h
  refine (gValid_any p _ _ (H.out.below b0)).mono ?_
  rintro e w1 ⟨rfl, hb1⟩
  have b1 := b0.trans (hb1.mono b0.size)
  have k01 := k0.below hb1
  clear k0 b0 hb1
  by_cases hp : PValid p
  · rw [decide_eq_true hp]
    have HP := hid hp
    clear hp
    have c0 := k01.look 0 rfl
    have c1 := k01.look 1 rfl
    go_wp2_with fail
    refine (sizes_any p _ _ (H.out.below b1) HP.out).mono ?_
    rintro e w2 ⟨⟨ln, ld, hn, hd, low, high, conf, rfl, ⟨xa, xn, xc, rfl⟩, ⟨ya, yn, yc, rfl⟩, hret⟩, hb2⟩
    have b2 := b1.trans (hb2.mono b1.size)
    have hs1 := b1.size
    clear k01 b1 hb2 c0 c1
    rcases hret with ⟨hno, hcf⟩ | ⟨rfl, hok, hlow, hhigh⟩
    · obtain ⟨g, m, rfl⟩ := hcf.shape
      have HNO := hid (And.intro hno ((hcf.mono hs1).below ((Below.refl _ _).alloc (Nat.le_refl _) (.cells #[.int .i64 ln, .int .i64 ld, .int .i64 hn, .int .i64 hd, .slice xa xn xc, .slice ya yn yc, .slice (some ⟨g, 0, none⟩) m m] 126))))
      have i6 := (Blk.new w2 #[.int .i64 ln, .int .i64 ld, .int .i64 hn, .int .i64 hd, .slice xa xn xc, .slice ya yn yc, .slice (some ⟨g, 0, none⟩) m m] 126).look 6 rfl
      clear hcf hno
      go_wp2
      refine bodyPost_ret (v := .tuple #[.slice (some ⟨g, 0, none⟩) m m, .int .i64 0]) ?_ rfl ⟨⟨_, _, rfl, .inr (.inl ⟨HP.out, HNO.out.1, rfl, HNO.out.2⟩)⟩, b2.alloc b2.size _⟩
      simp [results, Try.results50, go_sem]
    · have HOK := hid hok
      have i6 := (Blk.new w2 #[.int .i64 ln, .int .i64 ld, .int .i64 hn, .int .i64 hd, .slice xa xn xc, .slice ya yn yc, .slice none 0 0] 126).look 6 rfl
      clear hok hlow hhigh
      go_wp2
      refine bodyPost_ret (v := .tuple #[.slice none 0 0, .int .i64 7]) ?_ rfl ⟨⟨_, _, rfl, .inr (.inr ⟨HP.out, rfl, rfl, _, _, _, _, HOK.out⟩)⟩, b2.alloc b2.size _⟩
      simp [results, Try.results50, go_sem]
  · rw [decide_eq_false hp]
    have HP := hid hp
    go_wp2
    refine bodyPost_ret (v := .tuple #[.slice none 0 0, .int .i64 2]) ?_ rfl ⟨⟨_, _, rfl, .inl ⟨HP.out, rfl, rfl⟩⟩, b1⟩
    simp [results, Try.results50, go_sem]

end Go.Proofs.Ytmknengmjepdaaa
