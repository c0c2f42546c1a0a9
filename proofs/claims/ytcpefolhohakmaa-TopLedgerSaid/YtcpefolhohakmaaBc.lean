/- Plain: what the two areas of a disk hold, and what a crash leaves of them. -/
import Derived.Test.YtcpefolhohakmaaBb
namespace Go.Proofs.Ytcpefolhohakmaa

abbrev Bts := List UInt8
def hdr (g k : Nat) : Bts := putN g 8 ++ putN k 4
theorem hdr_length (g k : Nat) : (hdr g k).length = 12 := by unfold hdr; rw [List.length_append, putN_length, putN_length]
theorem hdr_gen {g : Nat} (k : Nat) (h : g < 256 ^ 8) : getN ((hdr g k).take 8) = g := by
  unfold hdr
  rw [List.take_append_of_le_length (by rw [putN_length]; omega), List.take_of_length_le (by rw [putN_length]; omega), getN_put h]
theorem hdr_num (g : Nat) {k : Nat} (h : k < 256 ^ 4) : getN ((hdr g k).drop 8) = k := by
  unfold hdr
  rw [List.drop_append_of_le_length (by rw [putN_length]; omega), List.drop_of_length_le (by rw [putN_length]; omega), List.nil_append, getN_put h]
theorem hdr_top {g : Nat} (k : Nat) (h : g ≤ 4611686018427387904) : ((hdr g k).getD 0 0).toNat ≤ 64 := by
  have e : (hdr g k).getD 0 0 = UInt8.ofNat (g / 256 ^ 7) := rfl
  rw [e, u8_toNat (by omega)]; omega
/-- What Log holds, as frames. -/
def lay (g k : Nat) (s : Bts) (rs : List Bts) : List Bts := hdr g k :: s :: rs
/-- An area that is whole. -/
def Are (b : Bts) (g : Nat) (s : Bts) (rs : List Bts) (t : Bts) : Prop := ∃ k, k ≤ rs.length ∧ Frd b (lay g k s rs) t
/-- An area that is not. -/
def NoA (b : Bts) : Prop := ∃ ps t, ps.length < 2 ∧ Frd b ps t
theorem noA_nil : NoA [] := ⟨[], [], by decide, rfl, by simp, torn_nil⟩
theorem pay_hdr (g k : Nat) : PayOk (hdr g k) := by unfold PayOk; rw [hdr_length]; omega
theorem lay_ok {g k : Nat} {s : Bts} {rs : List Bts} (hs : PayOk s) (hr : ∀ r ∈ rs, PayOk r) : ∀ p ∈ lay g k s rs, PayOk p := by
  intro p hp
  rcases List.mem_cons.1 hp with rfl | hp
  · exact pay_hdr g k
  rcases List.mem_cons.1 hp with rfl | hp
  · exact hs
  · exact hr p hp
theorem are_full {g k : Nat} {s : Bts} {rs : List Bts} (hk : k ≤ rs.length) (hs : PayOk s) (hr : ∀ r ∈ rs, PayOk r) : Are (frms (lay g k s rs)) g s rs [] :=
  ⟨k, hk, by simp, lay_ok hs hr, torn_nil⟩
/-- A record that is cut. -/
theorem are_cut {g k : Nat} {s : Bts} {rs : List Bts} {p : Bts} (hk : k ≤ rs.length) (hs : PayOk s) (hr : ∀ r ∈ rs, PayOk r) (hp : PayOk p) {m : Nat} (hm : (frms (lay g k s rs)).length ≤ m) :
    (∃ t, Are ((frms (lay g k s rs) ++ frm p).take m) g s rs t) ∨ Are ((frms (lay g k s rs) ++ frm p).take m) g s (rs ++ [p]) [] := by
  rw [List.take_append, List.take_of_length_le hm]
  by_cases h : m - (frms (lay g k s rs)).length < (frm p).length
  · left
    exact ⟨(frm p).take (m - (frms (lay g k s rs)).length), k, hk, rfl, lay_ok hs hr, .inr ⟨p, _, hp, rfl, h⟩⟩
  · right
    refine ⟨k, by simp; omega, ?_, lay_ok hs (fun r h => ?_), torn_nil⟩
    · rw [List.take_of_length_le (by omega), List.append_nil]
      unfold lay
      rw [← frms_snoc]; rfl
    · rcases List.mem_append.1 h with h | h
      · exact hr r h
      · rw [List.mem_singleton.1 h]; exact hp
/-- A new area that is cut. -/
theorem new_cut {g : Nat} {s : Bts} (hs : PayOk s) (m : Nat) : NoA ((frms (lay g 0 s [])).take m) ∨ Are ((frms (lay g 0 s [])).take m) g s [] [] := by
  obtain ⟨k, t, hk, hf, h1, h2⟩ := frd_take (lay g 0 s []) (lay_ok hs (by simp)) m
  by_cases h : (frms (lay g 0 s [])).length ≤ m
  · right
    obtain ⟨rfl, rfl⟩ := h1 h
    rw [List.take_of_length_le (Nat.le_refl _)] at hf
    exact ⟨0, by simp, hf⟩
  · left
    have := h2 (by omega)
    have hl : (lay g 0 s []).length = 2 := rfl
    exact ⟨(lay g 0 s []).take k, t, by rw [List.length_take]; omega, hf⟩

/-- What a disk that has been crashed holds: text txt, in an area of generation at most G. -/
def JI (aa ao : Bts) (g : Nat) (s : Bts) (rs : List Bts) (t : Bts) : Prop := Are aa g s rs t ∧ (NoA ao ∨ ∃ g' s' rs' t', Are ao g' s' rs' t' ∧ 1 ≤ g' ∧ g' < g)
def txt (s : Bts) (rs : List Bts) : Bts := s ++ rs.flatten
inductive Rest (a0 a1 : Bts) (x : Bts) (G : Nat) : Prop
  | none (h0 : NoA a0) (h1 : NoA a1) (h : x = [])
  | zero (g : Nat) (s : Bts) (rs : List Bts) (t : Bts) (h : JI a0 a1 g s rs t) (hx : x = txt s rs) (h1 : 1 ≤ g) (h2 : g ≤ G)
  | one (g : Nat) (s : Bts) (rs : List Bts) (t : Bts) (h : JI a1 a0 g s rs t) (hx : x = txt s rs) (h1 : 1 ≤ g) (h2 : g ≤ G)
def Ready (a0 : Bts) (s0 : Nat) (a1 : Bts) (s1 : Nat) (x y : Bts) (G : Nat) : Prop :=
  ∀ m0 m1, s0 ≤ m0 → s1 ≤ m1 → Rest (a0.take m0) (a1.take m1) x G ∨ Rest (a0.take m0) (a1.take m1) y G
/-- What the other area may be while the Log of generation g lies in one. -/
def Oth (b : Bts) (safe g : Nat) : Prop := ∀ m, safe ≤ m → NoA (b.take m) ∨ ∃ g' s' rs' t', Are (b.take m) g' s' rs' t' ∧ 1 ≤ g' ∧ g' < g
theorem oth_nil (g safe : Nat) : Oth [] safe g := fun m _ => by rw [List.take_nil]; exact .inl noA_nil
theorem oth_full {b : Bts} {g g' : Nat} {s : Bts} {rs : List Bts} {t : Bts} (h : Are b g' s rs t) (h1 : 1 ≤ g') (hg : g' < g) : Oth b b.length g := fun m hm => by
  rw [List.take_of_length_le hm]; exact .inr ⟨g', s, rs, t, h, h1, hg⟩
theorem oth_no {b : Bts} (h : NoA b) (g : Nat) : Oth b b.length g := fun m hm => by rw [List.take_of_length_le hm]; exact .inl h
theorem Oth.mono {b : Bts} {safe g g' : Nat} (h : Oth b safe g) (hg : g ≤ g') : Oth b safe g' := fun m hm => by
  rcases h m hm with h | ⟨a, s', rs', t', h1, h2, h3⟩
  · exact .inl h
  · exact .inr ⟨a, s', rs', t', h1, h2, by omega⟩
/-- The state of a disk and a Log within a round: the Log's area and the other one. -/
structure Run (aa : Bts) (sa : Nat) (ao : Bts) (so : Nat) (g k : Nat) (s : Bts) (rs : List Bts) : Prop where
  area : aa = frms (lay g k s rs)
  safe : sa = aa.length
  k : k ≤ rs.length
  s : PayOk s
  rs : ∀ r ∈ rs, PayOk r
  oth : Oth ao so g
  g : 1 ≤ g
theorem Run.ji {aa ao : Bts} {sa so g k : Nat} {s : Bts} {rs : List Bts} (h : Run aa sa ao so g k s rs) {m n : Nat} (hm : sa ≤ m) (hn : so ≤ n) : JI (aa.take m) (ao.take n) g s rs [] := by
  refine ⟨?_, h.oth n hn⟩
  rw [List.take_of_length_le (by rw [← h.safe]; exact hm), h.area]
  exact are_full h.k h.s h.rs
/-- A crash between two calls. -/
theorem Run.ready0 {aa ao : Bts} {sa so g k G : Nat} {s : Bts} {rs : List Bts} (h : Run aa sa ao so g k s rs) (hG : g ≤ G) (y : Bts) : Ready aa sa ao so (txt s rs) y G :=
  fun _ _ h0 h1 => .inl (.zero g s rs [] (h.ji h0 h1) rfl h.g hG)
theorem Run.ready1 {aa ao : Bts} {sa so g k G : Nat} {s : Bts} {rs : List Bts} (h : Run aa sa ao so g k s rs) (hG : g ≤ G) (y : Bts) : Ready ao so aa sa (txt s rs) y G :=
  fun _ _ h0 h1 => .inl (.one g s rs [] (h.ji h1 h0) rfl h.g hG)
theorem txt_snoc (s : Bts) (rs : List Bts) (p : Bts) : txt s (rs ++ [p]) = txt s rs ++ p := by simp [txt]
/-- A crash behind a record that is not safe. -/
theorem Run.add_ji {aa ao : Bts} {sa so g k : Nat} {s : Bts} {rs : List Bts} (h : Run aa sa ao so g k s rs) {p : Bts} (hp : PayOk p) {m n : Nat} (hm : sa ≤ m) (hn : so ≤ n) :
    (∃ t, JI ((aa ++ frm p).take m) (ao.take n) g s rs t) ∨ JI ((aa ++ frm p).take m) (ao.take n) g s (rs ++ [p]) [] := by
  have h0 := are_cut (m := m) h.k h.s h.rs hp (by rw [← h.area, ← h.safe]; exact hm)
  rw [← h.area] at h0
  rcases h0 with ⟨t, h0⟩ | h0
  · exact .inl ⟨t, h0, h.oth n hn⟩
  · exact .inr ⟨h0, h.oth n hn⟩
theorem Run.add_ready0 {aa ao : Bts} {sa so g k G : Nat} {s : Bts} {rs : List Bts} (h : Run aa sa ao so g k s rs) (hG : g ≤ G) {p : Bts} (hp : PayOk p) : Ready (aa ++ frm p) sa ao so (txt s rs) (txt s rs ++ p) G := by
  intro m n hm hn
  rcases h.add_ji hp hm hn with ⟨t, h0⟩ | h0
  · exact .inl (.zero g s rs t h0 rfl h.g hG)
  · exact .inr (.zero g s _ _ h0 (txt_snoc s rs p).symm h.g hG)
theorem Run.add_ready1 {aa ao : Bts} {sa so g k G : Nat} {s : Bts} {rs : List Bts} (h : Run aa sa ao so g k s rs) (hG : g ≤ G) {p : Bts} (hp : PayOk p) : Ready ao so (aa ++ frm p) sa (txt s rs) (txt s rs ++ p) G := by
  intro m n hm hn
  rcases h.add_ji hp hn hm with ⟨t, h0⟩ | h0
  · exact .inl (.one g s rs t h0 rfl h.g hG)
  · exact .inr (.one g s _ _ h0 (txt_snoc s rs p).symm h.g hG)
theorem Run.added {aa ao : Bts} {sa so g k : Nat} {s : Bts} {rs : List Bts} (h : Run aa sa ao so g k s rs) {p : Bts} (hp : PayOk p) : Run (aa ++ frm p) (aa ++ frm p).length ao so g k s (rs ++ [p]) where
  area := by rw [h.area]; unfold lay; rw [← frms_snoc]; rfl
  safe := rfl
  k := by have := h.k; simp; omega
  s := h.s
  rs := fun r hr => by
    rcases List.mem_append.1 hr with hr | hr
    · exact h.rs r hr
    · rw [List.mem_singleton.1 hr]; exact hp
  oth := h.oth
  g := h.g
/-- The other area is cleared. -/
theorem Run.cleared {aa ao : Bts} {sa so g k : Nat} {s : Bts} {rs : List Bts} (h : Run aa sa ao so g k s rs) : Run aa sa [] 0 g k s rs :=
  ⟨h.area, h.safe, h.k, h.s, h.rs, oth_nil _ _, h.g⟩
/-- A crash while a new area is written that is not safe. -/
theorem Run.new_ji {aa ao : Bts} {sa so g k : Nat} {s : Bts} {rs : List Bts} (h : Run aa sa ao so g k s rs) {p : Bts} (hp : PayOk p) {m n : Nat} (hm : sa ≤ m) :
    JI (aa.take m) ((frms (lay (g + 1) 0 p [])).take n) g s rs [] ∨ JI ((frms (lay (g + 1) 0 p [])).take n) (aa.take m) (g + 1) p [] [] := by
  have ha : Are (aa.take m) g s rs [] := by rw [List.take_of_length_le (by rw [← h.safe]; exact hm), h.area]; exact are_full h.k h.s h.rs
  rcases new_cut (g := g + 1) hp n with h0 | h0
  · exact .inl ⟨ha, .inl h0⟩
  · exact .inr ⟨h0, .inr ⟨g, s, rs, [], ha, h.g, by omega⟩⟩
theorem Run.new_ready0 {aa ao : Bts} {sa so g k G : Nat} {s : Bts} {rs : List Bts} (h : Run aa sa ao so g k s rs) (hG : g + 1 ≤ G) (hp : PayOk (txt s rs)) (so' : Nat) (y : Bts) : Ready aa sa (frms (lay (g + 1) 0 (txt s rs) [])) so' (txt s rs) y G := by
  intro m n hm hn
  rcases h.new_ji hp hm (n := n) with h0 | h0
  · exact .inl (.zero g s rs [] h0 rfl h.g (by omega))
  · exact .inl (.one (g + 1) _ [] [] h0 (by simp [txt]) (by omega) hG)
theorem Run.new_ready1 {aa ao : Bts} {sa so g k G : Nat} {s : Bts} {rs : List Bts} (h : Run aa sa ao so g k s rs) (hG : g + 1 ≤ G) (hp : PayOk (txt s rs)) (so' : Nat) (y : Bts) : Ready (frms (lay (g + 1) 0 (txt s rs) [])) so' aa sa (txt s rs) y G := by
  intro m n hm hn
  rcases h.new_ji hp hn (n := m) with h0 | h0
  · exact .inl (.one g s rs [] h0 rfl h.g (by omega))
  · exact .inl (.zero (g + 1) _ [] [] h0 (by simp [txt]) (by omega) hG)
/-- The Log lies in a new area. -/
theorem Run.renewed {aa ao : Bts} {sa so g k : Nat} {s : Bts} {rs : List Bts} (h : Run aa sa ao so g k s rs) {p : Bts} (hp : PayOk p) :
    Run (frms (lay (g + 1) 0 p [])) (frms (lay (g + 1) 0 p [])).length aa sa (g + 1) 0 p [] where
  area := rfl
  safe := rfl
  k := Nat.le_refl _
  s := hp
  rs := by simp
  oth := by
    rw [h.safe]
    exact oth_full (by rw [h.area]; exact are_full h.k h.s h.rs) h.g (by omega)
  g := by omega
/-- A crashed disk, read whole. -/
theorem Ready.rest {a0 a1 x y : Bts} {s0 s1 G : Nat} (h : Ready a0 s0 a1 s1 x y G) {m0 m1 : Nat} (h0 : s0 ≤ m0) (h1 : s1 ≤ m1) : Rest (a0.take m0) (a1.take m1) x G ∨ Rest (a0.take m0) (a1.take m1) y G := h m0 m1 h0 h1
theorem Rest.mono {a0 a1 x : Bts} {G G' : Nat} (h : Rest a0 a1 x G) (hg : G ≤ G') : Rest a0 a1 x G' := by
  cases h with
  | none h0 h1 h => exact .none h0 h1 h
  | zero g s rs t h hx h1 h2 => exact .zero g s rs t h hx h1 (by omega)
  | one g s rs t h hx h1 h2 => exact .one g s rs t h hx h1 (by omega)

/-- What Open makes of an area that is not torn, or of a torn one (it writes the other one anew). -/
theorem run_of_whole {aa ao : Bts} {g : Nat} {s : Bts} {rs : List Bts} (h : JI aa ao g s rs []) (hg : 1 ≤ g) : ∃ k, Run aa aa.length ao ao.length g k s rs := by
  obtain ⟨⟨k, hk, h1, h2, h3⟩, h4⟩ := h
  refine ⟨k, ?_, rfl, hk, h2 s (by simp [lay]), fun r hr => h2 r (by simp [lay, hr]), ?_, hg⟩
  · rw [h1, List.append_nil]
  · intro m hm
    rw [List.take_of_length_le hm]; exact h4
theorem run_of_torn {aa ao : Bts} {g : Nat} {s : Bts} {rs : List Bts} {t : Bts} (h : JI aa ao g s rs t) (hg : 1 ≤ g) :
    Run (frms (lay (g + 1) rs.length s rs)) (frms (lay (g + 1) rs.length s rs)).length aa aa.length (g + 1) rs.length s rs ∧ (frms (lay (g + 1) rs.length s rs)).length ≤ aa.length := by
  obtain ⟨⟨k, hk, h1, h2, h3⟩, h4⟩ := h
  refine ⟨⟨rfl, rfl, Nat.le_refl _, h2 s (by simp [lay]), fun r hr => h2 r (by simp [lay, hr]), ?_, by omega⟩, ?_⟩
  · exact oth_full ⟨k, hk, h1, h2, h3⟩ hg (by omega)
  · rw [h1]
    have e : ∀ k, (frms (lay (g + 1) k s rs)).length = 20 + (frms (s :: rs)).length := fun k => by unfold lay; rw [frms_cons, List.length_append, frm_length, hdr_length]
    have e2 : (frms (lay g k s rs)).length = 20 + (frms (s :: rs)).length := by unfold lay; rw [frms_cons, List.length_append, frm_length, hdr_length]
    rw [List.length_append, e, e2]; omega
theorem run_of_none {a0 a1 : Bts} (_h0 : NoA a0) (h1 : NoA a1) : Run (frms (lay 1 0 [] [])) (frms (lay 1 0 [] [])).length a1 a1.length 1 0 [] [] :=
  ⟨rfl, rfl, Nat.le_refl _, by unfold PayOk; decide, by simp, oth_no h1 1, Nat.le_refl _⟩
theorem first_len : (frms (lay 1 0 [] [])).length = 28 := by
  unfold lay; rw [frms_cons, List.length_append, frm_length, hdr_length, frms_cons, List.length_append, frm_length]; rfl

end Go.Proofs.Ytcpefolhohakmaa
