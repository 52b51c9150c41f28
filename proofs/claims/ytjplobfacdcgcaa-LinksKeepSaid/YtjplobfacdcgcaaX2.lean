/-
  Copied, walked: a reply in memory of its own. Conditions: those that each theorem states.
-/
import Derived.Test.YtjplobfacdcgcaaX1
import Derived.Outline
namespace Go.Proofs.Ytjplobfacdcgcaa
open Go.RowKit Go.Proofs.YtjplobfacdcgcaaW.PrintLast

def rpCells (r : Rp) (v : Value) : List Value := [.int .i64 r.kind, .int .i64 r.int, .string r.text, v]

/-- n things of sz cells, one behind the other. -/
def flat (sz n : Nat) (g : Nat → List Value) : List Value := (List.range (n * sz)).map fun k => (g (k / sz)).getD (k % sz) undef
theorem flat_length (sz n : Nat) (g : Nat → List Value) : (flat sz n g).length = n * sz := by simp [flat]
theorem flat_get {sz n : Nat} {g : Nat → List Value} (hs : ∀ i, i < n → (g i).length = sz) {i j : Nat} {x : Value} (hi : i < n) (hx : (g i)[j]? = some x) : (flat sz n g)[i * sz + j]? = some x := by
  have hj : j < sz := by rw [← hs i hi]; exact (List.getElem?_eq_some_iff.1 hx).1
  have hk : i * sz + j < n * sz := Nat.lt_of_lt_of_le (by rw [Nat.succ_mul]; omega : i * sz + j < (i + 1) * sz) (Nat.mul_le_mul_right _ hi)
  unfold flat
  rw [List.getElem?_map, List.getElem?_range hk]
  have e1 : (i * sz + j) / sz = i := by rw [Nat.mul_comm, Nat.mul_add_div (by omega), Nat.div_eq_of_lt hj, Nat.add_zero]
  have e2 : (i * sz + j) % sz = j := by rw [Nat.mul_comm, Nat.mul_add_mod, Nat.mod_eq_of_lt hj]
  simp only [Option.map_some, e1, e2, List.getD_eq_getElem?_getD, hx, Option.getD_some]
theorem flat_of {sz n : Nat} {g : Nat → List Value} (hs : ∀ i, i < n → (g i).length = sz) {k : Nat} {x : Value} (h : (flat sz n g)[k]? = some x) : ∃ i j, i < n ∧ k = i * sz + j ∧ (g i)[j]? = some x := by
  have hk : k < n * sz := by have := (List.getElem?_eq_some_iff.1 h).1; rwa [flat_length] at this
  have hsz : 0 < sz := by rcases Nat.eq_zero_or_pos sz with e | e; subst e; omega; exact e
  have hi : k / sz < n := Nat.div_lt_of_lt_mul (by rwa [Nat.mul_comm])
  unfold flat at h
  rw [List.getElem?_map, List.getElem?_range hk] at h
  have hj : k % sz < (g (k / sz)).length := by rw [hs _ hi]; exact Nat.mod_lt _ hsz
  refine ⟨k / sz, k % sz, hi, by rw [Nat.mul_comm]; exact (Nat.div_add_mod k sz).symm, ?_⟩
  rw [List.getElem?_eq_getElem hj]
  rw [Option.map_some, List.getD_eq_getElem?_getD, List.getElem?_eq_getElem hj] at h
  simpa using h

/-- Replies in a row; of each one's list: Q. -/
def RowAt (w : World) (n : Nat) (l : Fin n → Rp) (Q : Fin n → Value → Prop) (v : Value) : Prop := ∃ A c, v = .slice A n c ∧ ∀ i : Fin n, ∃ b off u, A = some ⟨b, off, none⟩ ∧
      w.cell? ⟨b, off + i.1 * 4, none⟩ = some (.int .i64 (l i).kind) ∧ w.cell? ⟨b, off + i.1 * 4 + 1, none⟩ = some (.int .i64 (l i).int) ∧
      w.cell? ⟨b, off + i.1 * 4 + 2, none⟩ = some (.string (l i).text) ∧ w.cell? ⟨b, off + i.1 * 4 + 3, none⟩ = some u ∧ Q i u

/-- slices.Clone of replies. -/
theorem clone34_any (v : Value) (n : Nat) (l : Fin n → Rp) (Q : Fin n → Value → Prop) (hQ : ∀ i u, Q i u → u.oneCell' = true) (w : World) (h : RowAt w n l Q v) (hl : n ≤ 1000000) :
    Calls Try.prog 34 #[v] w fun e w' => ∃ v', e = .returned v' ∧ Below w.heap.size w w' ∧ ((v' = .slice none 0 0 ∧ n = 0) ∨ ∃ (g cap : Nat) (cur : Array Value), v' = .slice (some ⟨g, 0, none⟩) n cap ∧ w.heap.size ≤ g ∧ n ≤ cap ∧ cap ≤ maxLen ∧ cur.size = cap * 4 ∧ w'.heap[g]? = some (.cells cur 31 (0, 0)) ∧
      ∀ i : Fin n, ∃ u, Q i u ∧ ∀ (j : Nat) (x : Value), (rpCells (l i) u)[j]? = some x → cur[i.1 * 4 + j]? = some x) := by
  obtain ⟨A, c, rfl, h⟩ := h
  cases A with
  | none =>
    refine (clone34_nil n c w).mono ?_
    rintro e w' ⟨rfl, rfl⟩
    refine ⟨_, rfl, Below.refl _ _, .inl ⟨rfl, ?_⟩⟩
    rcases Nat.eq_zero_or_pos n with h0 | h0
    · exact h0
    · obtain ⟨b, off, u, hA, _⟩ := h ⟨0, h0⟩; cases hA
  | some a =>
    have each : ∀ i : Fin n, ∃ u, Q i u ∧ ∀ (j : Nat) (x : Value), (rpCells (l i) u)[j]? = some x → w.cell? (a.add (i.1 * 4 + j)) = some x := by
      intro i
      obtain ⟨b, off, u, hA, h1, h2, h3, h4, h5⟩ := h i
      cases hA
      refine ⟨u, h5, fun j x hj => ?_⟩
      rw [Addr.add_lit]
      match j, hj with
      | 0, hj => obtain rfl : _ = x := by simpa [rpCells] using hj
                 exact h1
      | 1, hj => obtain rfl : _ = x := by simpa [rpCells] using hj
                 exact h2
      | 2, hj => obtain rfl : _ = x := by simpa [rpCells] using hj
                 exact h3
      | 3, hj => obtain rfl : _ = x := by simpa [rpCells] using hj
                 exact h4
      | j + 4, hj => simp [rpCells] at hj
    obtain ⟨f, hf⟩ := Classical.axiomOfChoice each
    obtain ⟨gg, hgg⟩ : ∃ gg : Nat → List Value, gg = fun i => if h : i < n then rpCells (l ⟨i, h⟩) (f ⟨i, h⟩) else [] := ⟨_, rfl⟩
    have hgl : ∀ i, i < n → (gg i).length = 4 := fun i hi => by rw [hgg]; simp [hi, rpCells]
    refine (clone34_own a n c (flat 4 n gg) w (flat_length _ _ _) hl (fun j u hj => ?_) (fun u hu => ?_)).mono ?_
    · obtain ⟨i, j', hi, rfl, hx⟩ := flat_of hgl hj
      rw [hgg] at hx
      simp only [hi, dif_pos] at hx
      exact (hf ⟨i, hi⟩).2 j' u hx
    · obtain ⟨k', hk'⟩ := List.getElem?_of_mem hu
      obtain ⟨i, j', hi, rfl, hx⟩ := flat_of hgl hk'
      rw [hgg] at hx
      simp only [hi, dif_pos] at hx
      have := List.mem_of_getElem? hx
      simp only [rpCells, List.mem_cons, List.not_mem_nil, or_false] at this
      rcases this with rfl | rfl | rfl | rfl <;> first | rfl | exact hQ _ _ (hf ⟨i, hi⟩).1
    · rintro e w' ⟨v', rfl, ho, hb⟩
      refine ⟨v', rfl, hb, ?_⟩
      rcases own_cases ho with ⟨rfl, h0⟩ | ⟨g, cap, cur, rfl, hg, h1, h2, h3, h4, h5, _⟩
      · exact .inl ⟨rfl, h0⟩
      · refine .inr ⟨g, cap, cur, rfl, hg, h1, h2, h3, h4, fun i => ⟨f i, (hf i).1, fun j x hj => h5 _ _ (flat_get hgl i.2 ?_)⟩⟩
        rw [hgg]
        simp only [i.2, dif_pos]
        exact hj

/-- The loop of copied. -/
def CMid (n : Nat) (l : Fin n → Rp) (w : World) (g cap lo j : Nat) (wr : World) : Prop :=
  ∃ cur, wr.heap[g]? = some (.cells cur 31 (0, 0)) ∧ cur.size = cap * 4 ∧ Below w.heap.size w wr ∧ lo ≤ wr.heap.size ∧
    (∀ i : Fin n, i.1 < j → ∃ u, RpAt (Fro lo) wr (l i) u ∧ ∀ (k : Nat) (x : Value), (rpCells (l i) u)[k]? = some x → cur[i.1 * 4 + k]? = some x) ∧
    ∀ i : Fin n, j ≤ i.1 → ∃ u, RpAt (Fro 0) w (l i) u ∧ ∀ (k : Nat) (x : Value), (rpCells (l i) u)[k]? = some x → cur[i.1 * 4 + k]? = some x

def LpC (n : Nat) (l : Fin n → Rp) (w : World) (kind int : Int) (text : ByteArray) (g cap lo j : Nat) (wr : World) : Prop :=
  CMid n l w g cap lo j wr ∧ wr.heap[w.heap.size]? = some (.cells #[.int .i64 kind, .int .i64 int, .string text, .slice (some ⟨g, 0, none⟩) n cap] 31 (0, 0)) ∧
    wr.heap[w.heap.size + 1]? = some (.cells #[.int .i64 0, .int .i64 0, .string ⟨#[]⟩, .slice none 0 0] 31 (0, 0))

theorem set4_in {cur : Array Value} {p : Nat} {a b c d : Value} (h : p + 4 ≤ cur.size) {k : Nat} {x : Value} (hx : [a, b, c, d][k]? = some x) : ((((cur.setIfInBounds p a).setIfInBounds (p + 1) b).setIfInBounds (p + 2) c).setIfInBounds (p + 3) d)[p + k]? = some x := by
  match k, hx with
  | 0, hx => obtain rfl : a = x := by simpa using hx
             rw [get_set_ne _ (by omega), get_set_ne _ (by omega), get_set_ne _ (by omega)]; exact get_set_eq _ (by omega)
  | 1, hx => obtain rfl : b = x := by simpa using hx
             rw [get_set_ne _ (by omega), get_set_ne _ (by omega)]; exact get_set_eq _ (by simp; omega)
  | 2, hx => obtain rfl : c = x := by simpa using hx
             rw [get_set_ne _ (by omega)]; exact get_set_eq _ (by simp; omega)
  | 3, hx => obtain rfl : d = x := by simpa using hx
             exact get_set_eq _ (by simp; omega)
  | k + 4, hx => simp at hx
theorem set4_out {cur : Array Value} {p q : Nat} {a b c d : Value} (h : q < p ∨ p + 4 ≤ q) : ((((cur.setIfInBounds p a).setIfInBounds (p + 1) b).setIfInBounds (p + 2) c).setIfInBounds (p + 3) d)[q]? = cur[q]? := by
  rw [get_set_ne _ (by omega), get_set_ne _ (by omega), get_set_ne _ (by omega), get_set_ne _ (by omega)]
theorem rpCells_lt {r : Rp} {u x : Value} {k : Nat} (h : (rpCells r u)[k]? = some x) : k < 4 := (List.getElem?_eq_some_iff.1 h).1

theorem lpc_next {n : Nat} {l : Fin n → Rp} {w wr w5 : World} {kind int : Int} {text : ByteArray} {g cap lo j B : Nat} {v5 : Value} (h : LpC n l w kind int text g cap lo j wr) (hj : j < n) (hc : n ≤ cap) (hg : g < lo) (hw : w.heap.size + 2 ≤ g)
    (hb : Below wr.heap.size wr w5) (hB : wr.heap.size ≤ B) (hv : RpAt (Fro B) w5 (l ⟨j, hj⟩) v5) :
    LpC n l w kind int text g cap lo (j + 1) ((((w5.setCell ⟨g, j * 4, none⟩ (.int .i64 (l ⟨j, hj⟩).kind)).setCell ⟨g, j * 4 + 1, none⟩ (.int .i64 (l ⟨j, hj⟩).int)).setCell ⟨g, j * 4 + 2, none⟩ (.string (l ⟨j, hj⟩).text)).setCell ⟨g, j * 4 + 3, none⟩ v5) := by
  obtain ⟨⟨cur, hgc, hsz, hbw, hlo, hdone, htodo⟩, hX, hY⟩ := h
  have hg5 := (hb.block g (lt_of_heap hgc)).trans hgc
  have hfar : ∀ b, b ≠ g → ((((w5.setCell ⟨g, j * 4, none⟩ (.int .i64 (l ⟨j, hj⟩).kind)).setCell ⟨g, j * 4 + 1, none⟩ (.int .i64 (l ⟨j, hj⟩).int)).setCell ⟨g, j * 4 + 2, none⟩ (.string (l ⟨j, hj⟩).text)).setCell ⟨g, j * 4 + 3, none⟩ v5).heap[b]? = w5.heap[b]? := fun b hb => by
    rw [setCell_far _ hb, setCell_far _ hb, setCell_far _ hb, setCell_far _ hb]
  have hsize : ((((w5.setCell ⟨g, j * 4, none⟩ (.int .i64 (l ⟨j, hj⟩).kind)).setCell ⟨g, j * 4 + 1, none⟩ (.int .i64 (l ⟨j, hj⟩).int)).setCell ⟨g, j * 4 + 2, none⟩ (.string (l ⟨j, hj⟩).text)).setCell ⟨g, j * 4 + 3, none⟩ v5).heap.size = w5.heap.size := by simp [World.setCell]
  have hnew := setCell_blk (setCell_blk (setCell_blk (setCell_blk hg5 (i := j * 4) (.int .i64 (l ⟨j, hj⟩).kind)) (i := j * 4 + 1) (.int .i64 (l ⟨j, hj⟩).int)) (i := j * 4 + 2) (.string (l ⟨j, hj⟩).text)) (i := j * 4 + 3) v5
  have hbelow : Below w.heap.size w ((((w5.setCell ⟨g, j * 4, none⟩ (.int .i64 (l ⟨j, hj⟩).kind)).setCell ⟨g, j * 4 + 1, none⟩ (.int .i64 (l ⟨j, hj⟩).int)).setCell ⟨g, j * 4 + 2, none⟩ (.string (l ⟨j, hj⟩).text)).setCell ⟨g, j * 4 + 3, none⟩ v5) :=
    ((((hbw.trans (hb.mono hbw.size)).setCell (by show _ ≤ g; omega) _).setCell (by show _ ≤ g; omega) _).setCell (by show _ ≤ g; omega) _).setCell (by show _ ≤ g; omega) _
  have hk5 : Kp (Fro lo) w5 ((((w5.setCell ⟨g, j * 4, none⟩ (.int .i64 (l ⟨j, hj⟩).kind)).setCell ⟨g, j * 4 + 1, none⟩ (.int .i64 (l ⟨j, hj⟩).int)).setCell ⟨g, j * 4 + 2, none⟩ (.string (l ⟨j, hj⟩).text)).setCell ⟨g, j * 4 + 3, none⟩ v5) :=
    ⟨Nat.le_of_eq hsize.symm, fun k o (hk : lo ≤ k) ho _ => (hfar k (by omega)).trans ho⟩
  generalize ((((w5.setCell ⟨g, j * 4, none⟩ (.int .i64 (l ⟨j, hj⟩).kind)).setCell ⟨g, j * 4 + 1, none⟩ (.int .i64 (l ⟨j, hj⟩).int)).setCell ⟨g, j * 4 + 2, none⟩ (.string (l ⟨j, hj⟩).text)).setCell ⟨g, j * 4 + 3, none⟩ v5) = wf at *
  have hk : Kp (Fro lo) wr wf := (Kp.of_below hb (Fro lo)).trans hk5
  refine ⟨⟨_, hnew, by simpa using hsz, hbelow, Nat.le_trans hlo hk.size, fun i hi => ?_, fun i hi => ?_⟩, ?_, ?_⟩
  · by_cases e : i.1 = j
    · have : i = ⟨j, hj⟩ := Fin.ext e
      subst this
      exact ⟨v5, (hv.mono (Fro.sub (by omega))).keep hk5, fun k x hx => set4_in (by omega) hx⟩
    · obtain ⟨u, hu, hx⟩ := hdone i (by omega)
      refine ⟨u, hu.keep hk, fun k x hxk => ?_⟩
      have := rpCells_lt hxk
      rw [set4_out (by omega)]; exact hx k x hxk
  · obtain ⟨u, hu, hx⟩ := htodo i (by omega)
    refine ⟨u, hu, fun k x hxk => ?_⟩
    have := rpCells_lt hxk
    rw [set4_out (by omega)]; exact hx k x hxk
  · rw [hfar _ (by omega), hb.block _ (lt_of_heap hX)]; exact hX
  · rw [hfar _ (by omega), hb.block _ (lt_of_heap hY)]; exact hY

/-- What copied tells. -/
def Copied (r : Rp) (w : World) (e : Ending) (w' : World) : Prop := ∃ v', e = .returned (.agg #[.int .i64 r.kind, .int .i64 r.int, .string r.text, v']) ∧ RpAt (Fro w.heap.size) w' r v' ∧ Below w.heap.size w w'

set_option maxHeartbeats 3200000 in
set_option maxRecDepth 100000 in
theorem copied_any : ∀ (r : Rp) (v : Value) (w : World), RpAt (Fro 0) w r v → r.Fine 1000000 → Calls Try.prog 24 #[.agg #[.int .i64 r.kind, .int .i64 r.int, .string r.text, v]] w (Copied r w) := by
  intro r
  induction r with
  | mk kind int text n l ih =>
  intro v w hr hfine
  obtain ⟨A, c, rfl, hr2⟩ := hr
  have HC := Lib.hid (fun (w' : World) (hb : Below w.heap.size w w') => clone34_any (.slice A n c) n l (fun i u => RpAt (Fro 0) w (l i) u) (fun _ _ h => h.one) w' (by
    refine ⟨A, c, rfl, fun i => ?_⟩
    obtain ⟨b, off, u, hA, hb', h1, h2, h3, h4, h5⟩ := hr2 i
    have k := Kp.of_below hb (Fro 0)
    exact ⟨b, off, u, hA, k.cell hb' h1, k.cell hb' h2, k.cell hb' h3, k.cell hb' h4, h5⟩) hfine.1)
  have HIH := Lib.hid ih
  have HF := Lib.hid hfine.2
  have hn := hfine.1
  clear hr2 ih hfine
  simp only [Rp.kind, Rp.int, Rp.text]
  go_enter Try.func24, Try.ntmps24
  have hw0 : Below w.heap.size w ((w.alloc (.cells #[.int .i64 kind, .int .i64 int, .string text, .slice A n c] 31)).alloc (.cells #[.int .i64 0, .int .i64 0, .string ⟨#[]⟩, .slice none 0 0] 31)) :=
    ((Below.refl _ w).alloc (Nat.le_refl _) _).alloc (by simp) _
  have hx0 : ((w.alloc (.cells #[.int .i64 kind, .int .i64 int, .string text, .slice A n c] 31)).alloc (.cells #[.int .i64 0, .int .i64 0, .string ⟨#[]⟩, .slice none 0 0] 31)).heap[w.heap.size]? = some (.cells #[.int .i64 kind, .int .i64 int, .string text, .slice A n c] 31 (0, 0)) :=
    (Below.heap_alloc _ _ _ (by simp)).trans (World.alloc_heap_new w _)
  have hy0 : ((w.alloc (.cells #[.int .i64 kind, .int .i64 int, .string text, .slice A n c] 31)).alloc (.cells #[.int .i64 0, .int .i64 0, .string ⟨#[]⟩, .slice none 0 0] 31)).heap[w.heap.size + 1]? = some (.cells #[.int .i64 0, .int .i64 0, .string ⟨#[]⟩, .slice none 0 0] 31 (0, 0)) := by
    have := World.alloc_heap_new (w.alloc (.cells #[.int .i64 kind, .int .i64 int, .string text, .slice A n c] 31)) (.cells #[.int .i64 0, .int .i64 0, .string ⟨#[]⟩, .slice none 0 0] 31)
    rwa [World.size_alloc] at this
  go_wp2_with fail
  refine (HC.out _ hw0).mono ?_
  generalize (w.alloc (.cells #[.int .i64 kind, .int .i64 int, .string text, .slice A n c] 31)).alloc (.cells #[.int .i64 0, .int .i64 0, .string ⟨#[]⟩, .slice none 0 0] 31) = W0 at hw0 hx0 hy0
  rintro e w1 ⟨v', rfl, hb1, hv1⟩
  have hx1 : w1.heap[w.heap.size]? = _ := (hb1.block _ (lt_of_heap hx0)).trans hx0
  have hy1 : w1.heap[w.heap.size + 1]? = _ := (hb1.block _ (lt_of_heap hy0)).trans hy0
  have hz1 := lt_of_heap hy1
  have hB1 := hw0.trans (hb1.mono hw0.size)
  rcases hv1 with ⟨rfl, rfl⟩ | ⟨g, cap, cur, rfl, hg, hnc, hcm, hsz, hgc, hel⟩
  · -- NO LIST
    have hx2 : (w1.setCell ⟨w.heap.size, 3, none⟩ (.slice none 0 0)).heap[w.heap.size]? = some (.cells #[.int .i64 kind, .int .i64 int, .string text, .slice none 0 0] 31 (0, 0)) := by
      rw [setCell_blk hx1]; rfl
    have hy2 : (w1.setCell ⟨w.heap.size, 3, none⟩ (.slice none 0 0)).heap[w.heap.size + 1]? = some (.cells #[.int .i64 0, .int .i64 0, .string ⟨#[]⟩, .slice none 0 0] 31 (0, 0)) :=
      (Below.heap_setCell _ _ _ _ (by show w.heap.size + 1 ≠ w.heap.size; omega)).trans hy1
    have hc1 : w1.cell? ⟨w.heap.size, 3, none⟩ = some (.slice A 0 c) := by rw [cell_of_row _ _ _ _ _ _ hx1]; rfl
    have hf1 : w1.frozen? ⟨w.heap.size, 3, none⟩ = false := by simp [World.frozen?, hx1]
    have HL0 := Lib.hid (show _ ∧ _ ∧ _ from ⟨hx2, hy2, hB1.setCell (p := ⟨w.heap.size, 3, none⟩) (Nat.le_refl _) (.slice none 0 0)⟩)
    clear hb1 hB1 hw0 hx0 hy0 hx2 hy2 HC
    go_wp2_with fail
    clear hc1 hf1 hx1 hy1 hz1
    go_loopw [12] (fun i wr => i = .int .i64 0 ∧ wr.heap[w.heap.size]? = some (.cells #[.int .i64 kind, .int .i64 int, .string text, .slice none 0 0] 31 (0, 0)) ∧ wr.heap[w.heap.size + 1]? = some (.cells #[.int .i64 0, .int .i64 0, .string ⟨#[]⟩, .slice none 0 0] 31 (0, 0)) ∧ Below w.heap.size w wr) (fun _ _ => 0)
    case atStart => exact ⟨rfl, HL0.out⟩
    case round =>
        clear HL0
        obtain ⟨rfl, hX, hY, hbw⟩ := hrel
        have hfin : ∀ (w' : World) (hk : Kp (Fro (w.heap.size + 2)) wr w') (hb : Below w.heap.size w w'), Copied (.mk kind int text 0 l) w (.returned (.agg #[.int .i64 kind, .int .i64 int, .string text, .slice none 0 0])) w' := by
          intro w' hk hb
          exact ⟨_, rfl, ⟨_, _, rfl, fun i => i.elim0⟩, hb⟩
        have hwf := setCell_blk (setCell_blk (setCell_blk (setCell_blk hY (i := 0) (.int .i64 kind)) (i := 1) (.int .i64 int)) (i := 2) (.string text)) (i := 3) (.slice none 0 0)
        have hkp : Kp (Fro (w.heap.size + 2)) wr ((((wr.setCell ⟨w.heap.size + 1, 0, none⟩ (.int .i64 kind)).setCell ⟨w.heap.size + 1, 1, none⟩ (.int .i64 int)).setCell ⟨w.heap.size + 1, 2, none⟩ (.string text)).setCell ⟨w.heap.size + 1, 3, none⟩ (.slice none 0 0)) :=
          ⟨by simp [World.setCell], fun k o (hk : w.heap.size + 2 ≤ k) ho _ => by rw [setCell_far _ (by omega), setCell_far _ (by omega), setCell_far _ (by omega), setCell_far _ (by omega)]; exact ho⟩
        have hbl : Below w.heap.size w ((((wr.setCell ⟨w.heap.size + 1, 0, none⟩ (.int .i64 kind)).setCell ⟨w.heap.size + 1, 1, none⟩ (.int .i64 int)).setCell ⟨w.heap.size + 1, 2, none⟩ (.string text)).setCell ⟨w.heap.size + 1, 3, none⟩ (.slice none 0 0)) :=
          (((hbw.setCell (by show _ ≤ w.heap.size + 1; omega) _).setCell (by show _ ≤ w.heap.size + 1; omega) _).setCell (by show _ ≤ w.heap.size + 1; omega) _).setCell (by show _ ≤ w.heap.size + 1; omega) _
        have HE := Lib.hid (show _ ∧ _ from ⟨hwf, hfin _ hkp hbl⟩)
        have hx0 : wr.cell? ⟨w.heap.size, 0, none⟩ = some (.int .i64 kind) := by rw [cell_of_row _ _ _ _ _ _ hX]; rfl
        have hx1 : wr.cell? ⟨w.heap.size, 1, none⟩ = some (.int .i64 int) := by rw [cell_of_row _ _ _ _ _ _ hX]; rfl
        have hx2 : wr.cell? ⟨w.heap.size, 2, none⟩ = some (.string text) := by rw [cell_of_row _ _ _ _ _ _ hX]; rfl
        have hx3 : wr.cell? ⟨w.heap.size, 3, none⟩ = some (.slice none 0 0) := by rw [cell_of_row _ _ _ _ _ _ hX]; rfl
        have hy0 : wr.cell? ⟨w.heap.size + 1, 0, none⟩ = some (.int .i64 0) := by rw [cell_of_row _ _ _ _ _ _ hY]; rfl
        have hy1 : wr.cell? ⟨w.heap.size + 1, 1, none⟩ = some (.int .i64 0) := by rw [cell_of_row _ _ _ _ _ _ hY]; rfl
        have hy2 : wr.cell? ⟨w.heap.size + 1, 2, none⟩ = some (.string ⟨#[]⟩) := by rw [cell_of_row _ _ _ _ _ _ hY]; rfl
        have hy3 : wr.cell? ⟨w.heap.size + 1, 3, none⟩ = some (.slice none 0 0) := by rw [cell_of_row _ _ _ _ _ _ hY]; rfl
        have hf0 : wr.frozen? ⟨w.heap.size + 1, 0, none⟩ = false := by simp [World.frozen?, hY]
        have hf1 : wr.frozen? ⟨w.heap.size + 1, 1, none⟩ = false := by simp [World.frozen?, hY]
        have hf2 : wr.frozen? ⟨w.heap.size + 1, 2, none⟩ = false := by simp [World.frozen?, hY]
        have hf3 : wr.frozen? ⟨w.heap.size + 1, 3, none⟩ = false := by simp [World.frozen?, hY]
        clear hbw hX hY hfin hwf hkp hbl
        go_wp2_with fail
        obtain ⟨hwf, hE⟩ := HE.out
        revert hwf hE
        generalize ((((wr.setCell ⟨w.heap.size + 1, 0, none⟩ (.int .i64 kind)).setCell ⟨w.heap.size + 1, 1, none⟩ (.int .i64 int)).setCell ⟨w.heap.size + 1, 2, none⟩ (.string text)).setCell ⟨w.heap.size + 1, 3, none⟩ (.slice none 0 0)) = wf
        intro hwf hE
        have k0 : wf.cell? ⟨w.heap.size + 1, 0, none⟩ = some (.int .i64 kind) := by rw [cell_of_row _ _ _ _ _ _ hwf]; rfl
        have k1 : wf.cell? ⟨w.heap.size + 1, 1, none⟩ = some (.int .i64 int) := by rw [cell_of_row _ _ _ _ _ _ hwf]; rfl
        have k2 : wf.cell? ⟨w.heap.size + 1, 2, none⟩ = some (.string text) := by rw [cell_of_row _ _ _ _ _ _ hwf]; rfl
        have k3 : wf.cell? ⟨w.heap.size + 1, 3, none⟩ = some (.slice none 0 0) := by rw [cell_of_row _ _ _ _ _ _ hwf]; rfl
        exact bodyPost_ret (v := .agg #[.int .i64 kind, .int .i64 int, .string text, .slice none 0 0]) (by simp [results, Try.results24, go_sem, k0, k1, k2, k3]) rfl hE
  · have hgB : w.heap.size + 2 ≤ g := by have := lt_of_heap hy0; omega
    have hM0 : CMid n l w g cap w1.heap.size 0 (w1.setCell ⟨w.heap.size, 3, none⟩ (.slice (some ⟨g, 0, none⟩) n cap)) := by
      refine ⟨cur, (Below.heap_setCell _ _ _ _ (by show g ≠ w.heap.size; omega)).trans hgc, hsz, hB1.setCell (Nat.le_refl _) _, by simp [World.setCell], fun i hi => absurd hi (by omega), fun i _ => ?_⟩
      exact hel i
    have HM0 := Lib.hid hM0
    have hx2 : (w1.setCell ⟨w.heap.size, 3, none⟩ (.slice (some ⟨g, 0, none⟩) n cap)).heap[w.heap.size]? = some (.cells #[.int .i64 kind, .int .i64 int, .string text, .slice (some ⟨g, 0, none⟩) n cap] 31 (0, 0)) := by
      rw [setCell_blk hx1]; rfl
    have hy2 : (w1.setCell ⟨w.heap.size, 3, none⟩ (.slice (some ⟨g, 0, none⟩) n cap)).heap[w.heap.size + 1]? = some (.cells #[.int .i64 0, .int .i64 0, .string ⟨#[]⟩, .slice none 0 0] 31 (0, 0)) :=
      (Below.heap_setCell _ _ _ _ (by show w.heap.size + 1 ≠ w.heap.size; omega)).trans hy1
    have hc1 : w1.cell? ⟨w.heap.size, 3, none⟩ = some (.slice A n c) := by rw [cell_of_row _ _ _ _ _ _ hx1]; rfl
    have hf1 : w1.frozen? ⟨w.heap.size, 3, none⟩ = false := by simp [World.frozen?, hx1]
    have hlo : g < w1.heap.size := lt_of_heap hgc
    have HL0 := Lib.hid (show LpC n l w kind int text g cap w1.heap.size 0 _ from ⟨hM0, hx2, hy2⟩)
    generalize w1.heap.size = lo at HL0 hlo
    unfold maxLen at hcm
    clear hM0 hel hgc hsz hb1 hB1 hw0 hx0 hy0 HM0 hx2 hy2 HC hg
    go_wp2_with fail
    clear hc1 hf1 hx1 hy1 hz1
    go_loopw [12] (fun i wr => ∃ (j : Nat), j ≤ n ∧ i = .int .i64 j ∧ LpC n l w kind int text g cap lo j wr) (fun i _ => n - (intOf i).toNat)
    case atStart => exact ⟨0, Nat.zero_le _, rfl, HL0.out⟩
    case round =>
      clear HL0
      obtain ⟨j, hj, rfl, hL⟩ := hrel
      by_cases hjl : j < n
      · have hdj : decide ((j : Int) < (n : Int)) = true := decide_eq_true (by omega)
        have HL := Lib.hid hL
        obtain ⟨⟨cur, hg, hsz, hbw, hlo2, hdone, htodo⟩, hX, hY⟩ := hL
        obtain ⟨u, hu, hcell⟩ := htodo ⟨j, hjl⟩ (Nat.le_refl _)
        have c0 : wr.cell? ⟨g, j * 4, none⟩ = some (.int .i64 (l ⟨j, hjl⟩).kind) := by rw [cell_of_row _ _ _ _ _ _ hg]; exact hcell 0 _ rfl
        have c1 : wr.cell? ⟨g, j * 4 + 1, none⟩ = some (.int .i64 (l ⟨j, hjl⟩).int) := by rw [cell_of_row _ _ _ _ _ _ hg]; exact hcell 1 _ rfl
        have c2 : wr.cell? ⟨g, j * 4 + 2, none⟩ = some (.string (l ⟨j, hjl⟩).text) := by rw [cell_of_row _ _ _ _ _ _ hg]; exact hcell 2 _ rfl
        have c3 : wr.cell? ⟨g, j * 4 + 3, none⟩ = some u := by rw [cell_of_row _ _ _ _ _ _ hg]; exact hcell 3 _ rfl
        have HU := Lib.hid hu
        have HI := Lib.hid (fun v w' h => HIH.out ⟨j, hjl⟩ v w' h (HF.out ⟨j, hjl⟩))
        have HX := Lib.hid hX
        have HBw := Lib.hid hbw
        clear hg hsz hbw hlo2 hdone htodo hcell hX hY hu
        have HN := Lib.hid (fun w5 B v5 (hb : Below wr.heap.size wr w5) (hB : wr.heap.size ≤ B) (hv : RpAt (Fro B) w5 (l ⟨j, hjl⟩) v5) => lpc_next HL.out hjl hnc hlo hgB hb hB hv)
        generalize l ⟨j, hjl⟩ = rj at c0 c1 c2 HU HI HN
        obtain ⟨kj, ij, tj, nj, lj⟩ := rj
        simp only [Rp.kind, Rp.int, Rp.text] at c0 c1 c2 HI HN
        obtain ⟨Au, cu, rfl⟩ : ∃ A c, u = .slice A nj c := by obtain ⟨A, c, rfl, _⟩ := HU.out; exact ⟨A, c, rfl⟩
        go_wp2_with fail
        obtain ⟨Wd, hWd⟩ : ∃ Wd, Wd = (wr.alloc (.cells #[.int .i64 kj, .int .i64 ij, .string tj, .slice Au nj cu] 31)).drew := ⟨_, rfl⟩
        have hbd : Below wr.heap.size wr Wd := by rw [hWd]; exact ((Below.refl _ wr).alloc (Nat.le_refl _) _).drew
        have hBd := HBw.out.trans (hbd.mono HBw.out.size)
        have hnew : Wd.heap[wr.heap.size]? = some (.cells #[.int .i64 kj, .int .i64 ij, .string tj, .slice Au nj cu] 31 (0, 0)) := by rw [hWd]; exact World.alloc_heap_new wr _
        have hXd : Wd.heap[w.heap.size]? = _ := (hbd.block _ (lt_of_heap HX.out)).trans HX.out
        have hglt := World.block_lt_of_cell? _ _ c0
        have HS0 := Lib.hid (fun (w' : World) (hb : Below Wd.heap.size Wd w') => show w'.cell? ⟨w.heap.size, 3, none⟩ = some (.slice (some ⟨g, 0, none⟩) n cap) ∧ w'.cell? ⟨wr.heap.size, 0, none⟩ = some (.int .i64 kj) ∧ w'.cell? ⟨wr.heap.size, 1, none⟩ = some (.int .i64 ij) ∧ w'.cell? ⟨wr.heap.size, 2, none⟩ = some (.string tj) ∧ w'.cell? ⟨wr.heap.size, 3, none⟩ = some (.slice Au nj cu) from by
          have hn := (hb.block _ (lt_of_heap hnew)).trans hnew
          have hx := (hb.block _ (lt_of_heap hXd)).trans hXd
          refine ⟨?_, ?_, ?_, ?_, ?_⟩
          · rw [cell_of_row _ _ _ _ _ _ hx]; rfl
          all_goals rw [cell_of_row _ _ _ _ _ _ hn]; rfl)
        have hgd : ∀ w', Below Wd.heap.size Wd w' → w'.heap[g]? = wr.heap[g]? := fun w' hb => (hb.block g (Nat.lt_of_lt_of_le hglt hbd.size)).trans (hbd.block g hglt)
        have HC5 := Lib.hid (fun (w' : World) (hb : Below Wd.heap.size Wd w') => show w'.cell? ⟨g, j * 4, none⟩ = some (.int .i64 kj) ∧ w'.cell? ⟨g, j * 4 + 1, none⟩ = some (.int .i64 ij) ∧ w'.cell? ⟨g, j * 4 + 2, none⟩ = some (.string tj) ∧ w'.cell? ⟨g, j * 4 + 3, none⟩ = some (.slice Au nj cu) from
          ⟨(World.cell?_of_block (hgd w' hb)).trans c0, (World.cell?_of_block (hgd w' hb)).trans c1, (World.cell?_of_block (hgd w' hb)).trans c2, (World.cell?_of_block (hgd w' hb)).trans c3⟩)
        have HF5 := Lib.hid (fun (w' : World) (hb : Below Wd.heap.size Wd w') => show w'.frozen? ⟨g, j * 4, none⟩ = false ∧ w'.frozen? ⟨g, j * 4 + 1, none⟩ = false ∧ w'.frozen? ⟨g, j * 4 + 2, none⟩ = false ∧ w'.frozen? ⟨g, j * 4 + 3, none⟩ = false from by
          obtain ⟨⟨cur, hg, _⟩, _⟩ := HL.out
          have hg' := (hgd w' hb).trans hg
          refine ⟨?_, ?_, ?_, ?_⟩ <;> simp [World.frozen?, hg'])
        have HWd := Lib.hid hWd
        have HBd := Lib.hid hBd
        have Hbd := Lib.hid hbd
        clear hWd hbd hBd hnew hXd hgd c0 c1 c2 c3
        refine start_ (n := 7) (S := fun w' => w'.cell? ⟨w.heap.size, 3, none⟩ = some (.slice (some ⟨g, 0, none⟩) n cap) ∧ w'.cell? ⟨wr.heap.size, 0, none⟩ = some (.int .i64 kj) ∧ w'.cell? ⟨wr.heap.size, 1, none⟩ = some (.int .i64 ij) ∧ w'.cell? ⟨wr.heap.size, 2, none⟩ = some (.string tj) ∧ w'.cell? ⟨wr.heap.size, 3, none⟩ = some (.slice Au nj cu)) (ds := [6]) #[false, false, false, false, false, false, false] (by kernel_rfl) rfl rfl (by rw [← HWd.out]; exact HS0.out Wd (Below.refl _ _)) (fun hHeld => ?_)
        rw [← HWd.out] at hHeld ⊢
        refine pure_ (i := 0) (N := some 17) (v := ?_) (a' := ?_) #[true, false, false, false, false, false, false] rfl rfl (by kernel_rfl) (fun _ _ _ h => h) (Or.inl ⟨by rfl, ?_⟩) ?_ ?_
        rotate_left
        · intro w'
          go_simp
          with_reducible rfl
        rotate_left
        · simp only [Act.put, List.setIfInBounds_toArray, List.set_cons_zero, List.set_cons_succ, i64_w, i32_w]
          rfl
        refine take_ (i := 1) (N := some 18) (v := ?_) (a' := ?_) #[true, true, false, false, false, false, false] rfl rfl (by kernel_rfl) (fun _ _ _ h => h) (Or.inl ⟨by rfl, ?_⟩) hHeld ?_ ?_
        rotate_left
        · rintro w' ⟨s0, s1, s2, s3, s4⟩
          go_simp
          with_reducible rfl
        rotate_left
        · simp only [Act.put, List.setIfInBounds_toArray, List.set_cons_zero, List.set_cons_succ, i64_w, i32_w]
          rfl
        refine pure_ (i := 2) (N := some 19) (v := ?_) (a' := ?_) #[true, true, true, false, false, false, false] rfl rfl (by kernel_rfl) (fun _ _ _ h => h) (Or.inl ⟨by rfl, ?_⟩) ?_ ?_
        rotate_left
        · intro w'
          go_simp
          with_reducible rfl
        rotate_left
        · simp only [Act.put, List.setIfInBounds_toArray, List.set_cons_zero, List.set_cons_succ, i64_w, i32_w]
          rfl
        refine take_ (i := 3) (N := some 20) (v := ?_) (a' := ?_) #[true, true, true, true, false, false, false] rfl rfl (by kernel_rfl) (fun _ _ _ h => h) (Or.inl ⟨by rfl, ?_⟩) hHeld ?_ ?_
        rotate_left
        · rintro w' ⟨s0, s1, s2, s3, s4⟩
          go_simp
          with_reducible rfl
        rotate_left
        · simp only [Act.put, List.setIfInBounds_toArray, List.set_cons_zero, List.set_cons_succ, i64_w, i32_w]
          rfl
        refine one_ (i := 4) (N := some 21) #[true, true, true, true, true, false, false] rfl rfl (by kernel_rfl) (by decide) (fun K hK => ?_)
        refine goes_ Try.func24 (by kernel_rfl) rfl #[.agg #[.int .i64 kj, .int .i64 ij, .string tj, .slice Au nj cu]] (by rfl) rfl rfl (by (try simp only [List.map_toArray, List.map_cons, List.map_nil]); first | done | rfl) ?_
        refine (HI.out (.slice Au nj cu) Wd (HU.out.keep (.of_below HBd.out (Fro 0)))).mono ?_
        rintro ee w5 ⟨v5, rfl, hv5, hb5⟩
        simp only [Rp.kind, Rp.int, Rp.text]
        obtain ⟨A5, c5, rfl⟩ : ∃ A c, v5 = .slice A nj c := by obtain ⟨A, c, rfl, _⟩ := hv5; exact ⟨A, c, rfl⟩
        have HB5 := Lib.hid hb5
        have HV5 := Lib.hid hv5
        clear hb5 hv5
        refine ⟨_, rfl, ?_⟩
        refine hK.out _ _ (HS0.out _ HB5.out) (fun hHeld => ?_)
        clear hK K
        refine norm_ (a' := ?_) ?_ ?_
        rotate_left
        · simp only [Act.put, List.setIfInBounds_toArray, List.set_cons_zero, List.set_cons_succ, i64_w, i32_w]
          rfl
        refine pure_ (i := 5) (N := some 22) (v := ?_) (a' := ?_) #[true, true, true, true, true, true, false] rfl rfl (by kernel_rfl) (fun _ _ _ h => h) (Or.inl ⟨by rfl, ?_⟩) ?_ ?_
        rotate_left
        · intro w'
          go_simp
          with_reducible rfl
        rotate_left
        · simp only [Act.put, List.setIfInBounds_toArray, List.set_cons_zero, List.set_cons_succ, i64_w, i32_w]
          rfl
        obtain ⟨d0, d1, d2, d3⟩ := HC5.out w5 HB5.out
        obtain ⟨f0, f1, f2, f3⟩ := HF5.out w5 HB5.out
        refine last_ (i := 6) (N := none) #[true, true, true, true, true, true, true] rfl rfl (by kernel_rfl) (by decide) (fun K hK => ?_)
        refine skip_ (w1 := ?_) (by rfl) rfl ?_ ?_
        rotate_left
        · go_simp
          rfl
        refine hK.out _ _ ?_
        clear hK K
        refine done_ (by kernel_rfl) ?_
        have HR := Lib.hid (HN.out w5 _ _ (Hbd.out.trans (HB5.out.mono Hbd.out.size)) Hbd.out.size HV5.out)
        clear hHeld HB5 HV5 HN d0 d1 d2 d3 f0 f1 f2 f3
        go_wp2_with fail
        go_roundw
        case rel => exact ⟨j + 1, by omega, by go_num, HR.out⟩
        case measure => simp [intOf]; omega
      · have hje : j = n := by omega
        subst hje
        have hdj : decide ((j : Int) < (j : Int)) = false := decide_eq_false (by omega)
        obtain ⟨⟨cur, hg, hsz, hbw, hlo2, hdone, htodo⟩, hX, hY⟩ := hL
        have hfin : ∀ (w' : World) (hk : Kp (Fro (w.heap.size + 2)) wr w') (hb : Below w.heap.size w w'), Copied (.mk kind int text j l) w (.returned (.agg #[.int .i64 kind, .int .i64 int, .string text, .slice (some ⟨g, 0, none⟩) j cap])) w' := by
          intro w' hk hb
          refine ⟨_, rfl, ⟨_, _, rfl, fun i => ?_⟩, hb⟩
          obtain ⟨u, hu, hx⟩ := hdone i i.2
          have hg' := hk.blk g _ hgB hg rfl
          refine ⟨g, 0, u, rfl, (by show _ ≤ g; omega), ?_, ?_, ?_, ?_, (hu.keep (hk.mono (Fro.sub (by omega)))).mono (Fro.sub (by omega))⟩
          · rw [cell_of_row _ _ _ _ _ _ hg', Nat.zero_add]; exact hx 0 _ rfl
          · rw [cell_of_row _ _ _ _ _ _ hg', Nat.zero_add]; exact hx 1 _ rfl
          · rw [cell_of_row _ _ _ _ _ _ hg', Nat.zero_add]; exact hx 2 _ rfl
          · rw [cell_of_row _ _ _ _ _ _ hg', Nat.zero_add]; exact hx 3 _ rfl
        have hwf := setCell_blk (setCell_blk (setCell_blk (setCell_blk hY (i := 0) (.int .i64 kind)) (i := 1) (.int .i64 int)) (i := 2) (.string text)) (i := 3) (.slice (some ⟨g, 0, none⟩) j cap)
        have hkp : Kp (Fro (w.heap.size + 2)) wr ((((wr.setCell ⟨w.heap.size + 1, 0, none⟩ (.int .i64 kind)).setCell ⟨w.heap.size + 1, 1, none⟩ (.int .i64 int)).setCell ⟨w.heap.size + 1, 2, none⟩ (.string text)).setCell ⟨w.heap.size + 1, 3, none⟩ (.slice (some ⟨g, 0, none⟩) j cap)) :=
          ⟨by simp [World.setCell], fun k o (hk : w.heap.size + 2 ≤ k) ho _ => by rw [setCell_far _ (by omega), setCell_far _ (by omega), setCell_far _ (by omega), setCell_far _ (by omega)]; exact ho⟩
        have hbl : Below w.heap.size w ((((wr.setCell ⟨w.heap.size + 1, 0, none⟩ (.int .i64 kind)).setCell ⟨w.heap.size + 1, 1, none⟩ (.int .i64 int)).setCell ⟨w.heap.size + 1, 2, none⟩ (.string text)).setCell ⟨w.heap.size + 1, 3, none⟩ (.slice (some ⟨g, 0, none⟩) j cap)) :=
          (((hbw.setCell (by show _ ≤ w.heap.size + 1; omega) _).setCell (by show _ ≤ w.heap.size + 1; omega) _).setCell (by show _ ≤ w.heap.size + 1; omega) _).setCell (by show _ ≤ w.heap.size + 1; omega) _
        have HE := Lib.hid (show _ ∧ _ from ⟨hwf, hfin _ hkp hbl⟩)
        have hx0 : wr.cell? ⟨w.heap.size, 0, none⟩ = some (.int .i64 kind) := by rw [cell_of_row _ _ _ _ _ _ hX]; rfl
        have hx1 : wr.cell? ⟨w.heap.size, 1, none⟩ = some (.int .i64 int) := by rw [cell_of_row _ _ _ _ _ _ hX]; rfl
        have hx2 : wr.cell? ⟨w.heap.size, 2, none⟩ = some (.string text) := by rw [cell_of_row _ _ _ _ _ _ hX]; rfl
        have hx3 : wr.cell? ⟨w.heap.size, 3, none⟩ = some (.slice (some ⟨g, 0, none⟩) j cap) := by rw [cell_of_row _ _ _ _ _ _ hX]; rfl
        have hy0 : wr.cell? ⟨w.heap.size + 1, 0, none⟩ = some (.int .i64 0) := by rw [cell_of_row _ _ _ _ _ _ hY]; rfl
        have hy1 : wr.cell? ⟨w.heap.size + 1, 1, none⟩ = some (.int .i64 0) := by rw [cell_of_row _ _ _ _ _ _ hY]; rfl
        have hy2 : wr.cell? ⟨w.heap.size + 1, 2, none⟩ = some (.string ⟨#[]⟩) := by rw [cell_of_row _ _ _ _ _ _ hY]; rfl
        have hy3 : wr.cell? ⟨w.heap.size + 1, 3, none⟩ = some (.slice none 0 0) := by rw [cell_of_row _ _ _ _ _ _ hY]; rfl
        have hf0 : wr.frozen? ⟨w.heap.size + 1, 0, none⟩ = false := by simp [World.frozen?, hY]
        have hf1 : wr.frozen? ⟨w.heap.size + 1, 1, none⟩ = false := by simp [World.frozen?, hY]
        have hf2 : wr.frozen? ⟨w.heap.size + 1, 2, none⟩ = false := by simp [World.frozen?, hY]
        have hf3 : wr.frozen? ⟨w.heap.size + 1, 3, none⟩ = false := by simp [World.frozen?, hY]
        clear hg hsz hbw hlo2 hdone htodo hX hY hfin hwf hkp hbl
        go_wp2_with fail
        obtain ⟨hwf, hE⟩ := HE.out
        revert hwf hE
        generalize ((((wr.setCell ⟨w.heap.size + 1, 0, none⟩ (.int .i64 kind)).setCell ⟨w.heap.size + 1, 1, none⟩ (.int .i64 int)).setCell ⟨w.heap.size + 1, 2, none⟩ (.string text)).setCell ⟨w.heap.size + 1, 3, none⟩ (.slice (some ⟨g, 0, none⟩) j cap)) = wf
        intro hwf hE
        have k0 : wf.cell? ⟨w.heap.size + 1, 0, none⟩ = some (.int .i64 kind) := by rw [cell_of_row _ _ _ _ _ _ hwf]; rfl
        have k1 : wf.cell? ⟨w.heap.size + 1, 1, none⟩ = some (.int .i64 int) := by rw [cell_of_row _ _ _ _ _ _ hwf]; rfl
        have k2 : wf.cell? ⟨w.heap.size + 1, 2, none⟩ = some (.string text) := by rw [cell_of_row _ _ _ _ _ _ hwf]; rfl
        have k3 : wf.cell? ⟨w.heap.size + 1, 3, none⟩ = some (.slice (some ⟨g, 0, none⟩) j cap) := by rw [cell_of_row _ _ _ _ _ _ hwf]; rfl
        exact bodyPost_ret (v := .agg #[.int .i64 kind, .int .i64 int, .string text, .slice (some ⟨g, 0, none⟩) j cap]) (by simp [results, Try.results24, go_sem, k0, k1, k2, k3]) rfl hE
end Go.Proofs.Ytjplobfacdcgcaa
