/-
  An append of what is handed in behind a row that is empty and the call's own; two steps for a walk. Conditions: those that each theorem states.
-/
import Derived.Test.YtjplobfacdcgcaaK2
import Derived.Test.YtjplobfacdcgcaaX10
import Derived.Laws.AppendOwnNone
namespace Go.Proofs.Ytjplobfacdcgcaa
open Go.RowKit

theorem wpList_texts {w : World} {ops : Array Oper} {rest : List Oper} {o : Oper} {a : Act} {Q : Exit → Act → World → Prop} (hgd : o.guard = none) (s x : Operand)
    (ho : o.op = .call { callee := .builtin .append, args := #[s, x], argTypes := #[28, 28] }) (base k : Nat) (hs : a.eval s = .slice (some ⟨k, 0, none⟩) 0 0)
    (hown : w.ownsRow base 9 1 (.slice (some ⟨k, 0, none⟩) 0 0) 0 []) (hkb : base ≤ k) (hb : base ≤ w.heap.size) (v : Value) (l : List ByteArray) (nn : Nat) (hnn : nn = l.length) (hx : a.eval x = v) (hv : StrsAt (Fro 0) w v l) (hsrc : Src v) (hl : l.length ≤ 1000000)
    (h : ∀ (g cap : Nat) (cur : Array Value) (w' : World), base ≤ g → w'.heap[g]? = some (.cells cur 9 (0, 0)) → (∀ (j : Nat) (t : ByteArray), l[j]? = some t → cur[j]? = some (.string t)) → Below base w w' →
      wpList Try.prog ops Q rest (a.put o.dst (.slice (some ⟨g, 0, none⟩) nn cap)) w') : wpList Try.prog ops Q (o :: rest) a w := by
  subst hnn
  obtain ⟨i0, hi, hz0, hz1, hz2⟩ := info_parts info9
  have hl63 : 0 + l.length ≤ maxLen := by unfold maxLen; omega
  have hby : (0 + l.length) * 16 ≤ 140737488355328 := by omega
  rcases hsrc with rfl | ⟨ad, n, c, rfl⟩
  · obtain ⟨A, c, e, hc⟩ := hv
    obtain ⟨rfl, hn, rfl⟩ : none = A ∧ 0 = l.length ∧ 0 = c := by simpa using e
    obtain rfl := List.eq_nil_of_length_eq_zero hn.symm
    refine wpList_append_own_none hgd s x 28 ho base 9 i0 1 Try.underlying28 hi _ 0 [] hs hown hx ?_
    rcases own_cases hown with ⟨e1, _⟩ | ⟨g, cap, cur, e1, hg, _, _, _, hcur, _, _⟩
    · cases e1
    · obtain ⟨rfl, rfl⟩ : k = g ∧ 0 = cap := by simpa using e1
      exact h k 0 cur w hg hcur (fun j t hj => by simp at hj) (Below.refl _ w)
  · obtain ⟨A, c', e, hc⟩ := hv
    obtain ⟨rfl, rfl, rfl⟩ : some ad = A ∧ n = l.length ∧ c = c' := by simpa using e
    refine wpList_append_own w hgd s x 28 ho base 9 i0 _ 1 16 Try.underlying28 hi hz0 hz1 hz2 rfl (by decide) _ 0 [] hs hown ad l.length c (l.map .string) hx (by simp) (fun j u hj => ?_) (fun u hu => ?_) hl63 hby hb (fun v' w' hown' hgrow hnil => ?_)
    · rw [List.getElem?_map] at hj
      obtain ⟨t, ht, rfl⟩ := Option.map_eq_some_iff.1 hj
      obtain ⟨b, off, hA, _, hcell⟩ := hc j t ht
      cases hA
      rw [Addr.add_lit]; exact hcell
    · obtain ⟨t, _, rfl⟩ := List.mem_map.1 hu; rfl
    · have hbel : Below base w w' := (Below.refl base w).grown hgrow (by simpa using hb) (by intro j hj; simp [Value.ownBlock] at hj; omega)
      rcases own_cases hown' with ⟨rfl, _⟩ | ⟨g, cap, cur, rfl, hg, _, _, _, hcur, hcx, _⟩
      · exact absurd (hnil.1 rfl).1 (by simp)
      · rw [Nat.zero_add]
        exact h g cap cur w' hg hcur (fun j t hj => hcx j _ (by rw [List.nil_append, List.getElem?_map, hj]; rfl)) hbel

theorem wpList_replies {w : World} {ops : Array Oper} {rest : List Oper} {o : Oper} {a : Act} {Q : Exit → Act → World → Prop} (hgd : o.guard = none) (s x : Operand)
    (ho : o.op = .call { callee := .builtin .append, args := #[s, x], argTypes := #[29, 29] }) (base k : Nat) (hs : a.eval s = .slice (some ⟨k, 0, none⟩) 0 0)
    (hown : w.ownsRow base 31 4 (.slice (some ⟨k, 0, none⟩) 0 0) 0 []) (hkb : base ≤ k) (hb : base ≤ w.heap.size) (v : Value) (n : Nat) (l : Fin n → Rp) (Qu : Fin n → Value → Prop) (hQu : ∀ i u, Qu i u → u.oneCell' = true) (hx : a.eval x = v) (hv : RowAt w n l Qu v) (hsrc : Src v) (hl : n ≤ 1000000)
    (h : ∀ (g cap : Nat) (cur : Array Value) (w' : World), base ≤ g → w'.heap[g]? = some (.cells cur 31 (0, 0)) → (∀ i : Fin n, ∃ u, Qu i u ∧ ∀ (j : Nat) (x : Value), (rpCells (l i) u)[j]? = some x → cur[i.1 * 4 + j]? = some x) → Below base w w' →
      wpList Try.prog ops Q rest (a.put o.dst (.slice (some ⟨g, 0, none⟩) n cap)) w') : wpList Try.prog ops Q (o :: rest) a w := by
  obtain ⟨i0, hi, hz0, hz1, hz2⟩ := info_parts info31
  have hl63 : 0 + n ≤ maxLen := by unfold maxLen; omega
  have hby : (0 + n) * 56 ≤ 140737488355328 := by omega
  rcases hsrc with rfl | ⟨ad, n', c, rfl⟩
  · obtain ⟨A, c, e, hc⟩ := hv
    obtain ⟨rfl, rfl, rfl⟩ : none = A ∧ 0 = n ∧ 0 = c := by simpa using e
    refine wpList_append_own_none hgd s x 29 ho base 31 i0 4 Try.underlying29 hi _ 0 [] hs hown hx ?_
    rcases own_cases hown with ⟨e1, _⟩ | ⟨g, cap, cur, e1, hg, _, _, _, hcur, _, _⟩
    · cases e1
    · obtain ⟨rfl, rfl⟩ : k = g ∧ 0 = cap := by simpa using e1
      exact h k 0 cur w hg hcur (fun i => i.elim0) (Below.refl _ w)
  · obtain ⟨A, c', e, hc⟩ := hv
    obtain ⟨rfl, rfl, rfl⟩ : some ad = A ∧ n' = n ∧ c = c' := by simpa using e
    have each : ∀ i : Fin n', ∃ u, Qu i u ∧ ∀ (j : Nat) (x : Value), (rpCells (l i) u)[j]? = some x → w.cell? (ad.add (i.1 * 4 + j)) = some x := by
      intro i
      obtain ⟨b, off, u, hA, h1, h2, h3, h4, h5⟩ := hc i
      cases hA
      refine ⟨u, h5, fun j x hj => ?_⟩
      rw [Addr.add_lit]
      match j, hj with
      | 0, hj => obtain rfl : _ = x := by simpa [rpCells] using hj
                 exact h1
      | 1, hj => obtain rfl : _ = x := by simpa [rpCells] using hj
                 exact h2
      | 2, hj => obtain rfl : _ = x := by simpa [rpCells] using hj
                 exact h3
      | 3, hj => obtain rfl : _ = x := by simpa [rpCells] using hj
                 exact h4
      | j + 4, hj => simp [rpCells] at hj
    obtain ⟨f, hf⟩ := Classical.axiomOfChoice each
    obtain ⟨gg, hgg⟩ : ∃ gg : Nat → List Value, gg = fun i => if h : i < n' then rpCells (l ⟨i, h⟩) (f ⟨i, h⟩) else [] := ⟨_, rfl⟩
    have hgl : ∀ i, i < n' → (gg i).length = 4 := fun i hi => by rw [hgg]; simp [hi, rpCells]
    refine wpList_append_own w hgd s x 29 ho base 31 i0 _ 4 56 Try.underlying29 hi hz0 hz1 hz2 rfl (by decide) _ 0 [] hs hown ad n' c (flat 4 n' gg) hx (flat_length _ _ _) (fun j u hj => ?_) (fun u hu => ?_) hl63 hby hb (fun v' w' hown' hgrow hnil => ?_)
    · obtain ⟨i, j', hi, rfl, hx⟩ := flat_of hgl hj
      rw [hgg] at hx
      simp only [hi, dif_pos] at hx
      exact (hf ⟨i, hi⟩).2 j' u hx
    · obtain ⟨k', hk'⟩ := List.getElem?_of_mem hu
      obtain ⟨i, j', hi, rfl, hx⟩ := flat_of hgl hk'
      rw [hgg] at hx
      simp only [hi, dif_pos] at hx
      have := List.mem_of_getElem? hx
      simp only [rpCells, List.mem_cons, List.not_mem_nil, or_false] at this
      rcases this with rfl | rfl | rfl | rfl <;> first | rfl | exact hQu _ _ (hf ⟨i, hi⟩).1
    · have hbel : Below base w w' := (Below.refl base w).grown hgrow (by simpa using hb) (by intro j hj; simp [Value.ownBlock] at hj; omega)
      rcases own_cases hown' with ⟨rfl, _⟩ | ⟨g, cap, cur, rfl, hg, _, _, _, hcur, hcx, _⟩
      · exact absurd (hnil.1 rfl).1 (by simp)
      · rw [Nat.zero_add]
        refine h g cap cur w' hg hcur (fun i => ⟨f i, (hf i).1, fun j x hj => hcx _ _ (by rw [List.nil_append]; refine flat_get hgl i.2 ?_; rw [hgg]; simp only [i.2, dif_pos]; exact hj)⟩) hbel

/-- Here a walk halts. -/
structure Halt (p : Prop) : Prop where
  out : p
theorem halt_list (n : Nat) {P : Program} {ops : Array Oper} {Q : Exit → Act → World → Prop} {op : Op} {ty : TypeId} {pos : String} {af : Array Edge} {gd : Option (Nat × Bool)} {rest : List Oper} {a : Act} {w : World}
    (h : Halt (wpList P ops Q (⟨some n, op, ty, pos, af, gd⟩ :: rest) a w)) : wpList P ops Q (⟨some n, op, ty, pos, af, gd⟩ :: rest) a w := h.out
theorem halt_at {P : Program} {ops : Array Oper} {Q : Exit → Act → World → Prop} {l : List Oper} {a : Act} {w : World} (R : World → Prop) (h : R w) (k : ∀ w', R w' → wpList P ops Q l a w') : Halt (wpList P ops Q l a w) := ⟨k w h⟩

set_option maxRecDepth 100000 in
theorem stored13b {W : World} {R : Nat} (h : W.heap[R]? = some (.cells #[.int .i64 0, .int .i64 0, .int .i64 0, .int .i64 0, .string ⟨#[]⟩, .string ⟨#[]⟩, .slice none 0 0, .int .i64 0, .int .i64 0, .string ⟨#[]⟩, .slice none 0 0, .bool false, .int .i64 0] 33 (0, 0))) (v0 v1 v2 v3 v4 v5 v6 v7 v8 v9 v10 v11 v12 : Value) :
    (((((((((((((W.setCell ⟨R, 0, none⟩ v0).setCell ⟨R, 1, none⟩ v1).setCell ⟨R, 2, none⟩ v2).setCell ⟨R, 3, none⟩ v3).setCell ⟨R, 4, none⟩ v4).setCell ⟨R, 5, none⟩ v5).setCell ⟨R, 6, none⟩ v6).setCell ⟨R, 7, none⟩ v7).setCell ⟨R, 8, none⟩ v8).setCell ⟨R, 9, none⟩ v9).setCell ⟨R, 10, none⟩ v10).setCell ⟨R, 11, none⟩ v11).setCell ⟨R, 12, none⟩ v12).heap[R]? = some (.cells #[v0, v1, v2, v3, v4, v5, v6, v7, v8, v9, v10, v11, v12] 33 (0, 0)) ∧ Below R W (((((((((((((W.setCell ⟨R, 0, none⟩ v0).setCell ⟨R, 1, none⟩ v1).setCell ⟨R, 2, none⟩ v2).setCell ⟨R, 3, none⟩ v3).setCell ⟨R, 4, none⟩ v4).setCell ⟨R, 5, none⟩ v5).setCell ⟨R, 6, none⟩ v6).setCell ⟨R, 7, none⟩ v7).setCell ⟨R, 8, none⟩ v8).setCell ⟨R, 9, none⟩ v9).setCell ⟨R, 10, none⟩ v10).setCell ⟨R, 11, none⟩ v11).setCell ⟨R, 12, none⟩ v12) := by
  have hwf := (setCell_blk (setCell_blk (setCell_blk (setCell_blk (setCell_blk (setCell_blk (setCell_blk (setCell_blk (setCell_blk (setCell_blk (setCell_blk (setCell_blk (setCell_blk h (i := 0) v0) (i := 1) v1) (i := 2) v2) (i := 3) v3) (i := 4) v4) (i := 5) v5) (i := 6) v6) (i := 7) v7) (i := 8) v8) (i := 9) v9) (i := 10) v10) (i := 11) v11) (i := 12) v12)
  refine ⟨hwf.trans ?_, ((((((((((((((Below.refl R W).setCell (Nat.le_refl R) _).setCell (Nat.le_refl R) _).setCell (Nat.le_refl R) _).setCell (Nat.le_refl R) _).setCell (Nat.le_refl R) _).setCell (Nat.le_refl R) _).setCell (Nat.le_refl R) _).setCell (Nat.le_refl R) _).setCell (Nat.le_refl R) _).setCell (Nat.le_refl R) _).setCell (Nat.le_refl R) _).setCell (Nat.le_refl R) _).setCell (Nat.le_refl R) _)⟩
  simp
end Go.Proofs.Ytjplobfacdcgcaa
