/-
  A dict in memory, behind an edit of a room in place and behind a room's new value, of either table. Of no function.
-/
import Derived.Test.YtflndbgaidhbaaaDoorMem3
namespace Go.Proofs.YtflndbgaidhbaaaDoor
open Go.RowKit Dm

theorem setCell_self {w : World} {b i t : Nat} {cs : Array Value} {f : Nat × Nat} {u : Value} (h : w.heap[b]? = some (.cells cs t f)) (hu : cs[i]? = some u) : w.setCell ⟨b, i, none⟩ u = w := by
  obtain ⟨hb, hbe⟩ := Array.getElem?_eq_some_iff.1 h
  obtain ⟨hi, hie⟩ := Array.getElem?_eq_some_iff.1 hu
  have : (w.setCell ⟨b, i, none⟩ u).heap = w.heap := by
    apply Array.ext_getElem?
    intro c
    by_cases e : c = b
    · subst e
      rw [setCell_blk h, h]
      congr 2
      apply Array.ext_getElem?
      intro j
      rw [Array.getElem?_setIfInBounds]
      split
      · rename_i e; subst e; exact hu.symm
      · rfl
    · exact setCell_far _ e
  have e2 : ∀ w' : World, w'.heap = w.heap → w' = { w with heap := w'.heap } → w' = w := fun w' h1 h2 => by rw [h2, h1]
  exact e2 _ this rfl

section
variable {α : Type} {K : Ty α}

def tabOf (L : Lo) (b : Bool) : Array Value := if b then L.co else L.cn
/-- A room's value is another one. -/
theorem edit_set {W w1 : World} {L : Lo} {d : D α} {b : Bool} {i : Nat} {u u' : Value} {r r' : Room α} (hd : DictAt K W L d) (hi : (if b then d.old else d.now)[i]? = some r) (hu : (tabOf L b)[i]? = some u)
    (hg : Fr (fun k => rb u = some k) W w1) (hr : RoomAt K.ti K.sz K.enc w1 u' r') (hn : ∀ b, rb u' = some b → rb u = some b ∨ W.heap.size ≤ b) :
    After K W L d (edit d b i r') (w1.setCell ⟨if b then L.go else L.gn, i, none⟩ u') := by
  unfold edit tabOf at *
  cases b
  · simp only [Bool.false_eq_true, if_false] at *
    obtain ⟨h1, h2, h3⟩ := now_set hd hi hu hg hr hn
    exact ⟨{ L with cn := L.cn.setIfInBounds i u' }, rfl, h1, h2, h3⟩
  · simp only [if_true] at *
    obtain ⟨h1, h2, h3⟩ := old_set hd hi hu hg hr hn
    exact ⟨{ L with co := L.co.setIfInBounds i u' }, rfl, h1, h2, h3⟩
/-- A room has turned in place. -/
theorem edit_in {W w1 : World} {L : Lo} {d : D α} {b : Bool} {i : Nat} {u : Value} {r r' : Room α} (hd : DictAt K W L d) (hi : (if b then d.old else d.now)[i]? = some r) (hu : (tabOf L b)[i]? = some u)
    (hg : Fr (fun k => rb u = some k) W w1) (hr : RoomAt K.ti K.sz K.enc w1 u r') :
    After K W L d (edit d b i r') w1 := by
  have h := edit_set hd hi hu hg hr (fun b hb => .inl hb)
  have huIn : ∀ c, rb u = some c → In L.cn d.now.length c ∨ In L.co d.old.length c := fun c hc => by
    have hil := (List.getElem?_eq_some_iff.1 hi).1
    unfold tabOf at hu
    cases b
    · exact .inl ⟨i, u, hil, hu, hc⟩
    · exact .inr ⟨i, u, hil, hu, hc⟩
  have e : w1.setCell ⟨if b then L.go else L.gn, i, none⟩ u = w1 := by
    unfold tabOf at hu
    cases b
    · simp only [Bool.false_eq_true, if_false] at *
      exact setCell_self ((hg.block _ (lt_of_heap hd.now.1) (fun e => (hd.in_ne (huIn _ e)).2.1 rfl)).trans hd.now.1) hu
    · simp only [if_true] at *
      have ho : d.old ≠ [] := by intro e; rw [e] at hi; simp at hi
      exact setCell_self ((hg.block _ (lt_of_heap (hd.old ho).1) (fun e => (hd.in_ne (huIn _ e)).2.2 ho rfl)).trans (hd.old ho).1) hu
  rw [e] at h
  exact h
theorem own_after {W w1 : World} {L : Lo} {d : D α} (hd : DictAt K W L d) (m n : Nat)
    (hb : w1.heap[L.bp]? = some (.cells #[.slice (some ⟨L.gn, 0, none⟩) d.now.length L.cn.size, oldV L d, .int .i64 n, .int .i64 m] K.td (0, 0))) (hf : Fr (fun k => k = L.bp) W w1) :
    After K W L d { d with next := n, many := m } w1 :=
  ⟨L, rfl, own_at hd m n hb hf, hf.mono (fun i e => .inl e), fun _ h => .inl h⟩
/-- The count alone. -/
theorem many_after {W : World} {L : Lo} {d : D α} (hd : DictAt K W L d) (m : Nat) (v : Value) (hv : v = .int .i64 m) : After K W L d { d with many := m } (W.setCell ⟨L.bp, 3, none⟩ v) := by
  subst hv
  exact own_after hd m d.next (by rw [setCell_blk hd.blk]; rfl) (fr_own _)
end
end Go.Proofs.YtflndbgaidhbaaaDoor
