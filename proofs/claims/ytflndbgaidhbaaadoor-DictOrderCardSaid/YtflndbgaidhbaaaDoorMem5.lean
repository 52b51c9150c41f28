/-
  A room of which one item has been taken out: the cells behind it moved to the left, the last item's cells zero. clear of a slice whose elements have more cells than one. Of no function.
-/
import Derived.Test.YtflndbgaidhbaaaDoorMem4
import Derived.Laws.IdiomCopy
namespace Go.Proofs.YtflndbgaidhbaaaDoor
open Go.RowKit Dm

/-- Cells o, o + 1, .. of an array laid anew. -/
def laid (cs : Array Value) : Nat → List Value → Array Value
  | _, [] => cs
  | o, v :: r => laid (cs.setIfInBounds o v) (o + 1) r
theorem laid_size : ∀ (vs : List Value) (cs : Array Value) (o : Nat), (laid cs o vs).size = cs.size
  | [], _, _ => rfl
  | v :: r, cs, o => by rw [laid, laid_size r]; simp
theorem laid_list : ∀ (vs : List Value) (cs : Array Value) (o : Nat), o + vs.length ≤ cs.size → (laid cs o vs).toList = cs.toList.take o ++ vs ++ cs.toList.drop (o + vs.length)
  | [], cs, o, _ => by simp [laid]
  | v :: r, cs, o, h => by
    simp only [List.length_cons] at h
    rw [laid, laid_list r _ _ (by simp; omega), Array.toList_setIfInBounds]
    have ho : o < cs.toList.length := by simp; omega
    have e1 : (cs.toList.set o v).take (o + 1) = cs.toList.take o ++ [v] := by
      rw [List.take_succ_eq_append_getElem (by simpa using ho), List.getElem_set_self, List.take_set, List.set_eq_of_length_le (by simp; omega)]
    rw [e1, List.drop_set_of_lt (by omega)]
    simp only [List.length_cons, List.append_assoc, List.singleton_append, List.cons_append, List.nil_append]
    congr 4
    omega
theorem setCells_blk : ∀ (vs : List Value) {w : World} {b o t : Nat} {cs : Array Value} {f : Nat × Nat}, w.heap[b]? = some (.cells cs t f) → (w.setCells b o vs).heap[b]? = some (.cells (laid cs o vs) t f)
  | [], _, _, _, _, _, _, h => h
  | v :: r, _, _, _, _, _, _, h => setCells_blk r (setCell_blk h v)
theorem Fr.setCells {S : Nat → Prop} {a : World} {g : Nat} (hp : S g ∨ a.heap.size ≤ g) : ∀ (vs : List Value) {b : World} (o : Nat), Fr S a b → Fr S a (b.setCells g o vs)
  | [], _, _, h => h
  | v :: r, _, o, h => Fr.setCells hp r (o + 1) (h.setCell (p := ⟨g, o, none⟩) hp v)

theorem run_clear_cells {P : Program} (w : World) (t e ty : TypeId) (z : Value) (ht : P.underlying t = some (.slice e)) (hv : ∀ w, (zeroValue e).run P w = .ok z w) (n : Nat) (hn : 0 < n) (b o c : Nat) (vs : List Value) (hvs : (Builtin.zeroCells z.cells n).toList = vs) (h1 : ∀ v ∈ vs, v.oneCell' = true)
    (hc : ∀ j, j < vs.length → (w.cell? ⟨b, o + j, none⟩).isSome = true) (hf : ∀ j, j < vs.length → w.frozen? ⟨b, o + j, none⟩ = false) :
    (Builtin.clear_ #[t] ty #[.slice (some ⟨b, o, none⟩) n c]).run P w = .ok (.tuple #[]) (w.setCells b o vs) := by
  have hst := run_storeCells_cells (P := P) b o vs 0 w (by simpa using hc) (by simpa using hf) h1
  simp only [Nat.add_zero] at hst
  obtain ⟨m, rfl⟩ : ∃ m, n = m + 1 := ⟨n - 1, by omega⟩
  simp [Builtin.clear_, run_underlying ht, hv, hvs, hst]

section
variable {α : Type} {ti sz : Nat} {enc : α → List Value}
theorem erase_split {r : Room α} {k : Nat} (h : k < r.length) : r.eraseIdx k = r.take k ++ r.drop (k + 1) := List.eraseIdx_eq_take_drop_succ _ _
theorem roomCells_cut (hs : ∀ v : α, (enc v).length + 1 = sz) (r : Room α) (k : Nat) : (roomCells enc r).take (k * sz) = roomCells enc (r.take k) := by
  by_cases h : k ≤ r.length
  · have e : roomCells enc r = roomCells enc (r.take k) ++ roomCells enc (r.drop k) := by rw [← roomCells_append, List.take_append_drop]
    have hl : k * sz = (roomCells enc (r.take k)).length := by rw [roomCells_length hs, List.length_take, Nat.min_eq_left h]
    rw [e, hl, List.take_left]
  · have hk : r.length ≤ k := by omega
    rw [List.take_of_length_le (by rw [roomCells_length hs]; exact Nat.mul_le_mul_right _ hk), List.take_of_length_le hk]

/-- What a walk asks of the cells ahead, and what it leaves. -/
theorem room_cells {w : World} {g cap : Nat} {r : Room α} (hs : ∀ v : α, (enc v).length + 1 = sz) (h : RoomAt ti sz enc w (.slice (some ⟨g, 0, none⟩) r.length (cap + 1)) r) :
    ∃ cur, w.heap[g]? = some (.cells cur ti (0, 0)) ∧ r.length ≤ cap + 1 ∧ cap + 1 ≤ maxLen ∧ cur.size = (cap + 1) * sz ∧ cur.toList.take (r.length * sz) = roomCells enc r := by
  rcases h with ⟨_, A, e⟩ | ⟨g', cap', cur, e, hg, hl, hm, hc, ht⟩
  · injection e with _ _ e; omega
  · injection e with e1 e2 e3
    injection e1 with e1
    injection e1 with e1
    subst e1
    obtain rfl : cap = cap' := by omega
    exact ⟨cur, hg, hl, hm, hc, ht⟩

theorem room_erase {w : World} {g cap k : Nat} {r : Room α} {zs : List Value} (hs : ∀ v : α, (enc v).length + 1 = sz) (h : RoomAt ti sz enc w (.slice (some ⟨g, 0, none⟩) r.length (cap + 1)) r) (hk : k < r.length) (hz : zs.length = sz) :
    RoomAt ti sz enc ((w.setCells g (k * sz) (roomCells enc (r.drop (k + 1)))).setCells g ((r.length - 1) * sz) zs) (.slice (some ⟨g, 0, none⟩) (r.length - 1) (cap + 1)) (r.eraseIdx k) := by
  obtain ⟨cur, hg, hl, hm, hc, ht⟩ := room_cells hs h
  have szl : ∀ a : Array Value, a.toList.length = a.size := fun a => a.length_toList
  have hlen : (r.eraseIdx k).length = r.length - 1 := by rw [List.length_eraseIdx, if_pos hk]
  have hnl : (roomCells enc (r.drop (k + 1))).length = (r.length - (k + 1)) * sz := by rw [roomCells_length hs, List.length_drop]
  have h1 : k * sz + (r.length - (k + 1)) * sz = (r.length - 1) * sz := by rw [← Nat.add_mul]; congr 1; omega
  have h2 : (r.length - 1) * sz + sz = r.length * sz := by rw [← Nat.succ_mul]; congr 1; omega
  have h3 : r.length * sz ≤ cur.size := by rw [hc]; exact Nat.mul_le_mul_right _ hl
  refine .inr ⟨g, cap, _, by rw [hlen], setCells_blk _ (setCells_blk _ hg), by omega, hm, by rw [laid_size, laid_size, hc], ?_⟩
  rw [hlen, laid_list _ _ _ (by rw [laid_size, hz]; omega), List.append_assoc, List.take_append_of_le_length (by rw [List.length_take, szl, laid_size]; omega), List.take_take, Nat.min_self]
  rw [laid_list _ _ _ (by rw [hnl]; omega), List.take_append_of_le_length (by rw [List.length_append, List.length_take, szl, hnl]; omega)]
  have e : cur.toList.take (k * sz) = roomCells enc (r.take k) := by
    rw [← roomCells_cut hs, ← ht, List.take_take, Nat.min_eq_left (Nat.mul_le_mul_right _ (by omega))]
  rw [e, ← roomCells_append, ← erase_split hk, List.take_of_length_le (by rw [roomCells_length hs, hlen]; exact Nat.le_refl _)]
end
end Go.Proofs.YtflndbgaidhbaaaDoor
