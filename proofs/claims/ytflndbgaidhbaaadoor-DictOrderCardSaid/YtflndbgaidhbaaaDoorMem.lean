/-
  How a dict lies in memory: its own block, the tables' blocks, the rooms' blocks, none of them twice; what a write into one of them leaves of the rest. Of no function.
-/
import Derived.Below
import Derived.Deep.AppendLies
import Derived.ArgAppend
import Derived.OneCell
import Derived.Deep.Draws
import Derived.Sort.EncStr
import Derived.Test.YtflndbgaidhbaaaDoorDm
namespace Go.Proofs.YtflndbgaidhbaaaDoor
open Go.RowKit Dm

/-! ### What may have turned -/
/-- Of the blocks that were there, those of S alone may have turned. -/
structure Fr (S : Nat → Prop) (w w' : World) : Prop where
  os : w'.os = w.os
  tape : w'.tape = w.tape
  output : w'.output = w.output
  size : w.heap.size ≤ w'.heap.size
  block : ∀ k, k < w.heap.size → ¬ S k → w'.heap[k]? = w.heap[k]?

section
variable {S S' : Nat → Prop} {a b c w w' : World}
theorem Fr.refl (S : Nat → Prop) (w : World) : Fr S w w := ⟨rfl, rfl, rfl, Nat.le_refl _, fun _ _ _ => rfl⟩
theorem Fr.trans (h : Fr S a b) (k : Fr S' b c) (hs : ∀ i, S' i → S i ∨ a.heap.size ≤ i) : Fr S a c :=
  ⟨k.os.trans h.os, k.tape.trans h.tape, k.output.trans h.output, Nat.le_trans h.size k.size,
    fun i hi hn => (k.block i (Nat.lt_of_lt_of_le hi h.size) (fun e => by rcases hs i e with h1 | h1; exact hn h1; omega)).trans (h.block i hi hn)⟩
theorem Fr.mono (h : Fr S a b) (hs : ∀ i, S i → S' i) : Fr S' a b := ⟨h.os, h.tape, h.output, h.size, fun k hk hn => h.block k hk (fun e => hn (hs k e))⟩
theorem Fr.of_below (h : Below a.heap.size a b) (S : Nat → Prop) : Fr S a b := ⟨h.os, h.tape, h.output, h.size, fun k hk _ => h.block k hk⟩
theorem Fr.then (h : Fr S a b) (k : Below b.heap.size b c) : Fr S a c := h.trans (Fr.of_below k S) (fun _ => Or.inl)
theorem Fr.below {B : Nat} (h : Fr S a b) (hS : ∀ i, S i → B ≤ i) (hB : B ≤ a.heap.size) : Below B a b :=
  ⟨h.os, h.tape, h.output, h.size, fun k hk => h.block k (by omega) (fun e => by have := hS k e; omega)⟩
theorem Fr.of_grown {row : Option Nat} (h : a.grownBy b row) : Fr (fun k => row = some k) a b := ⟨h.os, h.tape, h.output, h.size, fun k hk hn => h.block k hk (fun e => hn e.symm)⟩
theorem Fr.grown {row : Option Nat} (h : Fr S a b) (k : b.grownBy c row) (hs : ∀ i, row = some i → S i ∨ a.heap.size ≤ i) : Fr S a c := h.trans (Fr.of_grown k) hs
theorem Fr.setCell (h : Fr S a b) {p : Addr} (hp : S p.block ∨ a.heap.size ≤ p.block) (u : Value) : Fr S a (b.setCell p u) :=
  h.trans (S' := fun k => k = p.block) ⟨rfl, rfl, rfl, by simp [World.setCell], fun k _ hk => Below.heap_setCell _ _ _ _ hk⟩ (fun i e => by subst e; exact hp)
theorem Fr.alloc (h : Fr S a b) (o : Obj) : Fr S a (b.alloc o) := h.then ((Below.refl _ b).alloc (Nat.le_refl _) o)
theorem Fr.drewN (h : Fr S a b) (n : Nat) : Fr S a (b.drewN n) := ⟨h.os, h.tape, h.output, h.size, h.block⟩
theorem Fr.drew (h : Fr S a b) : Fr S a b.drew := ⟨h.os, h.tape, h.output, h.size, h.block⟩
theorem Fr.cell (h : Fr S a b) {p : Addr} {v : Value} (hc : a.cell? p = some v) (hn : ¬ S p.block) : b.cell? p = some v :=
  (World.cell?_of_block (h.block p.block (World.block_lt_of_cell? a p hc) hn)).trans hc
end

theorem lt_of_heap {w : World} {g : Nat} {o : Obj} (h : w.heap[g]? = some o) : g < w.heap.size := (Array.getElem?_eq_some_iff.1 h).1

/-! ### A room: nil, or empty without room behind any address, or a row of its own -/
section
variable {α : Type} (ti sz : Nat) (enc : α → List Value)

/-- An item's cells: the name, then the value's. -/
def itemCells (x : Nm × α) : List Value := encStr x.1 :: enc x.2
def roomCells (r : Room α) : List Value := r.flatMap (itemCells enc)

/-- The block of a room that has one. -/
def rb : Value → Option Nat
  | .slice (some a) _ (_ + 1) => some a.block
  | _ => none

def RoomAt (w : World) (v : Value) (r : Room α) : Prop :=
  (r = [] ∧ ∃ A, v = .slice A 0 0) ∨
  ∃ g cap cur, v = .slice (some ⟨g, 0, none⟩) r.length (cap + 1) ∧ w.heap[g]? = some (.cells cur ti (0, 0)) ∧ r.length ≤ cap + 1 ∧ cap + 1 ≤ maxLen ∧ cur.size = (cap + 1) * sz ∧ cur.toList.take (r.length * sz) = roomCells enc r

variable {ti sz enc}
theorem room_nil (w : World) : RoomAt ti sz enc w (.slice none 0 0) [] := .inl ⟨rfl, none, rfl⟩
theorem RoomAt.kept {w w' : World} {v : Value} {r : Room α} (h : RoomAt ti sz enc w v r) (hk : ∀ b, rb v = some b → w'.heap[b]? = w.heap[b]?) : RoomAt ti sz enc w' v r := by
  rcases h with h | ⟨g, cap, cur, rfl, hg, rest⟩
  · exact .inl h
  · exact .inr ⟨g, cap, cur, rfl, (hk g rfl).trans hg, rest⟩
theorem RoomAt.lt {w : World} {v : Value} {r : Room α} (h : RoomAt ti sz enc w v r) {b : Nat} (hb : rb v = some b) : b < w.heap.size ∧ ∃ cur, w.heap[b]? = some (.cells cur ti (0, 0)) := by
  rcases h with ⟨_, A, rfl⟩ | ⟨g, cap, cur, rfl, hg, rest⟩
  · cases A <;> simp [rb] at hb
  · obtain rfl : g = b := by simpa [rb] using hb
    exact ⟨lt_of_heap hg, cur, hg⟩
theorem RoomAt.shape {w : World} {v : Value} {r : Room α} (h : RoomAt ti sz enc w v r) : ∃ A c, v = .slice A r.length c ∧ r.length ≤ c ∧ (0 < r.length → ∃ g, A = some ⟨g, 0, none⟩ ∧ rb v = some g) := by
  rcases h with ⟨rfl, A, rfl⟩ | ⟨g, cap, cur, rfl, hg, hl, _⟩
  · exact ⟨A, 0, rfl, Nat.le_refl _, fun hp => absurd hp (by simp)⟩
  · exact ⟨_, _, rfl, hl, fun _ => ⟨g, rfl, rfl⟩⟩

theorem roomCells_length (hs : ∀ v : α, (enc v).length + 1 = sz) (r : Room α) : (roomCells enc r).length = r.length * sz := by
  unfold roomCells
  induction r with
  | nil => simp
  | cons x r ih => rw [List.flatMap_cons, List.length_append, ih]; simp only [itemCells, List.length_cons, hs]; rw [Nat.succ_mul]; omega
theorem roomCells_append (r r' : Room α) : roomCells enc (r ++ r') = roomCells enc r ++ roomCells enc r' := by simp [roomCells]
theorem roomCells_one (x : Nm × α) : roomCells enc [x] = itemCells enc x := by simp [roomCells]
theorem roomCells_get (hs : ∀ v : α, (enc v).length + 1 = sz) : ∀ (r : Room α) (j : Nat) (x : Nm × α), r[j]? = some x → ∀ i u, (itemCells enc x)[i]? = some u → (roomCells enc r)[j * sz + i]? = some u
  | [], j, x, h, _, _, _ => by simp at h
  | y :: r, 0, x, h, i, u, hu => by
    obtain rfl : y = x := by simpa using h
    have hi : i < (itemCells enc y).length := (List.getElem?_eq_some_iff.1 hu).1
    unfold roomCells
    rw [List.flatMap_cons, Nat.zero_mul, Nat.zero_add, List.getElem?_append_left hi]
    exact hu
  | y :: r, j + 1, x, h, i, u, hu => by
    have ih := roomCells_get hs r j x (by simpa using h) i u hu
    have hl : (itemCells enc y).length = sz := by simp [itemCells, hs]
    unfold roomCells at ih ⊢
    rw [List.flatMap_cons, List.getElem?_append_right (by rw [hl, Nat.succ_mul]; omega), hl]
    have e : (j + 1) * sz + i - sz = j * sz + i := by rw [Nat.succ_mul]; omega
    rw [e]
    exact ih

/-- What is read of a room: item j's cells. -/
theorem RoomAt.item {w : World} {v : Value} {r : Room α} (h : RoomAt ti sz enc w v r) (hs : ∀ v : α, (enc v).length + 1 = sz) {j : Nat} {x : Nm × α} (hj : r[j]? = some x) :
    ∃ g cap, v = .slice (some ⟨g, 0, none⟩) r.length cap ∧ rb v = some g ∧ ∀ i u, (itemCells enc x)[i]? = some u → w.cell? ⟨g, j * sz + i, none⟩ = some u ∧ w.frozen? ⟨g, j * sz + i, none⟩ = false := by
  have hjl : j < r.length := (List.getElem?_eq_some_iff.1 hj).1
  rcases h with ⟨rfl, _⟩ | ⟨g, cap, cur, rfl, hg, hl, hm, hc, ht⟩
  · simp at hj
  · refine ⟨g, cap + 1, rfl, rfl, fun i u hu => ?_⟩
    have h1 := roomCells_get hs r j x hj i u hu
    rw [← ht, List.getElem?_take] at h1
    have h2 : cur[j * sz + i]? = some u := by
      split at h1
      · simpa using h1
      · simp at h1
    refine ⟨?_, ?_⟩
    · rw [cell_of_row w g (j * sz + i) cur ti (0, 0) hg]; exact h2
    · simp [World.frozen?, hg]

/-! ### Tables -/
def TabAt (ti sz tr : Nat) (enc : α → List Value) (w : World) (g : Nat) (cur : Array Value) (t : List (Room α)) : Prop :=
  w.heap[g]? = some (.cells cur tr (0, 0)) ∧ t.length ≤ cur.size ∧ cur.size ≤ maxLen ∧ ∀ (i : Nat) (r : Room α), t[i]? = some r → ∃ u, cur[i]? = some u ∧ RoomAt ti sz enc w u r
/-- The rooms' blocks. -/
def In (cur : Array Value) (n b : Nat) : Prop := ∃ (i : Nat) (u : Value), i < n ∧ cur[i]? = some u ∧ rb u = some b
def Ap (cur : Array Value) (n : Nat) : Prop := ∀ (i j : Nat) (u u' : Value) (b : Nat), i < n → j < n → cur[i]? = some u → cur[j]? = some u' → rb u = some b → rb u' = some b → i = j

variable {tr : Nat}
theorem TabAt.kept {w w' : World} {g : Nat} {cur : Array Value} {t : List (Room α)} (h : TabAt ti sz tr enc w g cur t) (hg : w'.heap[g]? = w.heap[g]?) (hk : ∀ b, In cur t.length b → w'.heap[b]? = w.heap[b]?) : TabAt ti sz tr enc w' g cur t := by
  obtain ⟨h1, h2, h3, h4⟩ := h
  refine ⟨hg.trans h1, h2, h3, fun i r hi => ?_⟩
  obtain ⟨u, hu, hr⟩ := h4 i r hi
  exact ⟨u, hu, hr.kept fun b hb => hk b ⟨i, u, (List.getElem?_eq_some_iff.1 hi).1, hu, hb⟩⟩
theorem TabAt.lt {w : World} {g : Nat} {cur : Array Value} {t : List (Room α)} (h : TabAt ti sz tr enc w g cur t) {b : Nat} (hb : In cur t.length b) : b < w.heap.size ∧ ∃ c, w.heap[b]? = some (.cells c ti (0, 0)) := by
  obtain ⟨i, u, hi, hu, he⟩ := hb
  obtain ⟨u', hu', hr⟩ := h.2.2.2 i _ (List.getElem?_eq_getElem hi)
  obtain rfl : u = u' := by rw [hu] at hu'; exact Option.some.inj hu'
  exact hr.lt he
/-- Room i of a table. -/
theorem TabAt.room {w : World} {g : Nat} {cur : Array Value} {t : List (Room α)} (h : TabAt ti sz tr enc w g cur t) {i : Nat} {r : Room α} (hi : t[i]? = some r) :
    ∃ u, cur[i]? = some u ∧ RoomAt ti sz enc w u r ∧ w.cell? ⟨g, i, none⟩ = some u ∧ w.frozen? ⟨g, i, none⟩ = false := by
  obtain ⟨h1, h2, h3, h4⟩ := h
  obtain ⟨u, hu, hr⟩ := h4 i r hi
  refine ⟨u, hu, hr, ?_, ?_⟩
  · rw [cell_of_row w g i cur tr (0, 0) h1]; exact hu
  · simp [World.frozen?, h1]
theorem get_set_ne {cur : Array Value} {i j : Nat} (u : Value) (h : i ≠ j) : (cur.setIfInBounds i u)[j]? = cur[j]? := by rw [Array.getElem?_setIfInBounds, if_neg h]
theorem get_set_eq {cur : Array Value} {i : Nat} (u : Value) (h : i < cur.size) : (cur.setIfInBounds i u)[i]? = some u := by rw [Array.getElem?_setIfInBounds, if_pos rfl, if_pos h]
/-- Room i has been turned. -/
theorem TabAt.set_ {w w' : World} {g : Nat} {cur : Array Value} {t : List (Room α)} {i : Nat} {u u' : Value} {r' : Room α} (h : TabAt ti sz tr enc w g cur t) (hap : Ap cur t.length)
    (hi : i < t.length) (hu : cur[i]? = some u) (hg : w'.heap[g]? = some (.cells (cur.setIfInBounds i u') tr (0, 0))) (hr : RoomAt ti sz enc w' u' r')
    (hk : ∀ b, In cur t.length b → rb u ≠ some b → w'.heap[b]? = w.heap[b]?) : TabAt ti sz tr enc w' g (cur.setIfInBounds i u') (t.set i r') := by
  obtain ⟨h1, h2, h3, h4⟩ := h
  refine ⟨hg, by simpa using h2, by simpa using h3, fun j s hj => ?_⟩
  rw [List.getElem?_set] at hj
  by_cases e : i = j
  · subst e
    rw [if_pos rfl, if_pos hi] at hj
    obtain rfl := Option.some.inj hj
    exact ⟨u', get_set_eq u' (by omega), hr⟩
  · rw [if_neg e] at hj
    have hjl : j < t.length := (List.getElem?_eq_some_iff.1 hj).1
    obtain ⟨v, hv, hs⟩ := h4 j s hj
    exact ⟨v, by rw [get_set_ne u' e]; exact hv, hs.kept fun b hb => hk b ⟨j, v, hjl, hv, hb⟩ (fun e' => e (hap i j u v b hi hjl hu hv e' hb))⟩
theorem In.set_ {cur : Array Value} {n i b : Nat} {u u' : Value} (hu : cur[i]? = some u) (h : In (cur.setIfInBounds i u') n b) : (In cur n b ∧ ∃ j v, j < n ∧ j ≠ i ∧ cur[j]? = some v ∧ rb v = some b) ∨ (i < n ∧ rb u' = some b) := by
  obtain ⟨j, v, hj, hv, hb⟩ := h
  by_cases e : i = j
  · subst e
    rw [get_set_eq u' (Array.getElem?_eq_some_iff.1 hu).1] at hv
    obtain rfl := Option.some.inj hv
    exact .inr ⟨hj, hb⟩
  · rw [get_set_ne u' e] at hv
    exact .inl ⟨⟨j, v, hj, hv, hb⟩, j, v, hj, Ne.symm e, hv, hb⟩
/-- The new value's block is the old one's, or none, or one that no room has. -/
theorem Ap.set_ {cur : Array Value} {n i : Nat} {u u' : Value} (h : Ap cur n) (hi : i < n) (hu : cur[i]? = some u) (hn : ∀ b, rb u' = some b → rb u = some b ∨ ¬ In cur n b) : Ap (cur.setIfInBounds i u') n := by
  intro j k v v' b hj hk hv hv' hb hb'
  have hlt := (Array.getElem?_eq_some_iff.1 hu).1
  have key : ∀ m x, m < n → i ≠ m → cur[m]? = some x → rb x = some b → rb u' = some b → False := fun m x hm hne hx hxb hb1 => by
    rcases hn b hb1 with h1 | h1
    · exact hne (h i m u x b hi hm hu hx h1 hxb)
    · exact h1 ⟨m, x, hm, hx, hxb⟩
  by_cases ej : i = j
  · by_cases ek : i = k
    · omega
    · subst ej
      rw [get_set_eq u' hlt] at hv
      obtain rfl := Option.some.inj hv
      rw [get_set_ne _ ek] at hv'
      exact (key k v' hk ek hv' hb' hb).elim
  · rw [get_set_ne u' ej] at hv
    by_cases ek : i = k
    · subst ek
      rw [get_set_eq u' hlt] at hv'
      obtain rfl := Option.some.inj hv'
      exact (key j v hj ej hv hb hb').elim
    · rw [get_set_ne u' ek] at hv'
      exact h j k v v' b hj hk hv hv' hb hb'
end
end Go.Proofs.YtflndbgaidhbaaaDoor
