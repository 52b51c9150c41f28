/-
  Slices.Clone at a room and at a table, walked. Conditions: those that each theorem states.
-/
import Derived.Test.YtflndbgaidhbaaaDoorX10
import Derived.Test.YtflndbgaidhbaaaDoorMem6
import Derived.Lib.Walk
import Derived.Lib.SliceRun
namespace Go.Proofs.YtflndbgaidhbaaaDoor
open Go.RowKit Dm

theorem info72 : (Tryd.prog.info? 72).map (fun i => (i.zero, i.size, i.bytes)) = some (some (.slice none 0 0), 1, 24) := by kernel_rfl

set_option maxHeartbeats 3200000 in
set_option maxRecDepth 100000 in
/-- slices.Clone of a room, at an address. -/
theorem sclone_own (a : Addr) (n c : Nat) (cells : List Value) (w : World) (hl : cells.length = n * 2) (hn : n ≤ 400000) (hc : ∀ j u, cells[j]? = some u → w.cell? (a.add j) = some u) (h1 : ∀ u ∈ cells, u.oneCell' = true) :
    Calls Tryd.prog 49 #[.slice (some a) n c] w fun e w' => ∃ v', e = .returned v' ∧ w'.ownsRow w.heap.size 82 2 v' n cells ∧ Below w.heap.size w w' := by
  obtain ⟨i0, hi, hz0, hz1, hz2⟩ := info_parts info82
  have HC := Lib.hid hc
  have HL := Lib.hid hl
  have H1 := Lib.hid h1
  clear hc hl h1
  have q : ∀ (w : World) (a : Option Addr) (n c n' c' : Nat), (binOp .eql 80 (.slice a n c) (.slice none n' c')).run Tryd.prog w = .ok (.bool a.isNone) w := fun w a n c n' c' => Lib.run_eql_slice_nil w _ _ a n c n' c' Tryd.underlying80
  go_enter Tryd.func49, Tryd.ntmps49
  go_wp2_with (at_builtin; refine wpList_append_own _ rfl _ _ 80 rfl w.heap.size 82 i0 _ 2 24 Tryd.underlying80 hi hz0 hz1 hz2 rfl (by decide) _ _ _ rfl (World.ownsRow_made w #[] 0 (Nat.le_refl _) (Nat.zero_le _) rfl) a n c cells rfl ?qc1 ?qc2 ?qc3 ?qc4 ?qc5 ?qc6 ?_)
  case qc1 => exact HL.out
  case qc2 =>
    intro j u hj
    exact Lib.cell?_alloc_some _ (HC.out j u hj)
  case qc3 => exact H1.out
  case qc4 => unfold maxLen; omega
  case qc5 => omega
  case qc6 => simp
  intro v' w1 hown hgrow hnil
  go_wp2
  go_ret
  refine ⟨v', rfl, by simpa using hown, ?_⟩
  exact ((Below.refl _ w).alloc (Nat.le_refl _) _).grown hgrow (by simp) (by intro k hk; simp [Value.ownBlock] at hk; omega)

set_option maxHeartbeats 3200000 in
set_option maxRecDepth 100000 in
theorem sclone_nil (n c : Nat) (w : World) : Calls Tryd.prog 49 #[.slice none n c] w fun e w' => e = .returned (.slice none 0 0) ∧ w' = w := by
  have q : ∀ (w : World) (a : Option Addr) (n c n' c' : Nat), (binOp .eql 80 (.slice a n c) (.slice none n' c')).run Tryd.prog w = .ok (.bool a.isNone) w := fun w a n c n' c' => Lib.run_eql_slice_nil w _ _ a n c n' c' Tryd.underlying80
  go_enter Tryd.func49, Tryd.ntmps49
  go_wp2
  go_ret
  exact ⟨rfl, rfl⟩

/-- slices.Clone of a room. -/
theorem sclone_any (u : Value) (r : Room Int) (w : World) (hr : RoomAt 82 2 KI.enc w u r) (hl : r.length ≤ 400000) :
    Calls Tryd.prog 49 #[u] w fun e w' => ∃ u', e = .returned u' ∧ RoomAt 82 2 KI.enc w' u' r ∧ (∀ b, rb u' = some b → w.heap.size ≤ b) ∧ Below w.heap.size w w' := by
  have go : ∀ (a : Addr) (c : Nat), (∀ j v, (roomCells KI.enc r)[j]? = some v → w.cell? (a.add j) = some v) → Calls Tryd.prog 49 #[.slice (some a) r.length c] w fun e w' => ∃ u', e = .returned u' ∧ RoomAt 82 2 KI.enc w' u' r ∧ (∀ b, rb u' = some b → w.heap.size ≤ b) ∧ Below w.heap.size w w' := by
    intro a c hc
    refine (sclone_own a r.length c (roomCells KI.enc r) w (roomCells_length KI.hs r) hl hc ?_).mono ?_
    · intro v hv
      unfold roomCells at hv
      obtain ⟨x, _, hx⟩ := List.mem_flatMap.1 hv
      rcases List.mem_cons.1 hx with rfl | hx
      · rfl
      · exact KI.h1 _ v hx
    · rintro e w' ⟨v', rfl, ho, hb⟩
      obtain ⟨h1, h2⟩ := room_of_own0 ho
      exact ⟨v', rfl, h1, h2, hb⟩
  rcases hr with ⟨rfl, A, rfl⟩ | ⟨g, cap, cur, rfl, hg, hle, hm, hc, ht⟩
  · cases A with
    | none =>
      refine (sclone_nil 0 0 w).mono ?_
      rintro e w' ⟨rfl, rfl⟩
      exact ⟨_, rfl, room_nil _, fun b hb => by simp [rb] at hb, Below.refl _ _⟩
    | some a => exact go a 0 (fun j v h => by simp [roomCells] at h)
  · refine go ⟨g, 0, none⟩ (cap + 1) fun j v h => ?_
    rw [← ht, List.getElem?_take] at h
    rw [Addr.add_lit, Nat.zero_add, cell_of_row w g _ cur 82 (0, 0) hg]
    split at h
    · simpa using h
    · simp at h

set_option maxHeartbeats 3200000 in
set_option maxRecDepth 100000 in
/-- slices.Clone of a table. -/
theorem tclone_any (g n c : Nat) (cur : Array Value) (w : World) (hg : w.heap[g]? = some (.cells cur 80 (0, 0))) (hn : n ≤ cur.size) (hl : n ≤ 500000) (h1 : ∀ u ∈ cur.toList.take n, u.oneCell' = true) :
    Calls Tryd.prog 48 #[.slice (some ⟨g, 0, none⟩) n c] w fun e w' => ∃ v', e = .returned v' ∧ w'.ownsRow w.heap.size 80 1 v' n (cur.toList.take n) ∧ Below w.heap.size w w' := by
  obtain ⟨i0, hi, hz0, hz1, hz2⟩ := info_parts info80
  have HG := Lib.hid hg
  have HN := Lib.hid hn
  have H1 := Lib.hid h1
  clear hg hn h1
  have q : ∀ (w : World) (a : Option Addr) (n c n' c' : Nat), (binOp .eql 72 (.slice a n c) (.slice none n' c')).run Tryd.prog w = .ok (.bool a.isNone) w := fun w a n c n' c' => Lib.run_eql_slice_nil w _ _ a n c n' c' Tryd.underlying72
  go_enter Tryd.func48, Tryd.ntmps48
  go_wp2_with (at_builtin; refine wpList_append_own _ rfl _ _ 72 rfl w.heap.size 80 i0 _ 1 24 Tryd.underlying72 hi hz0 hz1 hz2 rfl (by decide) _ _ _ rfl (World.ownsRow_made w #[] 0 (Nat.le_refl _) (Nat.zero_le _) rfl) ⟨g, 0, none⟩ n c (cur.toList.take n) rfl ?qc1 ?qc2 ?qc3 ?qc4 ?qc5 ?qc6 ?_)
  case qc1 => have := HN.out; simp; omega
  case qc2 =>
    intro j u hj
    refine Lib.cell?_alloc_some _ ?_
    rw [Addr.add_lit, Nat.zero_add, cell_of_row w g _ cur 80 (0, 0) HG.out]
    rw [List.getElem?_take] at hj
    split at hj
    · simpa using hj
    · simp at hj
  case qc3 => exact H1.out
  case qc4 => unfold maxLen; omega
  case qc5 => omega
  case qc6 => simp
  intro v' w1 hown hgrow hnil
  go_wp2
  go_ret
  refine ⟨v', rfl, by simpa using hown, ?_⟩
  exact ((Below.refl _ w).alloc (Nat.le_refl _) _).grown hgrow (by simp) (by intro k hk; simp [Value.ownBlock] at hk; omega)

set_option maxHeartbeats 3200000 in
set_option maxRecDepth 100000 in
theorem tclone_nil (n c : Nat) (w : World) : Calls Tryd.prog 48 #[.slice none n c] w fun e w' => e = .returned (.slice none 0 0) ∧ w' = w := by
  have q : ∀ (w : World) (a : Option Addr) (n c n' c' : Nat), (binOp .eql 72 (.slice a n c) (.slice none n' c')).run Tryd.prog w = .ok (.bool a.isNone) w := fun w a n c n' c' => Lib.run_eql_slice_nil w _ _ a n c n' c' Tryd.underlying72
  go_enter Tryd.func48, Tryd.ntmps48
  go_wp2
  go_ret
  exact ⟨rfl, rfl⟩
end Go.Proofs.YtflndbgaidhbaaaDoor
