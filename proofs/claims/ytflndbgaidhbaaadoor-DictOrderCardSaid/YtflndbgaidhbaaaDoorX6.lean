/-
  New, walked: a dict of memory of its own. Conditions: those that each theorem states.
-/
import Derived.Test.YtflndbgaidhbaaaDoorX5
namespace Go.Proofs.YtflndbgaidhbaaaDoor
open Go.RowKit Dm

/-- A dict that a call has made. -/
def Fresh {α : Type} (K : Ty α) (w : World) (L : Lo) (d : D α) (w' : World) : Prop := DictAt K w' L d ∧ Below w.heap.size w w' ∧ ∀ b, foot L d b → w.heap.size ≤ b
def Made {α : Type} (K : Ty α) (d : D α) (w : World) (e : Ending) (w' : World) : Prop := ∃ L : Lo, e = .returned (.pointer (some ⟨L.bp, 0, none⟩)) ∧ Fresh K w L d w'

theorem new_made {w w' : World} (hw : w' = (w.alloc (.cells (madeCells #[Value.slice none 0 0] 4) 80)).alloc (.cells #[.slice (some ⟨w.heap.size, 0, none⟩) 4 4, .slice none 0 0, .int .i64 0, .int .i64 0] 74)) :
    Made KI (new : D Int) w (.returned (.pointer (some ⟨w.heap.size + 1, 0, none⟩))) w' := by
  have hb : Below w.heap.size w w' := by rw [hw]; exact ((Below.refl _ _).alloc (Nat.le_refl _) _).alloc (by simp) _
  have h1 : w'.heap[w.heap.size]? = some (.cells (madeCells #[Value.slice none 0 0] 4) 80 (0, 0)) := by
    rw [hw]; exact (Below.heap_alloc _ _ _ (by simp)).trans (heap_alloc_new w _)
  have h2 : w'.heap[w.heap.size + 1]? = some (.cells #[.slice (some ⟨w.heap.size, 0, none⟩) 4 4, .slice none 0 0, .int .i64 0, .int .i64 0] 74 (0, 0)) := by
    have := heap_alloc_new (w.alloc (.cells (madeCells #[Value.slice none 0 0] 4) 80)) (.cells #[.slice (some ⟨w.heap.size, 0, none⟩) 4 4, .slice none 0 0, .int .i64 0, .int .i64 0] 74)
    rw [World.size_alloc] at this
    rw [hw]; exact this
  refine ⟨⟨w.heap.size + 1, w.heap.size, 0, madeCells #[Value.slice none 0 0] 4, #[]⟩, rfl, ?_, hb, ?_⟩
  · refine ⟨?_, tab_new h1 (by omega), fun h => absurd rfl h, ?_, ?_, fun b h => absurd h in_new, fun h => absurd rfl h⟩
    · rw [h2]; simp [oldV, new, size_madeCells, KI]
    · intro i j u u' b hi hj hu hu' hb hb'
      exact absurd ⟨i, u, hi, hu, hb⟩ in_new
    · intro i j u u' b hi
      simp [new] at hi
  · rintro b (rfl | rfl | ⟨h, _⟩ | h | h)
    · exact Nat.le_succ _
    · exact Nat.le_refl _
    · exact absurd rfl h
    · exact absurd h in_new
    · exact absurd h in_nil

set_option maxHeartbeats 400000 in
theorem new_any (w : World) : Calls Tryd.prog 16 #[] w (Made KI (new : D Int) w) := by
  have hmk : ∀ w : World, Sem.run Tryd.prog (Instr.makeSlice 72 (.int .i64 4) (.int .i64 4)) w = .ok (.slice (some ⟨w.heap.size, 0, none⟩) 4 4) (w.alloc (.cells (madeCells #[Value.slice none 0 0] 4) 80)) :=
    run_make_row' (P := Tryd.prog) 72 80 (.slice none 0 0) 24 Tryd.underlying72 info80 rfl .i64 .i64 4 (by omega) (by omega)
  have HF := Lib.hid (new_made (w := w) rfl)
  go_enter Tryd.func16, Tryd.ntmps16
  go_wp2
  go_ret
  exact HF.out
end Go.Proofs.YtflndbgaidhbaaaDoor
