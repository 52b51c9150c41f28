/-
  A room copied. Of no function.
-/
import Derived.Test.YtflndbgaidhbaaaDoorMem5
namespace Go.Proofs.YtflndbgaidhbaaaDoor
open Go.RowKit Dm
section
variable {α : Type} {ti sz : Nat} {enc : α → List Value}
theorem room_of_own0 {w : World} {B : Nat} {v : Value} {r : Room α} (h : w.ownsRow B ti sz v r.length (roomCells enc r)) : RoomAt ti sz enc w v r ∧ ∀ b, rb v = some b → B ≤ b := by
  rcases h.2 with ⟨rfl, h0⟩ | ⟨g, cap, cur, rfl, hb, hg, hl, hm, hc, ht⟩
  · exact ⟨.inl ⟨List.length_eq_zero_iff.1 h0, none, rfl⟩, fun b hb => by simp [rb] at hb⟩
  · cases cap with
    | zero =>
      have hr : r = [] := List.length_eq_zero_iff.1 (by omega)
      subst hr
      exact ⟨.inl ⟨rfl, _, rfl⟩, fun b hb => by simp [rb] at hb⟩
    | succ c =>
      refine ⟨.inr ⟨g, c, cur, rfl, hg, hl, hm, hc, ht⟩, fun b hb' => ?_⟩
      obtain rfl : g = b := by simpa [rb] using hb'
      exact hb
end
end Go.Proofs.YtflndbgaidhbaaaDoor
