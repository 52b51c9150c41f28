/-
  New, Waiting and Next, walked. Conditions: those that each theorem states.
-/
import Derived.Test.YtjplobfacdcgcaaX3
import Derived.Carry
namespace Go.Proofs.Ytjplobfacdcgcaa
open Go.RowKit Go.Proofs.YtjplobfacdcgcaaW.PrintLast

set_option maxHeartbeats 800000 in
theorem new_any (S : Nat → Prop) (w : World) (hS : ∀ k, w.heap.size ≤ k → S k) :
    Calls Try.prog 8 #[] w fun e w' => ∃ bp b, e = .returned (.pointer (some ⟨bp, 0, none⟩)) ∧ w.heap.size ≤ bp ∧ w.heap.size ≤ b ∧ LkAt S w' bp b 0 [] ∧ Below w.heap.size w w' := by
  have hmm := @run_makeMap Try.prog
  have hfin : ∀ w', w' = (w.alloc (.map #[] 0)).alloc (.cells #[.map (some w.heap.size)] 53) → LkAt S w' (w.heap.size + 1) w.heap.size 0 [] ∧ Below w.heap.size w w' := by
    rintro w' rfl
    refine ⟨⟨?_, hS _ (by omega), fun y hy => by simp at hy, fun _ => none, (mpAt_made w).keep (Below.heap_alloc _ _ _ (by simp)), fun p => .inl ⟨rfl, rfl⟩⟩, ((Below.refl _ w).alloc (Nat.le_refl _) _).alloc (by simp) _⟩
    have := World.alloc_heap_new (w.alloc (.map #[] 0)) (.cells #[.map (some w.heap.size)] 53)
    rwa [World.size_alloc] at this
  have HF := Lib.hid hfin
  clear hfin hS
  go_enter Try.func8, Try.ntmps8
  go_wp2
  go_ret
  exact ⟨w.heap.size + 1, w.heap.size, by simp, by omega, by omega, HF.out _ rfl⟩

set_option maxHeartbeats 800000 in
theorem waiting_any (S : Nat → Prop) (bp b n : Nat) (ws : List Wy) (p1 p2 : Int) (w : World) (h : LkAt S w bp b n ws) (hp : Ok64 (p1, p2)) :
    Calls Try.prog 17 #[.pointer (some ⟨bp, 0, none⟩), .int .i64 p1, .int .i64 p2] w fun e w' => e = .returned (.int .i64 ((queue ws (p1, p2)).length : Int)) ∧ w = w' := by
  obtain ⟨vq, hlts, hlk⟩ := h.look hp
  obtain ⟨Aq, cq, rfl, _⟩ := hlts
  simp only [keyV] at hlk
  have hlk := hlk w rfl
  have hc := h.cell
  clear h
  go_enter Try.func17, Try.ntmps17
  go_wp2
  go_ret
  exact ⟨rfl, rfl⟩

set_option maxHeartbeats 3200000 in
/-- Thirteen cells stored. -/
theorem stored13 {W : World} {R : Nat} (h : W.heap[R]? = some (.cells #[.int .i64 0, .int .i64 0, .int .i64 0, .int .i64 0, .string ⟨#[]⟩, .string ⟨#[]⟩, .slice none 0 0, .int .i64 0, .int .i64 0, .string ⟨#[]⟩, .slice none 0 0, .bool false, .int .i64 0] 33 (0, 0))) (v0 v1 v2 v3 v4 v5 v6 v7 v8 v9 v10 v11 v12 : Value) :
    ((((((((((((((W.setCell ⟨R, 0, none⟩ v0).setCell ⟨R, 1, none⟩ v1).setCell ⟨R, 2, none⟩ v2).setCell ⟨R, 3, none⟩ v3).setCell ⟨R, 4, none⟩ v4).setCell ⟨R, 5, none⟩ v5).setCell ⟨R, 6, none⟩ v6).setCell ⟨R, 7, none⟩ v7).setCell ⟨R, 8, none⟩ v8).setCell ⟨R, 9, none⟩ v9).setCell ⟨R, 10, none⟩ v10).setCell ⟨R, 11, none⟩ v11).setCell ⟨R, 12, none⟩ v12)).cell? ⟨R, 0, none⟩ = some v0 ∧ ((((((((((((((W.setCell ⟨R, 0, none⟩ v0).setCell ⟨R, 1, none⟩ v1).setCell ⟨R, 2, none⟩ v2).setCell ⟨R, 3, none⟩ v3).setCell ⟨R, 4, none⟩ v4).setCell ⟨R, 5, none⟩ v5).setCell ⟨R, 6, none⟩ v6).setCell ⟨R, 7, none⟩ v7).setCell ⟨R, 8, none⟩ v8).setCell ⟨R, 9, none⟩ v9).setCell ⟨R, 10, none⟩ v10).setCell ⟨R, 11, none⟩ v11).setCell ⟨R, 12, none⟩ v12)).cell? ⟨R, 1, none⟩ = some v1 ∧ ((((((((((((((W.setCell ⟨R, 0, none⟩ v0).setCell ⟨R, 1, none⟩ v1).setCell ⟨R, 2, none⟩ v2).setCell ⟨R, 3, none⟩ v3).setCell ⟨R, 4, none⟩ v4).setCell ⟨R, 5, none⟩ v5).setCell ⟨R, 6, none⟩ v6).setCell ⟨R, 7, none⟩ v7).setCell ⟨R, 8, none⟩ v8).setCell ⟨R, 9, none⟩ v9).setCell ⟨R, 10, none⟩ v10).setCell ⟨R, 11, none⟩ v11).setCell ⟨R, 12, none⟩ v12)).cell? ⟨R, 2, none⟩ = some v2 ∧ ((((((((((((((W.setCell ⟨R, 0, none⟩ v0).setCell ⟨R, 1, none⟩ v1).setCell ⟨R, 2, none⟩ v2).setCell ⟨R, 3, none⟩ v3).setCell ⟨R, 4, none⟩ v4).setCell ⟨R, 5, none⟩ v5).setCell ⟨R, 6, none⟩ v6).setCell ⟨R, 7, none⟩ v7).setCell ⟨R, 8, none⟩ v8).setCell ⟨R, 9, none⟩ v9).setCell ⟨R, 10, none⟩ v10).setCell ⟨R, 11, none⟩ v11).setCell ⟨R, 12, none⟩ v12)).cell? ⟨R, 3, none⟩ = some v3 ∧ ((((((((((((((W.setCell ⟨R, 0, none⟩ v0).setCell ⟨R, 1, none⟩ v1).setCell ⟨R, 2, none⟩ v2).setCell ⟨R, 3, none⟩ v3).setCell ⟨R, 4, none⟩ v4).setCell ⟨R, 5, none⟩ v5).setCell ⟨R, 6, none⟩ v6).setCell ⟨R, 7, none⟩ v7).setCell ⟨R, 8, none⟩ v8).setCell ⟨R, 9, none⟩ v9).setCell ⟨R, 10, none⟩ v10).setCell ⟨R, 11, none⟩ v11).setCell ⟨R, 12, none⟩ v12)).cell? ⟨R, 4, none⟩ = some v4 ∧ ((((((((((((((W.setCell ⟨R, 0, none⟩ v0).setCell ⟨R, 1, none⟩ v1).setCell ⟨R, 2, none⟩ v2).setCell ⟨R, 3, none⟩ v3).setCell ⟨R, 4, none⟩ v4).setCell ⟨R, 5, none⟩ v5).setCell ⟨R, 6, none⟩ v6).setCell ⟨R, 7, none⟩ v7).setCell ⟨R, 8, none⟩ v8).setCell ⟨R, 9, none⟩ v9).setCell ⟨R, 10, none⟩ v10).setCell ⟨R, 11, none⟩ v11).setCell ⟨R, 12, none⟩ v12)).cell? ⟨R, 5, none⟩ = some v5 ∧ ((((((((((((((W.setCell ⟨R, 0, none⟩ v0).setCell ⟨R, 1, none⟩ v1).setCell ⟨R, 2, none⟩ v2).setCell ⟨R, 3, none⟩ v3).setCell ⟨R, 4, none⟩ v4).setCell ⟨R, 5, none⟩ v5).setCell ⟨R, 6, none⟩ v6).setCell ⟨R, 7, none⟩ v7).setCell ⟨R, 8, none⟩ v8).setCell ⟨R, 9, none⟩ v9).setCell ⟨R, 10, none⟩ v10).setCell ⟨R, 11, none⟩ v11).setCell ⟨R, 12, none⟩ v12)).cell? ⟨R, 6, none⟩ = some v6 ∧ ((((((((((((((W.setCell ⟨R, 0, none⟩ v0).setCell ⟨R, 1, none⟩ v1).setCell ⟨R, 2, none⟩ v2).setCell ⟨R, 3, none⟩ v3).setCell ⟨R, 4, none⟩ v4).setCell ⟨R, 5, none⟩ v5).setCell ⟨R, 6, none⟩ v6).setCell ⟨R, 7, none⟩ v7).setCell ⟨R, 8, none⟩ v8).setCell ⟨R, 9, none⟩ v9).setCell ⟨R, 10, none⟩ v10).setCell ⟨R, 11, none⟩ v11).setCell ⟨R, 12, none⟩ v12)).cell? ⟨R, 7, none⟩ = some v7 ∧ ((((((((((((((W.setCell ⟨R, 0, none⟩ v0).setCell ⟨R, 1, none⟩ v1).setCell ⟨R, 2, none⟩ v2).setCell ⟨R, 3, none⟩ v3).setCell ⟨R, 4, none⟩ v4).setCell ⟨R, 5, none⟩ v5).setCell ⟨R, 6, none⟩ v6).setCell ⟨R, 7, none⟩ v7).setCell ⟨R, 8, none⟩ v8).setCell ⟨R, 9, none⟩ v9).setCell ⟨R, 10, none⟩ v10).setCell ⟨R, 11, none⟩ v11).setCell ⟨R, 12, none⟩ v12)).cell? ⟨R, 8, none⟩ = some v8 ∧ ((((((((((((((W.setCell ⟨R, 0, none⟩ v0).setCell ⟨R, 1, none⟩ v1).setCell ⟨R, 2, none⟩ v2).setCell ⟨R, 3, none⟩ v3).setCell ⟨R, 4, none⟩ v4).setCell ⟨R, 5, none⟩ v5).setCell ⟨R, 6, none⟩ v6).setCell ⟨R, 7, none⟩ v7).setCell ⟨R, 8, none⟩ v8).setCell ⟨R, 9, none⟩ v9).setCell ⟨R, 10, none⟩ v10).setCell ⟨R, 11, none⟩ v11).setCell ⟨R, 12, none⟩ v12)).cell? ⟨R, 9, none⟩ = some v9 ∧ ((((((((((((((W.setCell ⟨R, 0, none⟩ v0).setCell ⟨R, 1, none⟩ v1).setCell ⟨R, 2, none⟩ v2).setCell ⟨R, 3, none⟩ v3).setCell ⟨R, 4, none⟩ v4).setCell ⟨R, 5, none⟩ v5).setCell ⟨R, 6, none⟩ v6).setCell ⟨R, 7, none⟩ v7).setCell ⟨R, 8, none⟩ v8).setCell ⟨R, 9, none⟩ v9).setCell ⟨R, 10, none⟩ v10).setCell ⟨R, 11, none⟩ v11).setCell ⟨R, 12, none⟩ v12)).cell? ⟨R, 10, none⟩ = some v10 ∧ ((((((((((((((W.setCell ⟨R, 0, none⟩ v0).setCell ⟨R, 1, none⟩ v1).setCell ⟨R, 2, none⟩ v2).setCell ⟨R, 3, none⟩ v3).setCell ⟨R, 4, none⟩ v4).setCell ⟨R, 5, none⟩ v5).setCell ⟨R, 6, none⟩ v6).setCell ⟨R, 7, none⟩ v7).setCell ⟨R, 8, none⟩ v8).setCell ⟨R, 9, none⟩ v9).setCell ⟨R, 10, none⟩ v10).setCell ⟨R, 11, none⟩ v11).setCell ⟨R, 12, none⟩ v12)).cell? ⟨R, 11, none⟩ = some v11 ∧ ((((((((((((((W.setCell ⟨R, 0, none⟩ v0).setCell ⟨R, 1, none⟩ v1).setCell ⟨R, 2, none⟩ v2).setCell ⟨R, 3, none⟩ v3).setCell ⟨R, 4, none⟩ v4).setCell ⟨R, 5, none⟩ v5).setCell ⟨R, 6, none⟩ v6).setCell ⟨R, 7, none⟩ v7).setCell ⟨R, 8, none⟩ v8).setCell ⟨R, 9, none⟩ v9).setCell ⟨R, 10, none⟩ v10).setCell ⟨R, 11, none⟩ v11).setCell ⟨R, 12, none⟩ v12)).cell? ⟨R, 12, none⟩ = some v12 ∧ Below R W (((((((((((((W.setCell ⟨R, 0, none⟩ v0).setCell ⟨R, 1, none⟩ v1).setCell ⟨R, 2, none⟩ v2).setCell ⟨R, 3, none⟩ v3).setCell ⟨R, 4, none⟩ v4).setCell ⟨R, 5, none⟩ v5).setCell ⟨R, 6, none⟩ v6).setCell ⟨R, 7, none⟩ v7).setCell ⟨R, 8, none⟩ v8).setCell ⟨R, 9, none⟩ v9).setCell ⟨R, 10, none⟩ v10).setCell ⟨R, 11, none⟩ v11).setCell ⟨R, 12, none⟩ v12) := by
  have hwf := (setCell_blk (setCell_blk (setCell_blk (setCell_blk (setCell_blk (setCell_blk (setCell_blk (setCell_blk (setCell_blk (setCell_blk (setCell_blk (setCell_blk (setCell_blk h (i := 0) v0) (i := 1) v1) (i := 2) v2) (i := 3) v3) (i := 4) v4) (i := 5) v5) (i := 6) v6) (i := 7) v7) (i := 8) v8) (i := 9) v9) (i := 10) v10) (i := 11) v11) (i := 12) v12)
  have hE : Below R W (((((((((((((W.setCell ⟨R, 0, none⟩ v0).setCell ⟨R, 1, none⟩ v1).setCell ⟨R, 2, none⟩ v2).setCell ⟨R, 3, none⟩ v3).setCell ⟨R, 4, none⟩ v4).setCell ⟨R, 5, none⟩ v5).setCell ⟨R, 6, none⟩ v6).setCell ⟨R, 7, none⟩ v7).setCell ⟨R, 8, none⟩ v8).setCell ⟨R, 9, none⟩ v9).setCell ⟨R, 10, none⟩ v10).setCell ⟨R, 11, none⟩ v11).setCell ⟨R, 12, none⟩ v12) := by
    refine Below.setCell ?_ (by exact Nat.le_refl _) _
    refine Below.setCell ?_ (by exact Nat.le_refl _) _
    refine Below.setCell ?_ (by exact Nat.le_refl _) _
    refine Below.setCell ?_ (by exact Nat.le_refl _) _
    refine Below.setCell ?_ (by exact Nat.le_refl _) _
    refine Below.setCell ?_ (by exact Nat.le_refl _) _
    refine Below.setCell ?_ (by exact Nat.le_refl _) _
    refine Below.setCell ?_ (by exact Nat.le_refl _) _
    refine Below.setCell ?_ (by exact Nat.le_refl _) _
    refine Below.setCell ?_ (by exact Nat.le_refl _) _
    refine Below.setCell ?_ (by exact Nat.le_refl _) _
    refine Below.setCell ?_ (by exact Nat.le_refl _) _
    refine Below.setCell ?_ (by exact Nat.le_refl _) _
    exact Below.refl _ _
  generalize (((((((((((((W.setCell ⟨R, 0, none⟩ v0).setCell ⟨R, 1, none⟩ v1).setCell ⟨R, 2, none⟩ v2).setCell ⟨R, 3, none⟩ v3).setCell ⟨R, 4, none⟩ v4).setCell ⟨R, 5, none⟩ v5).setCell ⟨R, 6, none⟩ v6).setCell ⟨R, 7, none⟩ v7).setCell ⟨R, 8, none⟩ v8).setCell ⟨R, 9, none⟩ v9).setCell ⟨R, 10, none⟩ v10).setCell ⟨R, 11, none⟩ v11).setCell ⟨R, 12, none⟩ v12) = wf at hwf hE ⊢
  simp only [List.setIfInBounds_toArray, List.set_cons_zero, List.set_cons_succ] at hwf
  refine ⟨?_, ?_, ?_, ?_, ?_, ?_, ?_, ?_, ?_, ?_, ?_, ?_, ?_, hE⟩ <;> rw [cell_of_row _ _ _ _ _ _ hwf] <;> rfl

def Lt.zero : Lt := ⟨0, 0, 0, 0, ⟨#[]⟩, ⟨#[]⟩, [], Rp.zero, false, 0⟩

/-- One entry, the first of its row gone. -/
theorem LkAt.next {S : Nat → Prop} {W : World} {bp b n : Nat} {ws : List Wy} (h : LkAt S W bp b n ws) {p : Pr} (hp : Ok64 p) {v : Value} (hv : LtsAt S W v (queue ws p).tail) (hn : n < 1000000) :
    ∃ w', (Instr.mapUpdate 51 (.map (some b)) (keyV p) v).run Try.prog W = .ok () w' ∧ W.grownBy w' (some b) ∧ w'.cell? ⟨bp, 0, none⟩ = some (.map (some b)) ∧
      ((queue ws p).tail ≠ [] → LkAt S w' bp b (n + 1) (nextL ws p)) ∧
      ((queue ws p).tail = [] → ∀ (w2 : World), w2.heap = w'.heap → ∃ w3, (Builtin.delete_ #[51, 40] 0 #[.map (some b), keyV p]).run Try.prog w2 = .ok (.tuple #[]) w3 ∧ w2.grownBy w3 (some b) ∧ LkAt S w3 bp b (n + 1) (nextL ws p)) := by
  obtain ⟨f, hm, h1⟩ := h.map
  obtain ⟨w', hr, hm', hg⟩ := hm.update hp v (by unfold maxLen; omega)
  have hk : Kp S W w' := (Kp.refl S W).grown hg (fun j e => by cases e; exact .inr h.walk)
  have hb' := hk.blk _ _ h.lob h.blk rfl
  have hok : ∀ y ∈ nextL ws p, Ok64 y.p := fun y hy => h.ok y (List.mem_of_mem_eraseP hy)
  refine ⟨w', hr, hg, by simp [World.cell?, hb'], fun hne => ⟨hb', h.lob, hok, _, hm', fun q => ?_⟩, fun he w2 hw2 => ?_⟩
  · by_cases e : p = q
    · subst e
      rw [if_pos rfl, queue_next_same]
      exact .inr ⟨v, rfl, hne, hv.keep hk⟩
    · rw [if_neg (fun e' => e e'.symm), queue_next_other _ e]
      rcases h1 q with h2 | ⟨u, h2, h3, h4⟩
      · exact .inl h2
      · exact .inr ⟨u, h2, h3, h4.keep hk⟩
  · obtain ⟨w3, hr3, hm3, hg3⟩ := (hm'.keep (w' := w2) (by rw [hw2])).drop hp 0
    have hk2 : Kp S W w2 := ⟨by rw [hw2]; exact hk.size, fun k o a c d => by rw [hw2]; exact hk.blk k o a c d⟩
    have hk3 : Kp S W w3 := hk2.grown hg3 (fun j e => by
      cases e
      obtain ⟨es, c, hes, _⟩ := hm'
      exact .inr ⟨_, by rw [hw2]; exact hes, rfl⟩)
    refine ⟨w3, hr3, hg3, hk3.blk _ _ h.lob h.blk rfl, h.lob, hok, _, hm3, fun q => ?_⟩
    by_cases e : p = q
    · subst e
      rw [queue_next_same]
      exact .inl ⟨by simp, he⟩
    · rw [queue_next_other _ e]
      have e1 : (if q = p then none else if q = p then some v else f q) = f q := by rw [if_neg (fun e' => e e'.symm), if_neg (fun e' => e e'.symm)]
      show ((if q = p then none else if q = p then some v else f q) = none ∧ _) ∨ _
      rw [e1]
      rcases h1 q with h2 | ⟨u, h2, h3, h4⟩
      · exact .inl h2
      · exact .inr ⟨u, h2, h3, h4.keep hk3⟩

set_option maxHeartbeats 3200000 in
set_option maxRecDepth 100000 in
theorem next_none (S : Nat → Prop) (bp b n : Nat) (ws : List Wy) (p1 p2 : Int) (w : World) (h : LkAt S w bp b n ws) (hp : Ok64 (p1, p2)) (he : queue ws (p1, p2) = []) :
    Calls Try.prog 14 #[.pointer (some ⟨bp, 0, none⟩), .int .i64 p1, .int .i64 p2] w fun e w' => e = .returned (.tuple #[letV Lt.zero (.slice none 0 0) (.slice none 0 0), .bool false]) ∧ Below w.heap.size w w' := by
  have HL := Lib.hid h
  clear h
  go_enter Try.func14, Try.ntmps14
  go_wp2_with fail
  obtain ⟨W0, hW0⟩ : ∃ W0, W0 = ((w.alloc (.cells #[.int .i64 0, .int .i64 0, .int .i64 0, .int .i64 0, .string ⟨#[]⟩, .string ⟨#[]⟩, .slice none 0 0, .int .i64 0, .int .i64 0, .string ⟨#[]⟩, .slice none 0 0, .bool false, .int .i64 0] 33)).alloc (.cells #[.int .i64 p1, .int .i64 p2] 40)).drew := ⟨_, rfl⟩
  have hb0 : Below w.heap.size w W0 := by rw [hW0]; exact (((Below.refl _ w).alloc (Nat.le_refl _) _).alloc (by simp) _).drew
  have hr0 : W0.heap[w.heap.size]? = some (.cells #[.int .i64 0, .int .i64 0, .int .i64 0, .int .i64 0, .string ⟨#[]⟩, .string ⟨#[]⟩, .slice none 0 0, .int .i64 0, .int .i64 0, .string ⟨#[]⟩, .slice none 0 0, .bool false, .int .i64 0] 33 (0, 0)) := by rw [hW0]; exact (Below.heap_alloc _ _ _ (by simp)).trans (World.alloc_heap_new w _)
  have hp0 : W0.heap[w.heap.size + 1]? = some (.cells #[.int .i64 p1, .int .i64 p2] 40 (0, 0)) := by
    have := World.alloc_heap_new (w.alloc (.cells #[.int .i64 0, .int .i64 0, .int .i64 0, .int .i64 0, .string ⟨#[]⟩, .string ⟨#[]⟩, .slice none 0 0, .int .i64 0, .int .i64 0, .string ⟨#[]⟩, .slice none 0 0, .bool false, .int .i64 0] 33)) (.cells #[.int .i64 p1, .int .i64 p2] 40)
    rw [World.size_alloc] at this
    rw [hW0]; exact this
  have hl0 := HL.out.below hb0
  obtain ⟨vq, hlts, hlk⟩ := hl0.look hp
  rw [he] at hlts
  obtain ⟨Aq, cq, rfl, hz⟩ := hlts
  clear hz
  have hlts : True := trivial
  simp only [keyV, List.length_nil] at hlk
  have HS0 := Lib.hid (fun (w' : World) (hb : Below W0.heap.size W0 w') => show w'.cell? ⟨bp, 0, none⟩ = some (.map (some b)) ∧ w'.cell? ⟨w.heap.size + 1, 0, none⟩ = some (.int .i64 p1) ∧ w'.cell? ⟨w.heap.size + 1, 1, none⟩ = some (.int .i64 p2) ∧ (Instr.lookup 51 (.map (some b)) (.agg #[.int .i64 p1, .int .i64 p2]) false).run Try.prog w' = .ok (.slice Aq 0 cq) w' from by
    have hp' := (hb.block _ (lt_of_heap hp0)).trans hp0
    refine ⟨(hl0.below hb).cell, ?_, ?_, hlk w' (hb.block b hl0.lt.2)⟩
    · rw [cell_of_row _ _ _ _ _ _ hp']; rfl
    · rw [cell_of_row _ _ _ _ _ _ hp']; rfl)
  have HW0 := Lib.hid hW0
  have HB0 := Lib.hid hb0
  have HR0 := Lib.hid hr0
  have HP0 := Lib.hid hp0
  have HL0 := Lib.hid hl0
  have HLts := Lib.hid hlts
  clear hW0 hb0 hr0 hp0 hl0 hlk hlts
  refine start_ (n := 7) (S := fun w' => w'.cell? ⟨bp, 0, none⟩ = some (.map (some b)) ∧ w'.cell? ⟨w.heap.size + 1, 0, none⟩ = some (.int .i64 p1) ∧ w'.cell? ⟨w.heap.size + 1, 1, none⟩ = some (.int .i64 p2) ∧ (Instr.lookup 51 (.map (some b)) (.agg #[.int .i64 p1, .int .i64 p2]) false).run Try.prog w' = .ok (.slice Aq 0 cq) w') (ds := []) #[false, false, false, false, false, false, false] (by kernel_rfl) rfl rfl (by rw [← HW0.out]; exact HS0.out W0 (Below.refl _ _)) (fun hHeld => ?_)
  rw [← HW0.out] at hHeld ⊢
  refine pure_ (i := 0) (N := some 13) (v := ?_) (a' := ?_) #[true, false, false, false, false, false, false] rfl rfl (by kernel_rfl) (fun _ _ _ h => h) (Or.inl ⟨by rfl, ?_⟩) ?_ ?_
  rotate_left
  · intro w'
    go_simp
    with_reducible rfl
  rotate_left
  · simp only [Act.put, List.setIfInBounds_toArray, List.set_cons_zero, List.set_cons_succ, i64_w, i32_w]
    rfl
  refine pure_ (i := 1) (N := some 14) (v := ?_) (a' := ?_) #[true, true, false, false, false, false, false] rfl rfl (by kernel_rfl) (fun _ _ _ h => h) (Or.inl ⟨by rfl, ?_⟩) ?_ ?_
  rotate_left
  · intro w'
    go_simp
    with_reducible rfl
  rotate_left
  · simp only [Act.put, List.setIfInBounds_toArray, List.set_cons_zero, List.set_cons_succ, i64_w, i32_w]
    rfl
  refine pure_ (i := 2) (N := some 15) (v := ?_) (a' := ?_) #[true, true, true, false, false, false, false] rfl rfl (by kernel_rfl) (fun _ _ _ h => h) (Or.inl ⟨by rfl, ?_⟩) ?_ ?_
  rotate_left
  · intro w'
    go_simp
    with_reducible rfl
  rotate_left
  · simp only [Act.put, List.setIfInBounds_toArray, List.set_cons_zero, List.set_cons_succ, i64_w, i32_w]
    rfl
  refine take_ (i := 3) (N := some 16) (v := ?_) (a' := ?_) #[true, true, true, true, false, false, false] rfl rfl (by kernel_rfl) (fun _ _ _ h => h) (Or.inl ⟨by rfl, ?_⟩) hHeld ?_ ?_
  rotate_left
  · rintro w' ⟨s0, s1, s2, s3⟩
    go_simp
    with_reducible rfl
  rotate_left
  · simp only [Act.put, List.setIfInBounds_toArray, List.set_cons_zero, List.set_cons_succ, i64_w, i32_w]
    rfl
  refine take_ (i := 4) (N := some 17) (v := ?_) (a' := ?_) #[true, true, true, true, true, false, false] rfl rfl (by kernel_rfl) (fun _ _ _ h => h) (Or.inl ⟨by rfl, ?_⟩) hHeld ?_ ?_
  rotate_left
  · rintro w' ⟨s0, s1, s2, s3⟩
    go_simp
    with_reducible rfl
  rotate_left
  · simp only [Act.put, List.setIfInBounds_toArray, List.set_cons_zero, List.set_cons_succ, i64_w, i32_w]
    rfl
  refine take_ (i := 5) (N := some 18) (v := ?_) (a' := ?_) #[true, true, true, true, true, true, false] rfl rfl (by kernel_rfl) (fun _ _ _ h => h) (Or.inl ⟨by rfl, ?_⟩) hHeld ?_ ?_
  rotate_left
  · rintro w' ⟨s0, s1, s2, s3⟩
    go_simp
    with_reducible rfl
  rotate_left
  · simp only [Act.put, List.setIfInBounds_toArray, List.set_cons_zero, List.set_cons_succ, i64_w, i32_w]
    rfl
  refine pure_ (i := 6) (N := some 9) (v := ?_) (a' := ?_) #[true, true, true, true, true, true, true] rfl rfl (by kernel_rfl) (fun _ _ _ h => h) (Or.inl ⟨by rfl, ?_⟩) ?_ ?_
  rotate_left
  · intro w'
    go_simp
    with_reducible rfl
  rotate_left
  · simp only [Act.put, List.setIfInBounds_toArray, List.set_cons_zero, List.set_cons_succ, i64_w, i32_w]
    rfl
  refine done_ (by kernel_rfl) ?_
  have r0 : W0.cell? ⟨w.heap.size, 0, none⟩ = some (.int .i64 0) := by rw [cell_of_row _ _ _ _ _ _ HR0.out]; rfl
  have r1 : W0.cell? ⟨w.heap.size, 1, none⟩ = some (.int .i64 0) := by rw [cell_of_row _ _ _ _ _ _ HR0.out]; rfl
  have r2 : W0.cell? ⟨w.heap.size, 2, none⟩ = some (.int .i64 0) := by rw [cell_of_row _ _ _ _ _ _ HR0.out]; rfl
  have r3 : W0.cell? ⟨w.heap.size, 3, none⟩ = some (.int .i64 0) := by rw [cell_of_row _ _ _ _ _ _ HR0.out]; rfl
  have r4 : W0.cell? ⟨w.heap.size, 4, none⟩ = some (.string ⟨#[]⟩) := by rw [cell_of_row _ _ _ _ _ _ HR0.out]; rfl
  have r5 : W0.cell? ⟨w.heap.size, 5, none⟩ = some (.string ⟨#[]⟩) := by rw [cell_of_row _ _ _ _ _ _ HR0.out]; rfl
  have r6 : W0.cell? ⟨w.heap.size, 6, none⟩ = some (.slice none 0 0) := by rw [cell_of_row _ _ _ _ _ _ HR0.out]; rfl
  have r7 : W0.cell? ⟨w.heap.size, 7, none⟩ = some (.int .i64 0) := by rw [cell_of_row _ _ _ _ _ _ HR0.out]; rfl
  have r8 : W0.cell? ⟨w.heap.size, 8, none⟩ = some (.int .i64 0) := by rw [cell_of_row _ _ _ _ _ _ HR0.out]; rfl
  have r9 : W0.cell? ⟨w.heap.size, 9, none⟩ = some (.string ⟨#[]⟩) := by rw [cell_of_row _ _ _ _ _ _ HR0.out]; rfl
  have r10 : W0.cell? ⟨w.heap.size, 10, none⟩ = some (.slice none 0 0) := by rw [cell_of_row _ _ _ _ _ _ HR0.out]; rfl
  have r11 : W0.cell? ⟨w.heap.size, 11, none⟩ = some (.bool false) := by rw [cell_of_row _ _ _ _ _ _ HR0.out]; rfl
  have r12 : W0.cell? ⟨w.heap.size, 12, none⟩ = some (.int .i64 0) := by rw [cell_of_row _ _ _ _ _ _ HR0.out]; rfl
  have rf : ∀ k, W0.frozen? ⟨w.heap.size, k, none⟩ = false := fun k => by simp [World.frozen?, HR0.out]
  go_wp2_with fail
  clear r0 r1 r2 r3 r4 r5 r6 r7 r8 r9 r10 r11 r12 rf
  have hst := stored13 HR0.out (.int .i64 0) (.int .i64 0) (.int .i64 0) (.int .i64 0) (.string ⟨#[]⟩) (.string ⟨#[]⟩) (.slice none 0 0) (.int .i64 0) (.int .i64 0) (.string ⟨#[]⟩) (.slice none 0 0) (.bool false) (.int .i64 0)
  revert hst
  generalize (((((((((((((W0.setCell ⟨w.heap.size, 0, none⟩ (.int .i64 0)).setCell ⟨w.heap.size, 1, none⟩ (.int .i64 0)).setCell ⟨w.heap.size, 2, none⟩ (.int .i64 0)).setCell ⟨w.heap.size, 3, none⟩ (.int .i64 0)).setCell ⟨w.heap.size, 4, none⟩ (.string ⟨#[]⟩)).setCell ⟨w.heap.size, 5, none⟩ (.string ⟨#[]⟩)).setCell ⟨w.heap.size, 6, none⟩ (.slice none 0 0)).setCell ⟨w.heap.size, 7, none⟩ (.int .i64 0)).setCell ⟨w.heap.size, 8, none⟩ (.int .i64 0)).setCell ⟨w.heap.size, 9, none⟩ (.string ⟨#[]⟩)).setCell ⟨w.heap.size, 10, none⟩ (.slice none 0 0)).setCell ⟨w.heap.size, 11, none⟩ (.bool false)).setCell ⟨w.heap.size, 12, none⟩ (.int .i64 0)) = wf
  rintro ⟨k0, k1, k2, k3, k4, k5, k6, k7, k8, k9, k10, k11, k12, hE⟩
  exact bodyPost_ret (v := .tuple #[.agg #[.int .i64 0, .int .i64 0, .int .i64 0, .int .i64 0, .string ⟨#[]⟩, .string ⟨#[]⟩, .slice none 0 0, .int .i64 0, .int .i64 0, .string ⟨#[]⟩, .slice none 0 0, .bool false, .int .i64 0], .bool false]) (by simp [results, Try.results14, go_sem, k0, k1, k2, k3, k4, k5, k6, k7, k8, k9, k10, k11, k12]) rfl ⟨rfl, HB0.out.trans hE⟩
/-- What Next leaves where there is one. -/
def Nexted (S : Nat → Prop) (bp b n : Nat) (ws : List Wy) (x : Lt) (w : World) (e : Ending) (w' : World) : Prop :=
  ∃ va vr, e = .returned (.tuple #[letV x va vr, .bool true]) ∧ StrsAt S w' va x.args ∧ RpAt S w' x.reply vr ∧ Sent S bp b n ws w w'

set_option maxHeartbeats 12800000 in
set_option maxRecDepth 100000 in
theorem next_some (S : Nat → Prop) (bp b n : Nat) (ws : List Wy) (p1 p2 : Int) (x : Lt) (q : List Lt) (w : World) (h : LkAt S w bp b n ws) (hp : Ok64 (p1, p2)) (he : queue ws (p1, p2) = x :: q) (hn : n < 1000000) (hw : ws.length < 1000000) :
    Calls Try.prog 14 #[.pointer (some ⟨bp, 0, none⟩), .int .i64 p1, .int .i64 p2] w (Nexted S bp b (n + 1) (nextL ws (p1, p2)) x w) := by
  have h := h.narrow
  have HL := Lib.hid h
  clear h
  go_enter Try.func14, Try.ntmps14
  go_wp2_with fail
  obtain ⟨W0, hW0⟩ : ∃ W0, W0 = ((w.alloc (.cells #[.int .i64 0, .int .i64 0, .int .i64 0, .int .i64 0, .string ⟨#[]⟩, .string ⟨#[]⟩, .slice none 0 0, .int .i64 0, .int .i64 0, .string ⟨#[]⟩, .slice none 0 0, .bool false, .int .i64 0] 33)).alloc (.cells #[.int .i64 p1, .int .i64 p2] 40)).drew := ⟨_, rfl⟩
  have hb0 : Below w.heap.size w W0 := by rw [hW0]; exact (((Below.refl _ w).alloc (Nat.le_refl _) _).alloc (by simp) _).drew
  have hr0 : W0.heap[w.heap.size]? = some (.cells #[.int .i64 0, .int .i64 0, .int .i64 0, .int .i64 0, .string ⟨#[]⟩, .string ⟨#[]⟩, .slice none 0 0, .int .i64 0, .int .i64 0, .string ⟨#[]⟩, .slice none 0 0, .bool false, .int .i64 0] 33 (0, 0)) := by rw [hW0]; exact (Below.heap_alloc _ _ _ (by simp)).trans (World.alloc_heap_new w _)
  have hp0 : W0.heap[w.heap.size + 1]? = some (.cells #[.int .i64 p1, .int .i64 p2] 40 (0, 0)) := by
    have := World.alloc_heap_new (w.alloc (.cells #[.int .i64 0, .int .i64 0, .int .i64 0, .int .i64 0, .string ⟨#[]⟩, .string ⟨#[]⟩, .slice none 0 0, .int .i64 0, .int .i64 0, .string ⟨#[]⟩, .slice none 0 0, .bool false, .int .i64 0] 33)) (.cells #[.int .i64 p1, .int .i64 p2] 40)
    rw [World.size_alloc] at this
    rw [hW0]; exact this
  have hl0 := HL.out.below hb0
  obtain ⟨vq, hlts, hlk⟩ := hl0.look hp
  have hql : (x :: q).length < 1000000 := by rw [← he]; exact Nat.lt_of_le_of_lt (queue_le _ _) hw
  rw [he] at hlts
  have hlt := hl0.lt
  obtain ⟨nq, hnq⟩ : ∃ nq, nq = q.length + 1 := ⟨_, rfl⟩
  obtain ⟨Aq, cq, rfl, hnc, hcm, _, hel⟩ := hlts
  simp only [keyV, List.length_cons] at hlk hnc hql
  rw [← hnq] at hlk hnc hql
  obtain ⟨g, off, cs, rfl, hgS, hcs, hx0⟩ := hel 0 x rfl
  have hlts : LtsAt (Now S w) W0 (if cq = 1 then .slice (some ⟨g, off, none⟩) 0 0 else .slice (some ⟨g, off + 13, none⟩) (nq - 1) (cq - 1)) q := by
    split
    · rename_i e1
      obtain rfl : q = [] := List.eq_nil_of_length_eq_zero (by omega)
      exact ⟨_, _, rfl, Nat.le_refl _, Nat.zero_le _, fun _ => rfl, fun j y hj => by simp at hj⟩
    · refine ⟨some ⟨g, off + 13, none⟩, cq - 1, by rw [hnq]; rfl, by omega, by omega, (fun e => absurd e (by simp)), fun j y hj => ?_⟩
      obtain ⟨g2, off2, cs2, e2, hS2, hc2, hx2⟩ := hel (j + 1) y (by simpa using hj)
      cases e2
      exact ⟨g, off + 13, cs2, rfl, hS2, fun i u hi => by have := hc2 i u hi; rwa [show off + (j + 1) * 13 + i = off + 13 + j * 13 + i by omega] at this, hx2⟩
  obtain ⟨va, vr, rfl, hva, hvr⟩ := hx0
  obtain ⟨kind, number, slot, ends, key, text, args, ⟨rk, ri, rt, rn, rl⟩, good, asking⟩ := x
  obtain ⟨Aa, na, ca, rfl⟩ : ∃ A n c, va = .slice A n c := by obtain ⟨A, c, e, _⟩ := hva; exact ⟨A, _, c, e⟩
  obtain ⟨Ar, cr, rfl⟩ : ∃ A c, vr = .slice A rn c := by obtain ⟨A, c, e, _⟩ := hvr; exact ⟨A, c, e⟩
  simp only [ltCells, Rp.kind, Rp.int, Rp.text] at hcs
  have HCs := Lib.hid hcs
  have hgb : g ≠ b := by
    intro e
    obtain ⟨o, ho, hc⟩ := hl0.walk
    obtain ⟨o2, ho2, hc2⟩ := cells_of_cell (hcs 0 _ rfl)
    rw [e] at ho2
    rw [ho2] at ho; cases ho; rw [hc2] at hc; cases hc
  have HGl := Lib.hid (World.block_lt_of_cell? _ _ (hcs 0 _ rfl))
  have HGS := Lib.hid hgS
  have HVa := Lib.hid hva
  have HVr := Lib.hid hvr
  have hq0 : ((nq : Int) == 0) = false := by rw [beq_eq_false_iff_ne]; omega
  have hnq1 : 1 ≤ nq := by omega
  have HNq := Lib.hid hnq
  have HE := Lib.hid he
  unfold maxLen at hcm
  clear hel hcs hgS hva hvr hnq he
  have HS0 := Lib.hid (fun (w' : World) (hb : Below W0.heap.size W0 w') => show w'.cell? ⟨bp, 0, none⟩ = some (.map (some b)) ∧ w'.cell? ⟨w.heap.size + 1, 0, none⟩ = some (.int .i64 p1) ∧ w'.cell? ⟨w.heap.size + 1, 1, none⟩ = some (.int .i64 p2) ∧ (Instr.lookup 51 (.map (some b)) (.agg #[.int .i64 p1, .int .i64 p2]) false).run Try.prog w' = .ok (.slice (some ⟨g, off, none⟩) nq cq) w' from by
    have hp' := (hb.block _ (lt_of_heap hp0)).trans hp0
    refine ⟨(hl0.below hb).cell, ?_, ?_, hlk w' (hb.block b hl0.lt.2)⟩
    · rw [cell_of_row _ _ _ _ _ _ hp']; rfl
    · rw [cell_of_row _ _ _ _ _ _ hp']; rfl)
  have HW0 := Lib.hid hW0
  have HB0 := Lib.hid hb0
  have HR0 := Lib.hid hr0
  have HP0 := Lib.hid hp0
  have HL0 := Lib.hid hl0
  have HLts := Lib.hid hlts
  clear hW0 hb0 hr0 hp0 hl0 hlk hlts
  refine start_ (n := 7) (S := fun w' => w'.cell? ⟨bp, 0, none⟩ = some (.map (some b)) ∧ w'.cell? ⟨w.heap.size + 1, 0, none⟩ = some (.int .i64 p1) ∧ w'.cell? ⟨w.heap.size + 1, 1, none⟩ = some (.int .i64 p2) ∧ (Instr.lookup 51 (.map (some b)) (.agg #[.int .i64 p1, .int .i64 p2]) false).run Try.prog w' = .ok (.slice (some ⟨g, off, none⟩) nq cq) w') (ds := []) #[false, false, false, false, false, false, false] (by kernel_rfl) rfl rfl (by rw [← HW0.out]; exact HS0.out W0 (Below.refl _ _)) (fun hHeld => ?_)
  rw [← HW0.out] at hHeld ⊢
  refine pure_ (i := 0) (N := some 13) (v := ?_) (a' := ?_) #[true, false, false, false, false, false, false] rfl rfl (by kernel_rfl) (fun _ _ _ h => h) (Or.inl ⟨by rfl, ?_⟩) ?_ ?_
  rotate_left
  · intro w'
    go_simp
    with_reducible rfl
  rotate_left
  · simp only [Act.put, List.setIfInBounds_toArray, List.set_cons_zero, List.set_cons_succ, i64_w, i32_w]
    rfl
  refine pure_ (i := 1) (N := some 14) (v := ?_) (a' := ?_) #[true, true, false, false, false, false, false] rfl rfl (by kernel_rfl) (fun _ _ _ h => h) (Or.inl ⟨by rfl, ?_⟩) ?_ ?_
  rotate_left
  · intro w'
    go_simp
    with_reducible rfl
  rotate_left
  · simp only [Act.put, List.setIfInBounds_toArray, List.set_cons_zero, List.set_cons_succ, i64_w, i32_w]
    rfl
  refine pure_ (i := 2) (N := some 15) (v := ?_) (a' := ?_) #[true, true, true, false, false, false, false] rfl rfl (by kernel_rfl) (fun _ _ _ h => h) (Or.inl ⟨by rfl, ?_⟩) ?_ ?_
  rotate_left
  · intro w'
    go_simp
    with_reducible rfl
  rotate_left
  · simp only [Act.put, List.setIfInBounds_toArray, List.set_cons_zero, List.set_cons_succ, i64_w, i32_w]
    rfl
  refine take_ (i := 3) (N := some 16) (v := ?_) (a' := ?_) #[true, true, true, true, false, false, false] rfl rfl (by kernel_rfl) (fun _ _ _ h => h) (Or.inl ⟨by rfl, ?_⟩) hHeld ?_ ?_
  rotate_left
  · rintro w' ⟨s0, s1, s2, s3⟩
    go_simp
    with_reducible rfl
  rotate_left
  · simp only [Act.put, List.setIfInBounds_toArray, List.set_cons_zero, List.set_cons_succ, i64_w, i32_w]
    rfl
  refine take_ (i := 4) (N := some 17) (v := ?_) (a' := ?_) #[true, true, true, true, true, false, false] rfl rfl (by kernel_rfl) (fun _ _ _ h => h) (Or.inl ⟨by rfl, ?_⟩) hHeld ?_ ?_
  rotate_left
  · rintro w' ⟨s0, s1, s2, s3⟩
    go_simp
    with_reducible rfl
  rotate_left
  · simp only [Act.put, List.setIfInBounds_toArray, List.set_cons_zero, List.set_cons_succ, i64_w, i32_w]
    rfl
  refine take_ (i := 5) (N := some 18) (v := ?_) (a' := ?_) #[true, true, true, true, true, true, false] rfl rfl (by kernel_rfl) (fun _ _ _ h => h) (Or.inl ⟨by rfl, ?_⟩) hHeld ?_ ?_
  rotate_left
  · rintro w' ⟨s0, s1, s2, s3⟩
    go_simp
    with_reducible rfl
  rotate_left
  · simp only [Act.put, List.setIfInBounds_toArray, List.set_cons_zero, List.set_cons_succ, i64_w, i32_w]
    rfl
  refine pure_ (i := 6) (N := some 9) (v := ?_) (a' := ?_) #[true, true, true, true, true, true, true] rfl rfl (by kernel_rfl) (fun _ _ _ h => h) (Or.inl ⟨by rfl, ?_⟩) ?_ ?_
  rotate_left
  · intro w'
    go_simp
    with_reducible rfl
  rotate_left
  · simp only [Act.put, List.setIfInBounds_toArray, List.set_cons_zero, List.set_cons_succ, i64_w, i32_w]
    rfl
  refine done_ (by kernel_rfl) ?_
  go_wp2_with fail
  obtain ⟨W5, hW5⟩ : ∃ W5, W5 = W0.drew := ⟨_, rfl⟩
  have hb5 : Below W0.heap.size W0 W5 := by rw [hW5]; exact (Below.refl _ W0).drew
  have HS5 := Lib.hid (fun (w' : World) (hb : Below W5.heap.size W5 w') => show w'.cell? ⟨bp, 0, none⟩ = some (.map (some b)) ∧ w'.cell? ⟨w.heap.size + 1, 0, none⟩ = some (.int .i64 p1) ∧ w'.cell? ⟨w.heap.size + 1, 1, none⟩ = some (.int .i64 p2) from by
    have hbb := hb5.trans (hb.mono hb5.size)
    have hp' := (hbb.block _ (lt_of_heap HP0.out)).trans HP0.out
    refine ⟨(HL0.out.below hbb).cell, ?_, ?_⟩
    · rw [cell_of_row _ _ _ _ _ _ hp']; rfl
    · rw [cell_of_row _ _ _ _ _ _ hp']; rfl)
  have HW5 := Lib.hid hW5
  have HB5 := Lib.hid hb5
  clear hW5 hb5
  have hnqI : (1 : Int) ≤ (nq : Int) := by omega
  by_cases hc1 : cq = 1
  · subst hc1
    obtain rfl : nq = 1 := by omega
    have hvs : LtsAt (Now S w) W0 (.slice (some ⟨g, off, none⟩) 0 0) q := by have := HLts.out; simpa [] using this
    obtain ⟨w9, hup, hg9, hc9, hlk9, hdel9⟩ := (HL0.out.below HB5.out).next hp (v := .slice (some ⟨g, off, none⟩) 0 0) (by rw [HE.out]; exact hvs.keep (.of_below HB5.out _)) hn
    simp only [keyV] at hup
    have HO9 := Lib.hid ((Off.of_below HB5.out b).trans (Off.of_grown hg9 (fun j e => by cases e; rfl)))
    have HC9 := Lib.hid hc9
    have HK9 := Lib.hid hlk9
    have HD9 := Lib.hid hdel9
    clear hvs hg9 hc9 hlk9 hdel9
    refine start_ (n := 8) (S := fun w' => w'.cell? ⟨bp, 0, none⟩ = some (.map (some b)) ∧ w'.cell? ⟨w.heap.size + 1, 0, none⟩ = some (.int .i64 p1) ∧ w'.cell? ⟨w.heap.size + 1, 1, none⟩ = some (.int .i64 p2)) (ds := [7]) #[false, false, false, false, false, false, false, false] (by kernel_rfl) rfl rfl (by rw [← HW5.out]; exact HS5.out W5 (Below.refl _ _)) (fun hHeld => ?_)
    rw [← HW5.out] at hHeld ⊢
    refine pure_ (i := 0) (N := some 23) (v := ?_) (a' := ?_) #[true, false, false, false, false, false, false, false] rfl rfl (by kernel_rfl) (fun _ _ _ h => h) (Or.inl ⟨by rfl, ?_⟩) ?_ ?_
    rotate_left
    · intro w'
      go_simp
      with_reducible rfl
    rotate_left
    · simp only [Act.put, List.setIfInBounds_toArray, List.set_cons_zero, List.set_cons_succ, i64_w, i32_w]
      rfl
    refine pure_ (i := 1) (N := some 24) (v := ?_) (a' := ?_) #[true, true, false, false, false, false, false, false] rfl rfl (by kernel_rfl) (fun _ _ _ h => h) (Or.inl ⟨by rfl, ?_⟩) ?_ ?_
    rotate_left
    · intro w'
      go_simp
      with_reducible rfl
    rotate_left
    · simp only [Act.put, List.setIfInBounds_toArray, List.set_cons_zero, List.set_cons_succ, i64_w, i32_w]
      rfl
    refine pure_ (i := 2) (N := some 25) (v := ?_) (a' := ?_) #[true, true, true, false, false, false, false, false] rfl rfl (by kernel_rfl) (fun _ _ _ h => h) (Or.inl ⟨by rfl, ?_⟩) ?_ ?_
    rotate_left
    · intro w'
      go_simp
      with_reducible rfl
    rotate_left
    · simp only [Act.put, List.setIfInBounds_toArray, List.set_cons_zero, List.set_cons_succ, i64_w, i32_w]
      rfl
    refine take_ (i := 3) (N := some 26) (v := ?_) (a' := ?_) #[true, true, true, true, false, false, false, false] rfl rfl (by kernel_rfl) (fun _ _ _ h => h) (Or.inl ⟨by rfl, ?_⟩) hHeld ?_ ?_
    rotate_left
    · rintro w' ⟨s0, s1, s2⟩
      go_simp
      with_reducible rfl
    rotate_left
    · simp only [Act.put, List.setIfInBounds_toArray, List.set_cons_zero, List.set_cons_succ, i64_w, i32_w]
      rfl
    refine take_ (i := 4) (N := some 27) (v := ?_) (a' := ?_) #[true, true, true, true, true, false, false, false] rfl rfl (by kernel_rfl) (fun _ _ _ h => h) (Or.inl ⟨by rfl, ?_⟩) hHeld ?_ ?_
    rotate_left
    · rintro w' ⟨s0, s1, s2⟩
      go_simp
      with_reducible rfl
    rotate_left
    · simp only [Act.put, List.setIfInBounds_toArray, List.set_cons_zero, List.set_cons_succ, i64_w, i32_w]
      rfl
    refine pure_ (i := 5) (N := some 28) (v := ?_) (a' := ?_) #[true, true, true, true, true, true, false, false] rfl rfl (by kernel_rfl) (fun _ _ _ h => h) (Or.inl ⟨by rfl, ?_⟩) ?_ ?_
    rotate_left
    · intro w'
      go_simp
      with_reducible rfl
    rotate_left
    · simp only [Act.put, List.setIfInBounds_toArray, List.set_cons_zero, List.set_cons_succ, i64_w, i32_w]
      rfl
    refine pure_ (i := 6) (N := some 29) (v := ?_) (a' := ?_) #[true, true, true, true, true, true, true, false] rfl rfl (by kernel_rfl) (fun _ _ _ h => h) (Or.inl ⟨by rfl, ?_⟩) ?_ ?_
    rotate_left
    · intro w'
      go_simp
      with_reducible rfl
    rotate_left
    · simp only [Act.put, List.setIfInBounds_toArray, List.set_cons_zero, List.set_cons_succ, i64_w, i32_w]
      rfl
    refine last_ (i := 7) (N := none) #[true, true, true, true, true, true, true, true] rfl rfl (by kernel_rfl) (by decide) (fun K hK => ?_)
    refine skip_ (w1 := w9) (by rfl) rfl (by go_simp) ?_
    refine hK.out _ _ ?_
    clear hK K
    refine done_ (by kernel_rfl) ?_
    clear hup
    go_wp2_with fail
    obtain ⟨W7, hW7⟩ : ∃ W7, W7 = w9.drew := ⟨_, rfl⟩
    have hb7 : Below w9.heap.size w9 W7 := by rw [hW7]; exact (Below.refl _ w9).drew
    have hp7 : W7.heap[w.heap.size + 1]? = _ := (hb7.block _ (Nat.lt_of_lt_of_le (lt_of_heap HP0.out) HO9.out.size)).trans ((HO9.out.block _ (lt_of_heap HP0.out) (by have := HL.out.lt; omega)).trans HP0.out)
    have hbp7 : W7.cell? ⟨bp, 0, none⟩ = some (.map (some b)) := by rw [hW7]; exact HC9.out
    have HS7 := Lib.hid (fun (w' : World) (hb : Below W7.heap.size W7 w') => show w'.cell? ⟨bp, 0, none⟩ = some (.map (some b)) ∧ w'.cell? ⟨w.heap.size + 1, 0, none⟩ = some (.int .i64 p1) ∧ w'.cell? ⟨w.heap.size + 1, 1, none⟩ = some (.int .i64 p2) from by
      have hp' := (hb.block _ (lt_of_heap hp7)).trans hp7
      refine ⟨(hb.cell (p := ⟨bp, 0, none⟩) (World.block_lt_of_cell? _ _ hbp7)).trans hbp7, ?_, ?_⟩
      · rw [cell_of_row _ _ _ _ _ _ hp']; rfl
      · rw [cell_of_row _ _ _ _ _ _ hp']; rfl)
    obtain ⟨w3, hr3, hg3, hl3⟩ := HD9.out (by rw [HE.out]; exact List.eq_nil_of_length_eq_zero (by have := HNq.out; show q.length = 0; omega)) W7 (by rw [hW7]; rfl)
    simp only [keyV] at hr3
    have HOf := Lib.hid ((HO9.out.trans (Off.of_below hb7 b)).trans (Off.of_grown hg3 (fun j e => by cases e; rfl)))
    have HLf := Lib.hid hl3
    have HW7 := Lib.hid hW7
    clear hW7 hb7 hp7 hbp7 hg3 hl3
    refine start_ (n := 6) (S := fun w' => w'.cell? ⟨bp, 0, none⟩ = some (.map (some b)) ∧ w'.cell? ⟨w.heap.size + 1, 0, none⟩ = some (.int .i64 p1) ∧ w'.cell? ⟨w.heap.size + 1, 1, none⟩ = some (.int .i64 p2)) (ds := [5]) #[false, false, false, false, false, false] (by kernel_rfl) rfl rfl (by rw [← HW7.out]; exact HS7.out W7 (Below.refl _ _)) (fun hHeld => ?_)
    rw [← HW7.out] at hHeld ⊢
    refine pure_ (i := 0) (N := some 33) (v := ?_) (a' := ?_) #[true, false, false, false, false, false] rfl rfl (by kernel_rfl) (fun _ _ _ h => h) (Or.inl ⟨by rfl, ?_⟩) ?_ ?_
    rotate_left
    · intro w'
      go_simp
      with_reducible rfl
    rotate_left
    · simp only [Act.put, List.setIfInBounds_toArray, List.set_cons_zero, List.set_cons_succ, i64_w, i32_w]
      rfl
    refine pure_ (i := 1) (N := some 34) (v := ?_) (a' := ?_) #[true, true, false, false, false, false] rfl rfl (by kernel_rfl) (fun _ _ _ h => h) (Or.inl ⟨by rfl, ?_⟩) ?_ ?_
    rotate_left
    · intro w'
      go_simp
      with_reducible rfl
    rotate_left
    · simp only [Act.put, List.setIfInBounds_toArray, List.set_cons_zero, List.set_cons_succ, i64_w, i32_w]
      rfl
    refine pure_ (i := 2) (N := some 35) (v := ?_) (a' := ?_) #[true, true, true, false, false, false] rfl rfl (by kernel_rfl) (fun _ _ _ h => h) (Or.inl ⟨by rfl, ?_⟩) ?_ ?_
    rotate_left
    · intro w'
      go_simp
      with_reducible rfl
    rotate_left
    · simp only [Act.put, List.setIfInBounds_toArray, List.set_cons_zero, List.set_cons_succ, i64_w, i32_w]
      rfl
    refine take_ (i := 3) (N := some 36) (v := ?_) (a' := ?_) #[true, true, true, true, false, false] rfl rfl (by kernel_rfl) (fun _ _ _ h => h) (Or.inl ⟨by rfl, ?_⟩) hHeld ?_ ?_
    rotate_left
    · rintro w' ⟨s0, s1, s2⟩
      go_simp
      with_reducible rfl
    rotate_left
    · simp only [Act.put, List.setIfInBounds_toArray, List.set_cons_zero, List.set_cons_succ, i64_w, i32_w]
      rfl
    refine take_ (i := 4) (N := some 37) (v := ?_) (a' := ?_) #[true, true, true, true, true, false] rfl rfl (by kernel_rfl) (fun _ _ _ h => h) (Or.inl ⟨by rfl, ?_⟩) hHeld ?_ ?_
    rotate_left
    · rintro w' ⟨s0, s1, s2⟩
      go_simp
      with_reducible rfl
    rotate_left
    · simp only [Act.put, List.setIfInBounds_toArray, List.set_cons_zero, List.set_cons_succ, i64_w, i32_w]
      rfl
    refine last_ (i := 5) (N := none) #[true, true, true, true, true, true] rfl rfl (by kernel_rfl) (by decide) (fun K hK => ?_)
    refine value_ (v := .tuple #[]) (w1 := w3) (by rfl) rfl (by go_simp) ?_
    refine hK.out _ _ ?_
    clear hK K
    refine done_ (by kernel_rfl) ?_
    clear hr3
    have HR3 := Lib.hid (show w3.heap[w.heap.size]? = _ from (HOf.out.block _ (lt_of_heap HR0.out) (by have := HL.out.lt; omega)).trans HR0.out)
    have hkp : Kp (Now S w) W0 w3 := HOf.out.kp _ HL0.out.walk
    have HFin := Lib.hid (fun (wf : World) (hE : Below w.heap.size w3 wf) => show Nexted S bp b (n + 1) (nextL ws (p1, p2)) ⟨kind, number, slot, ends, key, text, args, .mk rk ri rt rn rl, good, asking⟩ w (.returned (.tuple #[.agg #[.int .i64 kind, .int .i64 number, .int .i64 slot, .int .i64 ends, .string key, .string text, .slice Aa na ca, .int .i64 rk, .int .i64 ri, .string rt, .slice Ar rn cr, .bool good, .int .i64 asking], .bool true])) wf from by
      have hk2 : Kp (Now S w) w3 wf := ⟨hE.size, fun k o hk ho _ => (hE.block k hk.2).trans ho⟩
      refine ⟨_, _, rfl, ((HVa.out.keep hkp).keep hk2).mono Now.sub, ((HVr.out.keep hkp).keep hk2).mono Now.sub, (HLf.out.keep hk2 (hE.block b HL.out.lt.2)).mono Now.sub, ?_⟩
      have h1 := (Off.of_below HB0.out b).trans HOf.out
      exact ⟨hE.os.trans h1.os, hE.tape.trans h1.tape, hE.output.trans h1.output, Nat.le_trans h1.size hE.size, fun k hk hn => (hE.block k hk).trans (h1.block k hk hn)⟩)
    have m0 : w3.cell? ⟨g, off, none⟩ = some (.int .i64 kind) := (World.cell?_of_block (HOf.out.block g HGl.out hgb)).trans (by have := HCs.out 0 _ rfl; simpa using this)
    have m1 : w3.cell? ⟨g, off + 1, none⟩ = some (.int .i64 number) := (World.cell?_of_block (HOf.out.block g HGl.out hgb)).trans (by have := HCs.out 1 _ rfl; simpa using this)
    have m2 : w3.cell? ⟨g, off + 2, none⟩ = some (.int .i64 slot) := (World.cell?_of_block (HOf.out.block g HGl.out hgb)).trans (by have := HCs.out 2 _ rfl; simpa using this)
    have m3 : w3.cell? ⟨g, off + 3, none⟩ = some (.int .i64 ends) := (World.cell?_of_block (HOf.out.block g HGl.out hgb)).trans (by have := HCs.out 3 _ rfl; simpa using this)
    have m4 : w3.cell? ⟨g, off + 4, none⟩ = some (.string key) := (World.cell?_of_block (HOf.out.block g HGl.out hgb)).trans (by have := HCs.out 4 _ rfl; simpa using this)
    have m5 : w3.cell? ⟨g, off + 5, none⟩ = some (.string text) := (World.cell?_of_block (HOf.out.block g HGl.out hgb)).trans (by have := HCs.out 5 _ rfl; simpa using this)
    have m6 : w3.cell? ⟨g, off + 6, none⟩ = some (.slice Aa na ca) := (World.cell?_of_block (HOf.out.block g HGl.out hgb)).trans (by have := HCs.out 6 _ rfl; simpa using this)
    have m7 : w3.cell? ⟨g, off + 7, none⟩ = some (.int .i64 rk) := (World.cell?_of_block (HOf.out.block g HGl.out hgb)).trans (by have := HCs.out 7 _ rfl; simpa using this)
    have m8 : w3.cell? ⟨g, off + 8, none⟩ = some (.int .i64 ri) := (World.cell?_of_block (HOf.out.block g HGl.out hgb)).trans (by have := HCs.out 8 _ rfl; simpa using this)
    have m9 : w3.cell? ⟨g, off + 9, none⟩ = some (.string rt) := (World.cell?_of_block (HOf.out.block g HGl.out hgb)).trans (by have := HCs.out 9 _ rfl; simpa using this)
    have m10 : w3.cell? ⟨g, off + 10, none⟩ = some (.slice Ar rn cr) := (World.cell?_of_block (HOf.out.block g HGl.out hgb)).trans (by have := HCs.out 10 _ rfl; simpa using this)
    have m11 : w3.cell? ⟨g, off + 11, none⟩ = some (.bool good) := (World.cell?_of_block (HOf.out.block g HGl.out hgb)).trans (by have := HCs.out 11 _ rfl; simpa using this)
    have m12 : w3.cell? ⟨g, off + 12, none⟩ = some (.int .i64 asking) := (World.cell?_of_block (HOf.out.block g HGl.out hgb)).trans (by have := HCs.out 12 _ rfl; simpa using this)
    clear hkp
    have r0 : w3.cell? ⟨w.heap.size, 0, none⟩ = some (.int .i64 0) := by rw [cell_of_row _ _ _ _ _ _ HR3.out]; rfl
    have r1 : w3.cell? ⟨w.heap.size, 1, none⟩ = some (.int .i64 0) := by rw [cell_of_row _ _ _ _ _ _ HR3.out]; rfl
    have r2 : w3.cell? ⟨w.heap.size, 2, none⟩ = some (.int .i64 0) := by rw [cell_of_row _ _ _ _ _ _ HR3.out]; rfl
    have r3 : w3.cell? ⟨w.heap.size, 3, none⟩ = some (.int .i64 0) := by rw [cell_of_row _ _ _ _ _ _ HR3.out]; rfl
    have r4 : w3.cell? ⟨w.heap.size, 4, none⟩ = some (.string ⟨#[]⟩) := by rw [cell_of_row _ _ _ _ _ _ HR3.out]; rfl
    have r5 : w3.cell? ⟨w.heap.size, 5, none⟩ = some (.string ⟨#[]⟩) := by rw [cell_of_row _ _ _ _ _ _ HR3.out]; rfl
    have r6 : w3.cell? ⟨w.heap.size, 6, none⟩ = some (.slice none 0 0) := by rw [cell_of_row _ _ _ _ _ _ HR3.out]; rfl
    have r7 : w3.cell? ⟨w.heap.size, 7, none⟩ = some (.int .i64 0) := by rw [cell_of_row _ _ _ _ _ _ HR3.out]; rfl
    have r8 : w3.cell? ⟨w.heap.size, 8, none⟩ = some (.int .i64 0) := by rw [cell_of_row _ _ _ _ _ _ HR3.out]; rfl
    have r9 : w3.cell? ⟨w.heap.size, 9, none⟩ = some (.string ⟨#[]⟩) := by rw [cell_of_row _ _ _ _ _ _ HR3.out]; rfl
    have r10 : w3.cell? ⟨w.heap.size, 10, none⟩ = some (.slice none 0 0) := by rw [cell_of_row _ _ _ _ _ _ HR3.out]; rfl
    have r11 : w3.cell? ⟨w.heap.size, 11, none⟩ = some (.bool false) := by rw [cell_of_row _ _ _ _ _ _ HR3.out]; rfl
    have r12 : w3.cell? ⟨w.heap.size, 12, none⟩ = some (.int .i64 0) := by rw [cell_of_row _ _ _ _ _ _ HR3.out]; rfl
    have rf : ∀ k, w3.frozen? ⟨w.heap.size, k, none⟩ = false := fun k => by simp [World.frozen?, HR3.out]
    go_wp2_with fail
    clear m0 m1 m2 m3 m4 m5 m6 m7 m8 m9 m10 m11 m12
    clear r0 r1 r2 r3 r4 r5 r6 r7 r8 r9 r10 r11 r12 rf
    have hst := stored13 HR3.out (.int .i64 kind) (.int .i64 number) (.int .i64 slot) (.int .i64 ends) (.string key) (.string text) (.slice Aa na ca) (.int .i64 rk) (.int .i64 ri) (.string rt) (.slice Ar rn cr) (.bool good) (.int .i64 asking)
    revert hst
    generalize (((((((((((((w3.setCell ⟨w.heap.size, 0, none⟩ (.int .i64 kind)).setCell ⟨w.heap.size, 1, none⟩ (.int .i64 number)).setCell ⟨w.heap.size, 2, none⟩ (.int .i64 slot)).setCell ⟨w.heap.size, 3, none⟩ (.int .i64 ends)).setCell ⟨w.heap.size, 4, none⟩ (.string key)).setCell ⟨w.heap.size, 5, none⟩ (.string text)).setCell ⟨w.heap.size, 6, none⟩ (.slice Aa na ca)).setCell ⟨w.heap.size, 7, none⟩ (.int .i64 rk)).setCell ⟨w.heap.size, 8, none⟩ (.int .i64 ri)).setCell ⟨w.heap.size, 9, none⟩ (.string rt)).setCell ⟨w.heap.size, 10, none⟩ (.slice Ar rn cr)).setCell ⟨w.heap.size, 11, none⟩ (.bool good)).setCell ⟨w.heap.size, 12, none⟩ (.int .i64 asking)) = wf
    rintro ⟨k0, k1, k2, k3, k4, k5, k6, k7, k8, k9, k10, k11, k12, hE⟩
    exact bodyPost_ret (v := .tuple #[.agg #[.int .i64 kind, .int .i64 number, .int .i64 slot, .int .i64 ends, .string key, .string text, .slice Aa na ca, .int .i64 rk, .int .i64 ri, .string rt, .slice Ar rn cr, .bool good, .int .i64 asking], .bool true]) (by simp [results, Try.results14, go_sem, k0, k1, k2, k3, k4, k5, k6, k7, k8, k9, k10, k11, k12]) rfl (HFin.out _ hE)
  by_cases h1 : nq = 1
  · subst h1
    have hvs : LtsAt (Now S w) W0 (.slice (some ⟨g, off + 13, none⟩) 0 (cq - 1)) q := by have := HLts.out; simpa [hc1] using this
    obtain ⟨w9, hup, hg9, hc9, hlk9, hdel9⟩ := (HL0.out.below HB5.out).next hp (v := .slice (some ⟨g, off + 13, none⟩) 0 (cq - 1)) (by rw [HE.out]; exact hvs.keep (.of_below HB5.out _)) hn
    simp only [keyV] at hup
    have HO9 := Lib.hid ((Off.of_below HB5.out b).trans (Off.of_grown hg9 (fun j e => by cases e; rfl)))
    have HC9 := Lib.hid hc9
    have HK9 := Lib.hid hlk9
    have HD9 := Lib.hid hdel9
    clear hvs hg9 hc9 hlk9 hdel9
    refine start_ (n := 8) (S := fun w' => w'.cell? ⟨bp, 0, none⟩ = some (.map (some b)) ∧ w'.cell? ⟨w.heap.size + 1, 0, none⟩ = some (.int .i64 p1) ∧ w'.cell? ⟨w.heap.size + 1, 1, none⟩ = some (.int .i64 p2)) (ds := [7]) #[false, false, false, false, false, false, false, false] (by kernel_rfl) rfl rfl (by rw [← HW5.out]; exact HS5.out W5 (Below.refl _ _)) (fun hHeld => ?_)
    rw [← HW5.out] at hHeld ⊢
    refine pure_ (i := 0) (N := some 23) (v := ?_) (a' := ?_) #[true, false, false, false, false, false, false, false] rfl rfl (by kernel_rfl) (fun _ _ _ h => h) (Or.inl ⟨by rfl, ?_⟩) ?_ ?_
    rotate_left
    · intro w'
      go_simp
      with_reducible rfl
    rotate_left
    · simp only [Act.put, List.setIfInBounds_toArray, List.set_cons_zero, List.set_cons_succ, i64_w, i32_w]
      rfl
    refine pure_ (i := 1) (N := some 24) (v := ?_) (a' := ?_) #[true, true, false, false, false, false, false, false] rfl rfl (by kernel_rfl) (fun _ _ _ h => h) (Or.inl ⟨by rfl, ?_⟩) ?_ ?_
    rotate_left
    · intro w'
      go_simp
      with_reducible rfl
    rotate_left
    · simp only [Act.put, List.setIfInBounds_toArray, List.set_cons_zero, List.set_cons_succ, i64_w, i32_w]
      rfl
    refine pure_ (i := 2) (N := some 25) (v := ?_) (a' := ?_) #[true, true, true, false, false, false, false, false] rfl rfl (by kernel_rfl) (fun _ _ _ h => h) (Or.inl ⟨by rfl, ?_⟩) ?_ ?_
    rotate_left
    · intro w'
      go_simp
      with_reducible rfl
    rotate_left
    · simp only [Act.put, List.setIfInBounds_toArray, List.set_cons_zero, List.set_cons_succ, i64_w, i32_w]
      rfl
    refine take_ (i := 3) (N := some 26) (v := ?_) (a' := ?_) #[true, true, true, true, false, false, false, false] rfl rfl (by kernel_rfl) (fun _ _ _ h => h) (Or.inl ⟨by rfl, ?_⟩) hHeld ?_ ?_
    rotate_left
    · rintro w' ⟨s0, s1, s2⟩
      go_simp
      with_reducible rfl
    rotate_left
    · simp only [Act.put, List.setIfInBounds_toArray, List.set_cons_zero, List.set_cons_succ, i64_w, i32_w]
      rfl
    refine take_ (i := 4) (N := some 27) (v := ?_) (a' := ?_) #[true, true, true, true, true, false, false, false] rfl rfl (by kernel_rfl) (fun _ _ _ h => h) (Or.inl ⟨by rfl, ?_⟩) hHeld ?_ ?_
    rotate_left
    · rintro w' ⟨s0, s1, s2⟩
      go_simp
      with_reducible rfl
    rotate_left
    · simp only [Act.put, List.setIfInBounds_toArray, List.set_cons_zero, List.set_cons_succ, i64_w, i32_w]
      rfl
    refine pure_ (i := 5) (N := some 28) (v := ?_) (a' := ?_) #[true, true, true, true, true, true, false, false] rfl rfl (by kernel_rfl) (fun _ _ _ h => h) (Or.inl ⟨by rfl, ?_⟩) ?_ ?_
    rotate_left
    · intro w'
      go_simp
      with_reducible rfl
    rotate_left
    · simp only [Act.put, List.setIfInBounds_toArray, List.set_cons_zero, List.set_cons_succ, i64_w, i32_w]
      rfl
    refine pure_ (i := 6) (N := some 29) (v := ?_) (a' := ?_) #[true, true, true, true, true, true, true, false] rfl rfl (by kernel_rfl) (fun _ _ _ h => h) (Or.inl ⟨by rfl, ?_⟩) ?_ ?_
    rotate_left
    · intro w'
      go_simp
      with_reducible rfl
    rotate_left
    · simp only [Act.put, List.setIfInBounds_toArray, List.set_cons_zero, List.set_cons_succ, i64_w, i32_w]
      rfl
    refine last_ (i := 7) (N := none) #[true, true, true, true, true, true, true, true] rfl rfl (by kernel_rfl) (by decide) (fun K hK => ?_)
    refine skip_ (w1 := w9) (by rfl) rfl (by go_simp) ?_
    refine hK.out _ _ ?_
    clear hK K
    refine done_ (by kernel_rfl) ?_
    clear hup
    go_wp2_with fail
    obtain ⟨W7, hW7⟩ : ∃ W7, W7 = w9.drew := ⟨_, rfl⟩
    have hb7 : Below w9.heap.size w9 W7 := by rw [hW7]; exact (Below.refl _ w9).drew
    have hp7 : W7.heap[w.heap.size + 1]? = _ := (hb7.block _ (Nat.lt_of_lt_of_le (lt_of_heap HP0.out) HO9.out.size)).trans ((HO9.out.block _ (lt_of_heap HP0.out) (by have := HL.out.lt; omega)).trans HP0.out)
    have hbp7 : W7.cell? ⟨bp, 0, none⟩ = some (.map (some b)) := by rw [hW7]; exact HC9.out
    have HS7 := Lib.hid (fun (w' : World) (hb : Below W7.heap.size W7 w') => show w'.cell? ⟨bp, 0, none⟩ = some (.map (some b)) ∧ w'.cell? ⟨w.heap.size + 1, 0, none⟩ = some (.int .i64 p1) ∧ w'.cell? ⟨w.heap.size + 1, 1, none⟩ = some (.int .i64 p2) from by
      have hp' := (hb.block _ (lt_of_heap hp7)).trans hp7
      refine ⟨(hb.cell (p := ⟨bp, 0, none⟩) (World.block_lt_of_cell? _ _ hbp7)).trans hbp7, ?_, ?_⟩
      · rw [cell_of_row _ _ _ _ _ _ hp']; rfl
      · rw [cell_of_row _ _ _ _ _ _ hp']; rfl)
    obtain ⟨w3, hr3, hg3, hl3⟩ := HD9.out (by rw [HE.out]; exact List.eq_nil_of_length_eq_zero (by have := HNq.out; show q.length = 0; omega)) W7 (by rw [hW7]; rfl)
    simp only [keyV] at hr3
    have HOf := Lib.hid ((HO9.out.trans (Off.of_below hb7 b)).trans (Off.of_grown hg3 (fun j e => by cases e; rfl)))
    have HLf := Lib.hid hl3
    have HW7 := Lib.hid hW7
    clear hW7 hb7 hp7 hbp7 hg3 hl3
    refine start_ (n := 6) (S := fun w' => w'.cell? ⟨bp, 0, none⟩ = some (.map (some b)) ∧ w'.cell? ⟨w.heap.size + 1, 0, none⟩ = some (.int .i64 p1) ∧ w'.cell? ⟨w.heap.size + 1, 1, none⟩ = some (.int .i64 p2)) (ds := [5]) #[false, false, false, false, false, false] (by kernel_rfl) rfl rfl (by rw [← HW7.out]; exact HS7.out W7 (Below.refl _ _)) (fun hHeld => ?_)
    rw [← HW7.out] at hHeld ⊢
    refine pure_ (i := 0) (N := some 33) (v := ?_) (a' := ?_) #[true, false, false, false, false, false] rfl rfl (by kernel_rfl) (fun _ _ _ h => h) (Or.inl ⟨by rfl, ?_⟩) ?_ ?_
    rotate_left
    · intro w'
      go_simp
      with_reducible rfl
    rotate_left
    · simp only [Act.put, List.setIfInBounds_toArray, List.set_cons_zero, List.set_cons_succ, i64_w, i32_w]
      rfl
    refine pure_ (i := 1) (N := some 34) (v := ?_) (a' := ?_) #[true, true, false, false, false, false] rfl rfl (by kernel_rfl) (fun _ _ _ h => h) (Or.inl ⟨by rfl, ?_⟩) ?_ ?_
    rotate_left
    · intro w'
      go_simp
      with_reducible rfl
    rotate_left
    · simp only [Act.put, List.setIfInBounds_toArray, List.set_cons_zero, List.set_cons_succ, i64_w, i32_w]
      rfl
    refine pure_ (i := 2) (N := some 35) (v := ?_) (a' := ?_) #[true, true, true, false, false, false] rfl rfl (by kernel_rfl) (fun _ _ _ h => h) (Or.inl ⟨by rfl, ?_⟩) ?_ ?_
    rotate_left
    · intro w'
      go_simp
      with_reducible rfl
    rotate_left
    · simp only [Act.put, List.setIfInBounds_toArray, List.set_cons_zero, List.set_cons_succ, i64_w, i32_w]
      rfl
    refine take_ (i := 3) (N := some 36) (v := ?_) (a' := ?_) #[true, true, true, true, false, false] rfl rfl (by kernel_rfl) (fun _ _ _ h => h) (Or.inl ⟨by rfl, ?_⟩) hHeld ?_ ?_
    rotate_left
    · rintro w' ⟨s0, s1, s2⟩
      go_simp
      with_reducible rfl
    rotate_left
    · simp only [Act.put, List.setIfInBounds_toArray, List.set_cons_zero, List.set_cons_succ, i64_w, i32_w]
      rfl
    refine take_ (i := 4) (N := some 37) (v := ?_) (a' := ?_) #[true, true, true, true, true, false] rfl rfl (by kernel_rfl) (fun _ _ _ h => h) (Or.inl ⟨by rfl, ?_⟩) hHeld ?_ ?_
    rotate_left
    · rintro w' ⟨s0, s1, s2⟩
      go_simp
      with_reducible rfl
    rotate_left
    · simp only [Act.put, List.setIfInBounds_toArray, List.set_cons_zero, List.set_cons_succ, i64_w, i32_w]
      rfl
    refine last_ (i := 5) (N := none) #[true, true, true, true, true, true] rfl rfl (by kernel_rfl) (by decide) (fun K hK => ?_)
    refine value_ (v := .tuple #[]) (w1 := w3) (by rfl) rfl (by go_simp) ?_
    refine hK.out _ _ ?_
    clear hK K
    refine done_ (by kernel_rfl) ?_
    clear hr3
    have HR3 := Lib.hid (show w3.heap[w.heap.size]? = _ from (HOf.out.block _ (lt_of_heap HR0.out) (by have := HL.out.lt; omega)).trans HR0.out)
    have hkp : Kp (Now S w) W0 w3 := HOf.out.kp _ HL0.out.walk
    have HFin := Lib.hid (fun (wf : World) (hE : Below w.heap.size w3 wf) => show Nexted S bp b (n + 1) (nextL ws (p1, p2)) ⟨kind, number, slot, ends, key, text, args, .mk rk ri rt rn rl, good, asking⟩ w (.returned (.tuple #[.agg #[.int .i64 kind, .int .i64 number, .int .i64 slot, .int .i64 ends, .string key, .string text, .slice Aa na ca, .int .i64 rk, .int .i64 ri, .string rt, .slice Ar rn cr, .bool good, .int .i64 asking], .bool true])) wf from by
      have hk2 : Kp (Now S w) w3 wf := ⟨hE.size, fun k o hk ho _ => (hE.block k hk.2).trans ho⟩
      refine ⟨_, _, rfl, ((HVa.out.keep hkp).keep hk2).mono Now.sub, ((HVr.out.keep hkp).keep hk2).mono Now.sub, (HLf.out.keep hk2 (hE.block b HL.out.lt.2)).mono Now.sub, ?_⟩
      have h1 := (Off.of_below HB0.out b).trans HOf.out
      exact ⟨hE.os.trans h1.os, hE.tape.trans h1.tape, hE.output.trans h1.output, Nat.le_trans h1.size hE.size, fun k hk hn => (hE.block k hk).trans (h1.block k hk hn)⟩)
    have m0 : w3.cell? ⟨g, off, none⟩ = some (.int .i64 kind) := (World.cell?_of_block (HOf.out.block g HGl.out hgb)).trans (by have := HCs.out 0 _ rfl; simpa using this)
    have m1 : w3.cell? ⟨g, off + 1, none⟩ = some (.int .i64 number) := (World.cell?_of_block (HOf.out.block g HGl.out hgb)).trans (by have := HCs.out 1 _ rfl; simpa using this)
    have m2 : w3.cell? ⟨g, off + 2, none⟩ = some (.int .i64 slot) := (World.cell?_of_block (HOf.out.block g HGl.out hgb)).trans (by have := HCs.out 2 _ rfl; simpa using this)
    have m3 : w3.cell? ⟨g, off + 3, none⟩ = some (.int .i64 ends) := (World.cell?_of_block (HOf.out.block g HGl.out hgb)).trans (by have := HCs.out 3 _ rfl; simpa using this)
    have m4 : w3.cell? ⟨g, off + 4, none⟩ = some (.string key) := (World.cell?_of_block (HOf.out.block g HGl.out hgb)).trans (by have := HCs.out 4 _ rfl; simpa using this)
    have m5 : w3.cell? ⟨g, off + 5, none⟩ = some (.string text) := (World.cell?_of_block (HOf.out.block g HGl.out hgb)).trans (by have := HCs.out 5 _ rfl; simpa using this)
    have m6 : w3.cell? ⟨g, off + 6, none⟩ = some (.slice Aa na ca) := (World.cell?_of_block (HOf.out.block g HGl.out hgb)).trans (by have := HCs.out 6 _ rfl; simpa using this)
    have m7 : w3.cell? ⟨g, off + 7, none⟩ = some (.int .i64 rk) := (World.cell?_of_block (HOf.out.block g HGl.out hgb)).trans (by have := HCs.out 7 _ rfl; simpa using this)
    have m8 : w3.cell? ⟨g, off + 8, none⟩ = some (.int .i64 ri) := (World.cell?_of_block (HOf.out.block g HGl.out hgb)).trans (by have := HCs.out 8 _ rfl; simpa using this)
    have m9 : w3.cell? ⟨g, off + 9, none⟩ = some (.string rt) := (World.cell?_of_block (HOf.out.block g HGl.out hgb)).trans (by have := HCs.out 9 _ rfl; simpa using this)
    have m10 : w3.cell? ⟨g, off + 10, none⟩ = some (.slice Ar rn cr) := (World.cell?_of_block (HOf.out.block g HGl.out hgb)).trans (by have := HCs.out 10 _ rfl; simpa using this)
    have m11 : w3.cell? ⟨g, off + 11, none⟩ = some (.bool good) := (World.cell?_of_block (HOf.out.block g HGl.out hgb)).trans (by have := HCs.out 11 _ rfl; simpa using this)
    have m12 : w3.cell? ⟨g, off + 12, none⟩ = some (.int .i64 asking) := (World.cell?_of_block (HOf.out.block g HGl.out hgb)).trans (by have := HCs.out 12 _ rfl; simpa using this)
    clear hkp
    have r0 : w3.cell? ⟨w.heap.size, 0, none⟩ = some (.int .i64 0) := by rw [cell_of_row _ _ _ _ _ _ HR3.out]; rfl
    have r1 : w3.cell? ⟨w.heap.size, 1, none⟩ = some (.int .i64 0) := by rw [cell_of_row _ _ _ _ _ _ HR3.out]; rfl
    have r2 : w3.cell? ⟨w.heap.size, 2, none⟩ = some (.int .i64 0) := by rw [cell_of_row _ _ _ _ _ _ HR3.out]; rfl
    have r3 : w3.cell? ⟨w.heap.size, 3, none⟩ = some (.int .i64 0) := by rw [cell_of_row _ _ _ _ _ _ HR3.out]; rfl
    have r4 : w3.cell? ⟨w.heap.size, 4, none⟩ = some (.string ⟨#[]⟩) := by rw [cell_of_row _ _ _ _ _ _ HR3.out]; rfl
    have r5 : w3.cell? ⟨w.heap.size, 5, none⟩ = some (.string ⟨#[]⟩) := by rw [cell_of_row _ _ _ _ _ _ HR3.out]; rfl
    have r6 : w3.cell? ⟨w.heap.size, 6, none⟩ = some (.slice none 0 0) := by rw [cell_of_row _ _ _ _ _ _ HR3.out]; rfl
    have r7 : w3.cell? ⟨w.heap.size, 7, none⟩ = some (.int .i64 0) := by rw [cell_of_row _ _ _ _ _ _ HR3.out]; rfl
    have r8 : w3.cell? ⟨w.heap.size, 8, none⟩ = some (.int .i64 0) := by rw [cell_of_row _ _ _ _ _ _ HR3.out]; rfl
    have r9 : w3.cell? ⟨w.heap.size, 9, none⟩ = some (.string ⟨#[]⟩) := by rw [cell_of_row _ _ _ _ _ _ HR3.out]; rfl
    have r10 : w3.cell? ⟨w.heap.size, 10, none⟩ = some (.slice none 0 0) := by rw [cell_of_row _ _ _ _ _ _ HR3.out]; rfl
    have r11 : w3.cell? ⟨w.heap.size, 11, none⟩ = some (.bool false) := by rw [cell_of_row _ _ _ _ _ _ HR3.out]; rfl
    have r12 : w3.cell? ⟨w.heap.size, 12, none⟩ = some (.int .i64 0) := by rw [cell_of_row _ _ _ _ _ _ HR3.out]; rfl
    have rf : ∀ k, w3.frozen? ⟨w.heap.size, k, none⟩ = false := fun k => by simp [World.frozen?, HR3.out]
    go_wp2_with fail
    clear m0 m1 m2 m3 m4 m5 m6 m7 m8 m9 m10 m11 m12
    clear r0 r1 r2 r3 r4 r5 r6 r7 r8 r9 r10 r11 r12 rf
    have hst := stored13 HR3.out (.int .i64 kind) (.int .i64 number) (.int .i64 slot) (.int .i64 ends) (.string key) (.string text) (.slice Aa na ca) (.int .i64 rk) (.int .i64 ri) (.string rt) (.slice Ar rn cr) (.bool good) (.int .i64 asking)
    revert hst
    generalize (((((((((((((w3.setCell ⟨w.heap.size, 0, none⟩ (.int .i64 kind)).setCell ⟨w.heap.size, 1, none⟩ (.int .i64 number)).setCell ⟨w.heap.size, 2, none⟩ (.int .i64 slot)).setCell ⟨w.heap.size, 3, none⟩ (.int .i64 ends)).setCell ⟨w.heap.size, 4, none⟩ (.string key)).setCell ⟨w.heap.size, 5, none⟩ (.string text)).setCell ⟨w.heap.size, 6, none⟩ (.slice Aa na ca)).setCell ⟨w.heap.size, 7, none⟩ (.int .i64 rk)).setCell ⟨w.heap.size, 8, none⟩ (.int .i64 ri)).setCell ⟨w.heap.size, 9, none⟩ (.string rt)).setCell ⟨w.heap.size, 10, none⟩ (.slice Ar rn cr)).setCell ⟨w.heap.size, 11, none⟩ (.bool good)).setCell ⟨w.heap.size, 12, none⟩ (.int .i64 asking)) = wf
    rintro ⟨k0, k1, k2, k3, k4, k5, k6, k7, k8, k9, k10, k11, k12, hE⟩
    exact bodyPost_ret (v := .tuple #[.agg #[.int .i64 kind, .int .i64 number, .int .i64 slot, .int .i64 ends, .string key, .string text, .slice Aa na ca, .int .i64 rk, .int .i64 ri, .string rt, .slice Ar rn cr, .bool good, .int .i64 asking], .bool true]) (by simp [results, Try.results14, go_sem, k0, k1, k2, k3, k4, k5, k6, k7, k8, k9, k10, k11, k12]) rfl (HFin.out _ hE)
  · have hq1 : ((nq : Int) == 1) = false := by rw [beq_eq_false_iff_ne]; omega
    have hnq0 : 0 < nq := by omega
    have hvs : LtsAt (Now S w) W0 (.slice (some ⟨g, off + 13, none⟩) (nq - 1) (cq - 1)) q := by have := HLts.out; simpa [hc1] using this
    obtain ⟨w9, hup, hg9, hc9, hlk9, hdel9⟩ := (HL0.out.below HB5.out).next hp (v := .slice (some ⟨g, off + 13, none⟩) (nq - 1) (cq - 1)) (by rw [HE.out]; exact hvs.keep (.of_below HB5.out _)) hn
    simp only [keyV] at hup
    have HO9 := Lib.hid ((Off.of_below HB5.out b).trans (Off.of_grown hg9 (fun j e => by cases e; rfl)))
    have HC9 := Lib.hid hc9
    have HK9 := Lib.hid hlk9
    have HD9 := Lib.hid hdel9
    clear hvs hg9 hc9 hlk9 hdel9
    refine start_ (n := 8) (S := fun w' => w'.cell? ⟨bp, 0, none⟩ = some (.map (some b)) ∧ w'.cell? ⟨w.heap.size + 1, 0, none⟩ = some (.int .i64 p1) ∧ w'.cell? ⟨w.heap.size + 1, 1, none⟩ = some (.int .i64 p2)) (ds := [7]) #[false, false, false, false, false, false, false, false] (by kernel_rfl) rfl rfl (by rw [← HW5.out]; exact HS5.out W5 (Below.refl _ _)) (fun hHeld => ?_)
    rw [← HW5.out] at hHeld ⊢
    refine pure_ (i := 0) (N := some 23) (v := ?_) (a' := ?_) #[true, false, false, false, false, false, false, false] rfl rfl (by kernel_rfl) (fun _ _ _ h => h) (Or.inl ⟨by rfl, ?_⟩) ?_ ?_
    rotate_left
    · intro w'
      go_simp
      with_reducible rfl
    rotate_left
    · simp only [Act.put, List.setIfInBounds_toArray, List.set_cons_zero, List.set_cons_succ, i64_w, i32_w]
      rfl
    refine pure_ (i := 1) (N := some 24) (v := ?_) (a' := ?_) #[true, true, false, false, false, false, false, false] rfl rfl (by kernel_rfl) (fun _ _ _ h => h) (Or.inl ⟨by rfl, ?_⟩) ?_ ?_
    rotate_left
    · intro w'
      go_simp
      with_reducible rfl
    rotate_left
    · simp only [Act.put, List.setIfInBounds_toArray, List.set_cons_zero, List.set_cons_succ, i64_w, i32_w]
      rfl
    refine pure_ (i := 2) (N := some 25) (v := ?_) (a' := ?_) #[true, true, true, false, false, false, false, false] rfl rfl (by kernel_rfl) (fun _ _ _ h => h) (Or.inl ⟨by rfl, ?_⟩) ?_ ?_
    rotate_left
    · intro w'
      go_simp
      with_reducible rfl
    rotate_left
    · simp only [Act.put, List.setIfInBounds_toArray, List.set_cons_zero, List.set_cons_succ, i64_w, i32_w]
      rfl
    refine take_ (i := 3) (N := some 26) (v := ?_) (a' := ?_) #[true, true, true, true, false, false, false, false] rfl rfl (by kernel_rfl) (fun _ _ _ h => h) (Or.inl ⟨by rfl, ?_⟩) hHeld ?_ ?_
    rotate_left
    · rintro w' ⟨s0, s1, s2⟩
      go_simp
      with_reducible rfl
    rotate_left
    · simp only [Act.put, List.setIfInBounds_toArray, List.set_cons_zero, List.set_cons_succ, i64_w, i32_w]
      rfl
    refine take_ (i := 4) (N := some 27) (v := ?_) (a' := ?_) #[true, true, true, true, true, false, false, false] rfl rfl (by kernel_rfl) (fun _ _ _ h => h) (Or.inl ⟨by rfl, ?_⟩) hHeld ?_ ?_
    rotate_left
    · rintro w' ⟨s0, s1, s2⟩
      go_simp
      with_reducible rfl
    rotate_left
    · simp only [Act.put, List.setIfInBounds_toArray, List.set_cons_zero, List.set_cons_succ, i64_w, i32_w]
      rfl
    refine pure_ (i := 5) (N := some 28) (v := ?_) (a' := ?_) #[true, true, true, true, true, true, false, false] rfl rfl (by kernel_rfl) (fun _ _ _ h => h) (Or.inl ⟨by rfl, ?_⟩) ?_ ?_
    rotate_left
    · intro w'
      go_simp
      with_reducible rfl
    rotate_left
    · simp only [Act.put, List.setIfInBounds_toArray, List.set_cons_zero, List.set_cons_succ, i64_w, i32_w]
      rfl
    refine pure_ (i := 6) (N := some 29) (v := ?_) (a' := ?_) #[true, true, true, true, true, true, true, false] rfl rfl (by kernel_rfl) (fun _ _ _ h => h) (Or.inl ⟨by rfl, ?_⟩) ?_ ?_
    rotate_left
    · intro w'
      go_simp
      with_reducible rfl
    rotate_left
    · simp only [Act.put, List.setIfInBounds_toArray, List.set_cons_zero, List.set_cons_succ, i64_w, i32_w]
      rfl
    refine last_ (i := 7) (N := none) #[true, true, true, true, true, true, true, true] rfl rfl (by kernel_rfl) (by decide) (fun K hK => ?_)
    refine skip_ (w1 := w9) (by rfl) rfl (by go_simp) ?_
    refine hK.out _ _ ?_
    clear hK K
    refine done_ (by kernel_rfl) ?_
    clear hup
    have HOf := Lib.hid HO9.out
    have HLf := Lib.hid (HK9.out (by rw [HE.out]; intro e; have e' : q = [] := e; have := HNq.out; rw [e'] at this; simp at this; omega))
    have HR3 := Lib.hid (show w9.heap[w.heap.size]? = _ from (HOf.out.block _ (lt_of_heap HR0.out) (by have := HL.out.lt; omega)).trans HR0.out)
    have hkp : Kp (Now S w) W0 w9 := HOf.out.kp _ HL0.out.walk
    have HFin := Lib.hid (fun (wf : World) (hE : Below w.heap.size w9 wf) => show Nexted S bp b (n + 1) (nextL ws (p1, p2)) ⟨kind, number, slot, ends, key, text, args, .mk rk ri rt rn rl, good, asking⟩ w (.returned (.tuple #[.agg #[.int .i64 kind, .int .i64 number, .int .i64 slot, .int .i64 ends, .string key, .string text, .slice Aa na ca, .int .i64 rk, .int .i64 ri, .string rt, .slice Ar rn cr, .bool good, .int .i64 asking], .bool true])) wf from by
      have hk2 : Kp (Now S w) w9 wf := ⟨hE.size, fun k o hk ho _ => (hE.block k hk.2).trans ho⟩
      refine ⟨_, _, rfl, ((HVa.out.keep hkp).keep hk2).mono Now.sub, ((HVr.out.keep hkp).keep hk2).mono Now.sub, (HLf.out.keep hk2 (hE.block b HL.out.lt.2)).mono Now.sub, ?_⟩
      have h1 := (Off.of_below HB0.out b).trans HOf.out
      exact ⟨hE.os.trans h1.os, hE.tape.trans h1.tape, hE.output.trans h1.output, Nat.le_trans h1.size hE.size, fun k hk hn => (hE.block k hk).trans (h1.block k hk hn)⟩)
    have m0 : w9.cell? ⟨g, off, none⟩ = some (.int .i64 kind) := (World.cell?_of_block (HOf.out.block g HGl.out hgb)).trans (by have := HCs.out 0 _ rfl; simpa using this)
    have m1 : w9.cell? ⟨g, off + 1, none⟩ = some (.int .i64 number) := (World.cell?_of_block (HOf.out.block g HGl.out hgb)).trans (by have := HCs.out 1 _ rfl; simpa using this)
    have m2 : w9.cell? ⟨g, off + 2, none⟩ = some (.int .i64 slot) := (World.cell?_of_block (HOf.out.block g HGl.out hgb)).trans (by have := HCs.out 2 _ rfl; simpa using this)
    have m3 : w9.cell? ⟨g, off + 3, none⟩ = some (.int .i64 ends) := (World.cell?_of_block (HOf.out.block g HGl.out hgb)).trans (by have := HCs.out 3 _ rfl; simpa using this)
    have m4 : w9.cell? ⟨g, off + 4, none⟩ = some (.string key) := (World.cell?_of_block (HOf.out.block g HGl.out hgb)).trans (by have := HCs.out 4 _ rfl; simpa using this)
    have m5 : w9.cell? ⟨g, off + 5, none⟩ = some (.string text) := (World.cell?_of_block (HOf.out.block g HGl.out hgb)).trans (by have := HCs.out 5 _ rfl; simpa using this)
    have m6 : w9.cell? ⟨g, off + 6, none⟩ = some (.slice Aa na ca) := (World.cell?_of_block (HOf.out.block g HGl.out hgb)).trans (by have := HCs.out 6 _ rfl; simpa using this)
    have m7 : w9.cell? ⟨g, off + 7, none⟩ = some (.int .i64 rk) := (World.cell?_of_block (HOf.out.block g HGl.out hgb)).trans (by have := HCs.out 7 _ rfl; simpa using this)
    have m8 : w9.cell? ⟨g, off + 8, none⟩ = some (.int .i64 ri) := (World.cell?_of_block (HOf.out.block g HGl.out hgb)).trans (by have := HCs.out 8 _ rfl; simpa using this)
    have m9 : w9.cell? ⟨g, off + 9, none⟩ = some (.string rt) := (World.cell?_of_block (HOf.out.block g HGl.out hgb)).trans (by have := HCs.out 9 _ rfl; simpa using this)
    have m10 : w9.cell? ⟨g, off + 10, none⟩ = some (.slice Ar rn cr) := (World.cell?_of_block (HOf.out.block g HGl.out hgb)).trans (by have := HCs.out 10 _ rfl; simpa using this)
    have m11 : w9.cell? ⟨g, off + 11, none⟩ = some (.bool good) := (World.cell?_of_block (HOf.out.block g HGl.out hgb)).trans (by have := HCs.out 11 _ rfl; simpa using this)
    have m12 : w9.cell? ⟨g, off + 12, none⟩ = some (.int .i64 asking) := (World.cell?_of_block (HOf.out.block g HGl.out hgb)).trans (by have := HCs.out 12 _ rfl; simpa using this)
    clear hkp
    have r0 : w9.cell? ⟨w.heap.size, 0, none⟩ = some (.int .i64 0) := by rw [cell_of_row _ _ _ _ _ _ HR3.out]; rfl
    have r1 : w9.cell? ⟨w.heap.size, 1, none⟩ = some (.int .i64 0) := by rw [cell_of_row _ _ _ _ _ _ HR3.out]; rfl
    have r2 : w9.cell? ⟨w.heap.size, 2, none⟩ = some (.int .i64 0) := by rw [cell_of_row _ _ _ _ _ _ HR3.out]; rfl
    have r3 : w9.cell? ⟨w.heap.size, 3, none⟩ = some (.int .i64 0) := by rw [cell_of_row _ _ _ _ _ _ HR3.out]; rfl
    have r4 : w9.cell? ⟨w.heap.size, 4, none⟩ = some (.string ⟨#[]⟩) := by rw [cell_of_row _ _ _ _ _ _ HR3.out]; rfl
    have r5 : w9.cell? ⟨w.heap.size, 5, none⟩ = some (.string ⟨#[]⟩) := by rw [cell_of_row _ _ _ _ _ _ HR3.out]; rfl
    have r6 : w9.cell? ⟨w.heap.size, 6, none⟩ = some (.slice none 0 0) := by rw [cell_of_row _ _ _ _ _ _ HR3.out]; rfl
    have r7 : w9.cell? ⟨w.heap.size, 7, none⟩ = some (.int .i64 0) := by rw [cell_of_row _ _ _ _ _ _ HR3.out]; rfl
    have r8 : w9.cell? ⟨w.heap.size, 8, none⟩ = some (.int .i64 0) := by rw [cell_of_row _ _ _ _ _ _ HR3.out]; rfl
    have r9 : w9.cell? ⟨w.heap.size, 9, none⟩ = some (.string ⟨#[]⟩) := by rw [cell_of_row _ _ _ _ _ _ HR3.out]; rfl
    have r10 : w9.cell? ⟨w.heap.size, 10, none⟩ = some (.slice none 0 0) := by rw [cell_of_row _ _ _ _ _ _ HR3.out]; rfl
    have r11 : w9.cell? ⟨w.heap.size, 11, none⟩ = some (.bool false) := by rw [cell_of_row _ _ _ _ _ _ HR3.out]; rfl
    have r12 : w9.cell? ⟨w.heap.size, 12, none⟩ = some (.int .i64 0) := by rw [cell_of_row _ _ _ _ _ _ HR3.out]; rfl
    have rf : ∀ k, w9.frozen? ⟨w.heap.size, k, none⟩ = false := fun k => by simp [World.frozen?, HR3.out]
    go_wp2_with fail
    clear m0 m1 m2 m3 m4 m5 m6 m7 m8 m9 m10 m11 m12
    clear r0 r1 r2 r3 r4 r5 r6 r7 r8 r9 r10 r11 r12 rf
    have hst := stored13 HR3.out (.int .i64 kind) (.int .i64 number) (.int .i64 slot) (.int .i64 ends) (.string key) (.string text) (.slice Aa na ca) (.int .i64 rk) (.int .i64 ri) (.string rt) (.slice Ar rn cr) (.bool good) (.int .i64 asking)
    revert hst
    generalize (((((((((((((w9.setCell ⟨w.heap.size, 0, none⟩ (.int .i64 kind)).setCell ⟨w.heap.size, 1, none⟩ (.int .i64 number)).setCell ⟨w.heap.size, 2, none⟩ (.int .i64 slot)).setCell ⟨w.heap.size, 3, none⟩ (.int .i64 ends)).setCell ⟨w.heap.size, 4, none⟩ (.string key)).setCell ⟨w.heap.size, 5, none⟩ (.string text)).setCell ⟨w.heap.size, 6, none⟩ (.slice Aa na ca)).setCell ⟨w.heap.size, 7, none⟩ (.int .i64 rk)).setCell ⟨w.heap.size, 8, none⟩ (.int .i64 ri)).setCell ⟨w.heap.size, 9, none⟩ (.string rt)).setCell ⟨w.heap.size, 10, none⟩ (.slice Ar rn cr)).setCell ⟨w.heap.size, 11, none⟩ (.bool good)).setCell ⟨w.heap.size, 12, none⟩ (.int .i64 asking)) = wf
    rintro ⟨k0, k1, k2, k3, k4, k5, k6, k7, k8, k9, k10, k11, k12, hE⟩
    exact bodyPost_ret (v := .tuple #[.agg #[.int .i64 kind, .int .i64 number, .int .i64 slot, .int .i64 ends, .string key, .string text, .slice Aa na ca, .int .i64 rk, .int .i64 ri, .string rt, .slice Ar rn cr, .bool good, .int .i64 asking], .bool true]) (by simp [results, Try.results14, go_sem, k0, k1, k2, k3, k4, k5, k6, k7, k8, k9, k10, k11, k12]) rfl (HFin.out _ hE)
end Go.Proofs.Ytjplobfacdcgcaa
