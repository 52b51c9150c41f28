/-
  Slices.Delete at a room, walked. Conditions: those that each theorem states.
-/
import Derived.Test.YtflndbgaidhbaaaDoorX8
import Derived.Test.YtflndbgaidhbaaaDoorMem5
import Derived.Deep.RegionLaw
namespace Go.Proofs.YtflndbgaidhbaaaDoor
open Go.RowKit Dm

theorem zero82 (w : World) : (zeroValue 82).run Tryd.prog w = .ok (.agg #[.string ⟨#[]⟩, .int .i64 0]) w := by
  obtain ⟨i0, hi, hz, _, _⟩ := info_parts info82
  simp [zeroValue, typeInfo, hi, hz]

theorem sdel_cell {w : World} {g cap i : Nat} {cur : Array Value} (hg : w.heap[g]? = some (.cells cur 82 (0, 0))) (hc : cur.size = cap) (hi : i < cap) : (w.cell? ⟨g, i, none⟩).isSome = true ∧ w.frozen? ⟨g, i, none⟩ = false := by
  refine ⟨?_, by simp [World.frozen?, hg]⟩
  rw [cell_of_row w g i cur 82 (0, 0) hg, Array.getElem?_eq_getElem (by omega)]
  rfl

set_option maxHeartbeats 3200000 in
set_option maxRecDepth 100000 in
theorem sdel_any (g n cap k : Nat) (r : Room Int) (w : World) (hn : n = r.length) (hr : RoomAt 82 2 KI.enc w (.slice (some ⟨g, 0, none⟩) r.length (cap + 1)) r) (hk : k < r.length) (hl : r.length ≤ 400000) :
    Calls Tryd.prog 45 #[.slice (some ⟨g, 0, none⟩) n (cap + 1), .int .i64 (k : Int), .int .i64 ((k : Int) + 1)] w fun e w' =>
      e = .returned (.slice (some ⟨g, 0, none⟩) (n - 1) (cap + 1)) ∧ RoomAt 82 2 KI.enc w' (.slice (some ⟨g, 0, none⟩) (n - 1) (cap + 1)) (r.eraseIdx k) ∧ Fr (fun b => b = g) w w' := by
  obtain ⟨cur, hg, hle, hm, hc, ht⟩ := room_cells KI.hs hr
  obtain ⟨i0, hi0, hz0, hz1, hz2⟩ := info_parts info82
  unfold maxLen at hm
  have hglt := lt_of_heap hg
  obtain ⟨news, hnews⟩ : ∃ news, news = roomCells KI.enc (r.drop (k + 1)) := ⟨_, rfl⟩
  have hlen : news.length = (n - (k + 1)) * 2 := by rw [hnews, roomCells_length KI.hs, List.length_drop, hn]; rfl
  have hszk : KI.sz = 2 := rfl
  obtain ⟨A, hA, hsrc'⟩ : ∃ A : Addr, (if cap + 1 = k + 1 then some (⟨g, 0, none⟩ : Addr) else some ⟨g, (k + 1) * 2, none⟩) = some A ∧ (∀ t u, news[t]? = some u → w.drew.cell? (A.add t) = some u) := by
    by_cases h : cap + 1 = k + 1
    · refine ⟨⟨g, 0, none⟩, if_pos h, fun t u hu => ?_⟩
      have h0 : news.length = 0 := by rw [hlen]; omega
      rw [List.length_eq_zero_iff.1 h0] at hu
      simp at hu
    · refine ⟨⟨g, (k + 1) * 2, none⟩, if_neg h, fun t u hu => ?_⟩
      have e1 : roomCells KI.enc r = roomCells KI.enc (r.take (k + 1)) ++ news := by rw [hnews, ← roomCells_append, List.take_append_drop]
      have e2 : (roomCells KI.enc (r.take (k + 1))).length = (k + 1) * 2 := by rw [roomCells_length KI.hs, List.length_take, Nat.min_eq_left (by omega)]; rfl
      have e3 : (roomCells KI.enc r)[(k + 1) * 2 + t]? = some u := by rw [e1, List.getElem?_append_right (by omega), e2, Nat.add_sub_cancel_left]; exact hu
      rw [← ht, List.getElem?_take] at e3
      rw [Addr.add_lit]
      show w.cell? _ = _
      rw [cell_of_row w g _ cur 82 (0, 0) hg]
      split at e3
      · simpa using e3
      · simp at e3
  have hsrc := Lib.hid hsrc'
  clear hsrc'
  have s1 := Lib.hid hlen
  have s2' : (∀ u ∈ news, u.oneCell' = true) := by
    intro u hu
    rw [hnews] at hu
    unfold roomCells at hu
    obtain ⟨x, _, hx⟩ := List.mem_flatMap.1 hu
    rcases List.mem_cons.1 hx with rfl | hx
    · rfl
    · exact KI.h1 _ u hx
  have s3' : (∀ t, t < news.length → (w.drew.cell? ⟨g, 0 + k * 2 + t, none⟩).isSome = true ∧ w.drew.frozen? ⟨g, 0 + k * 2 + t, none⟩ = false) := by
    intro t ht'
    rw [hlen] at ht'
    exact sdel_cell (w := w) hg hc (by rw [hszk]; omega)
  have s2 := Lib.hid s2'
  have s3 := Lib.hid s3'
  clear s2' s3'
  obtain ⟨W1, hW1⟩ : ∃ W1, W1 = w.drew.setCells g (0 + k * 2) news := ⟨_, rfl⟩
  have hW := Lib.hid hW1
  have hW1g : W1.heap[g]? = some (.cells (laid cur (0 + k * 2) news) 82 (0, 0)) := by rw [hW1]; exact setCells_blk (w := w.drew) _ hg
  have hcl : ∀ ty, (Builtin.clear_ #[80] ty #[.slice (some ⟨g, (k + (n - (k + 1))) * 2, none⟩) (n - (k + (n - (k + 1)))) (cap + 1 - (k + (n - (k + 1))))]).run Tryd.prog W1 = .ok (.tuple #[]) (W1.setCells g ((k + (n - (k + 1))) * 2) [.string ⟨#[]⟩, .int .i64 0]) := by
    intro ty
    refine run_clear_cells W1 _ _ ty _ Tryd.underlying80 zero82 _ (by omega) g _ _ _ ?_ ?_ ?_ ?_
    · rw [show n - (k + (n - (k + 1))) = 1 by omega]; kernel_rfl
    · intro v hv; simp at hv; rcases hv with rfl | rfl <;> rfl
    · intro j hj; simp at hj; exact (sdel_cell hW1g ((laid_size _ _ _).trans hc) (by rw [hszk]; omega)).1
    · intro j hj; simp at hj; exact (sdel_cell hW1g ((laid_size _ _ _).trans hc) (by rw [hszk]; omega)).2
  have hfin : RoomAt 82 2 KI.enc (W1.setCells g ((k + (n - (k + 1))) * 2) [.string ⟨#[]⟩, .int .i64 0]) (.slice (some ⟨g, 0, none⟩) (n - 1) (cap + 1)) (r.eraseIdx k) ∧ Fr (fun b => b = g) w (W1.setCells g ((k + (n - (k + 1))) * 2) [.string ⟨#[]⟩, .int .i64 0]) := by
    refine ⟨?_, ?_⟩
    · have := room_erase (w := w.drew) KI.hs (show RoomAt 82 2 KI.enc w.drew (.slice (some ⟨g, 0, none⟩) r.length (cap + 1)) r from hr) hk (zs := [.string ⟨#[]⟩, .int .i64 0]) rfl
      rw [hW1, hnews, Nat.zero_add, show k + (n - (k + 1)) = r.length - 1 by omega, hn]
      exact this
    · rw [hW1]
      exact Fr.setCells (S := fun b => b = g) (.inl rfl) _ _ (Fr.setCells (S := fun b => b = g) (.inl rfl) _ _ (Fr.refl _ w).drew)
  have HFin := Lib.hid hfin
  clear hW1 hW1g hfin hg ht hc hnews hlen hr
  have hnl : n ≤ 400000 := by omega
  have hkn : k < n := by omega
  have hnc : n ≤ cap + 1 := by omega
  have hic : (k : Int) ≤ (cap : Int) + 1 := by omega
  have hjc : (k : Int) ≤ (cap : Int) := by omega
  have hA2 : (if cap = k then some (⟨g, 0, none⟩ : Addr) else some ⟨g, (k + 1) * 2, none⟩) = some A := by
    rw [← hA]; by_cases h : cap = k
    · rw [if_pos h, if_pos (by omega)]
    · rw [if_neg h, if_neg (by omega)]
  have hk1 : 0 ≤ (k : Int) + 1 := by omega
  have hk2 : (k : Int) + 1 ≤ (n : Int) := by omega
  clear hn hk hl hle
  go_enter Tryd.func45, Tryd.ntmps45
  go_wp2_with fail
  go_region_law (refine step_append_room rfl (.tmp 22) (.tmp 25) 80 rfl 82 i0 2 Tryd.underlying80 hi0 hz1 g 0 k (cap + 1) (by simp [Act.eval, Act.put]) A (n - (k + 1)) (cap - k) news (by simp [Act.eval, Act.put]) s1.out hsrc.out s2.out (by omega) s3.out ?_; rw [← hW.out])
  go_wp2
  go_ret
  rw [show n - 1 = k + (n - (k + 1)) by omega] at HFin ⊢
  exact ⟨rfl, HFin.out⟩
end Go.Proofs.YtflndbgaidhbaaaDoor
