/-
  Begin, walked: a newer table. Conditions: those that each theorem states.
-/
import Derived.Test.YtflndbgaidhbaaaDoorX4
import Derived.Test.YtflndbgaidhbaaaDoorMem3
import Derived.Deep.OwnRows
import Derived.ChangeAlike
namespace Go.Proofs.YtflndbgaidhbaaaDoor
open Go.RowKit Dm

theorem info80 : (Tryd.prog.info? 80).map (fun i => (i.zero, i.size, i.bytes)) = some (some (.slice none 0 0), 1, 24) := by kernel_rfl
theorem info82 : (Tryd.prog.info? 82).map (fun i => (i.zero, i.size, i.bytes)) = some (some (.agg #[.string ⟨#[]⟩, .int .i64 0]), 2, 24) := by kernel_rfl

theorem made_get (n i : Nat) (h : i < n) : (madeCells #[Value.slice none 0 0] n)[i]? = some (.slice none 0 0) := by
  simp [madeCells, h, Nat.mod_one]

/-- A new table. -/
theorem tab_new {w : World} {g n t : Nat} (hg : w.heap[g]? = some (.cells (madeCells #[Value.slice none 0 0] n) t (0, 0))) (hn : n ≤ 1000000) : TabAt 82 2 t KI.enc w g (madeCells #[Value.slice none 0 0] n) (List.replicate n ([] : Room Int)) := by
  refine ⟨hg, by simp [size_madeCells], by simp only [size_madeCells, maxLen]; omega, fun i r hi => ?_⟩
  rw [List.getElem?_replicate] at hi
  split at hi
  · rename_i h
    obtain rfl := Option.some.inj hi
    exact ⟨_, made_get n i h, room_nil w⟩
  · simp at hi
theorem in_new {n m b : Nat} : ¬ In (madeCells #[Value.slice none 0 0] n) m b := by
  rintro ⟨i, u, hi, hu, hb⟩
  have hl := (Array.getElem?_eq_some_iff.1 hu).1
  rw [size_madeCells] at hl
  rw [made_get n i hl] at hu
  obtain rfl := Option.some.inj hu
  simp [rb] at hb

theorem begin_after {w w' : World} {L : Lo} {d : D Int} {n : Nat} (hd : DictAt KI w L d) (hpos : 0 < d.now.length) (hn : n ≤ 1000000)
    (hw : w' = (((w.setCell ⟨L.bp, 1, none⟩ (.slice (some ⟨L.gn, 0, none⟩) d.now.length L.cn.size)).setCell ⟨L.bp, 0, none⟩ (.slice (some ⟨w.heap.size, 0, none⟩) n n)).alloc (.cells (madeCells #[Value.slice none 0 0] n) 80)).drew) :
    After KI w L d (begin_ d n) w' := by
  have hbp := lt_of_heap hd.blk
  have hgn := lt_of_heap hd.now.1
  have hne := hd.gn_ne
  have hsz : ((w.setCell ⟨L.bp, 1, none⟩ (.slice (some ⟨L.gn, 0, none⟩) d.now.length L.cn.size)).setCell ⟨L.bp, 0, none⟩ (.slice (some ⟨w.heap.size, 0, none⟩) n n)).heap.size = w.heap.size := by simp [World.setCell]
  have hblk : w'.heap[L.bp]? = some (.cells #[.slice (some ⟨w.heap.size, 0, none⟩) n n, .slice (some ⟨L.gn, 0, none⟩) d.now.length L.cn.size, .int .i64 d.next, .int .i64 d.many] 74 (0, 0)) := by
    rw [hw]
    refine (Below.heap_alloc _ _ _ (by rw [hsz]; exact hbp)).trans ?_
    exact setCell_blk (setCell_blk hd.blk _) _
  have hfar : ∀ b, b ≠ L.bp → b < w.heap.size → w'.heap[b]? = w.heap[b]? := by
    intro b hb hlt
    rw [hw]
    refine (Below.heap_alloc _ _ _ (by rw [hsz]; exact hlt)).trans ?_
    rw [setCell_far _ hb, setCell_far _ hb]
  have hnew : w'.heap[w.heap.size]? = some (.cells (madeCells #[Value.slice none 0 0] n) 80 (0, 0)) := by
    have := heap_alloc_new ((w.setCell ⟨L.bp, 1, none⟩ (.slice (some ⟨L.gn, 0, none⟩) d.now.length L.cn.size)).setCell ⟨L.bp, 0, none⟩ (.slice (some ⟨w.heap.size, 0, none⟩) n n)) (.cells (madeCells #[Value.slice none 0 0] n) 80)
    rw [hsz] at this
    rw [hw]; exact this
  refine ⟨⟨L.bp, w.heap.size, L.gn, madeCells #[Value.slice none 0 0] n, L.cn⟩, rfl, ?_, ?_, ?_⟩
  · have hne2 : (begin_ d n).old ≠ [] := by
      show d.now ≠ []
      intro e; rw [e] at hpos; simp at hpos
    refine ⟨?_, tab_new hnew hn, fun _ => ?_, ?_, hd.apN, fun b hb => absurd hb in_new, fun _ => by show w.heap.size ≠ L.gn; omega⟩
    · rw [hblk]
      unfold oldV
      rw [if_neg hne2]
      simp [begin_, size_madeCells, KI]
    · exact hd.now.kept (hfar _ hne hgn) (fun b hb => hfar b (hd.in_ne (.inl hb)).1 (hd.now.lt hb).1)
    · intro i j u u' b hi hj hu hu' hb hb'
      exact absurd ⟨i, u, hi, hu, hb⟩ in_new
  · refine ⟨?_, ?_, ?_, ?_, ?_⟩
    · rw [hw]; rfl
    · rw [hw]; rfl
    · rw [hw]; rfl
    · rw [hw]; simp [World.setCell]
    · intro k hk hf
      exact hfar k (fun e => hf (.inl e)) hk
  · intro b hb
    rcases hb with rfl | rfl | ⟨_, rfl⟩ | hb | hb
    · exact .inl (.inl rfl)
    · exact .inr (Nat.le_refl _)
    · exact .inl (.inr (.inl rfl))
    · exact absurd hb in_new
    · exact .inl (.inr (.inr (.inr (.inl hb))))

set_option maxHeartbeats 800000 in
theorem begin_any (L : Lo) (d : D Int) (n : Nat) (w : World) (hd : DictAt KI w L d) (hpos : 0 < d.now.length) (hn : n ≤ 1000000) :
    Calls Tryd.prog 39 #[.pointer (some ⟨L.bp, 0, none⟩), .int .i64 (n : Int)] w fun e w' => e = .returned (.tuple #[]) ∧ After KI w L d (begin_ d n) w' := by
  have hc0 := hd.cells.1
  have hc1 := hd.cells.2.1
  have hf := hd.free
  have hbp := lt_of_heap hd.blk
  have hfin := fun w' => begin_after (w' := w') hd hpos hn
  have HF := Lib.hid hfin
  have hmk := run_make_row' (P := Tryd.prog) 72 80 (.slice none 0 0) 24 Tryd.underlying72 info80 rfl .i64 .i64 n (by omega) (by omega)
  clear hfin hd
  go_enter Tryd.func39, Tryd.ntmps39
  go_wp2
  go_region
  all_goals go_end0
  exact ⟨rfl, HF.out _ rfl⟩
end Go.Proofs.YtflndbgaidhbaaaDoor
