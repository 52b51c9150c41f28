/-
  A room appended to; the dict in memory (its block, its two tables), and what each write leaves of it. Of no function.
-/
import Derived.Test.YtflndbgaidhbaaaDoorMem
import Derived.Maps.AppendAt
import Derived.Laws.MakeOwn
namespace Go.Proofs.YtflndbgaidhbaaaDoor
open Go.RowKit Dm

section
variable {P : Program} {α : Type} {ti sz : Nat} {enc : α → List Value}

theorem RoomAt.own {w : World} {g cap n : Nat} {r : Room α} (hs : ∀ v : α, (enc v).length + 1 = sz) (h : RoomAt ti sz enc w (.slice (some ⟨g, 0, none⟩) n (cap + 1)) r) : w.ownsRow 0 ti sz (.slice (some ⟨g, 0, none⟩) n (cap + 1)) r.length (roomCells enc r) := by
  rcases h with ⟨_, A, e⟩ | ⟨g', cap', cur, e, hg, hl, hm, hc, ht⟩
  · injection e with _ _ e; omega
  · injection e with e1 e2 e3
    injection e1 with e1
    injection e1 with e1
    subst e1
    obtain rfl : cap = cap' := by omega
    subst e2
    exact ⟨roomCells_length hs r, .inr ⟨g, cap + 1, cur, rfl, Nat.zero_le _, hg, hl, hm, hc, ht⟩⟩

theorem room_of_own {w : World} {v : Value} {r : Room α} (hp : 0 < r.length) (h : w.ownsRow 0 ti sz v r.length (roomCells enc r)) : RoomAt ti sz enc w v r ∧ rb v = v.ownBlock := by
  rcases h.2 with ⟨_, h0⟩ | ⟨g, cap, cur, rfl, hb, hg, hl, hm, hc, ht⟩
  · omega
  · obtain ⟨c, rfl⟩ : ∃ c, cap = c + 1 := ⟨cap - 1, by omega⟩
    exact ⟨.inr ⟨g, c, cur, rfl, hg, hl, hm, hc, ht⟩, rfl⟩

/-- AN ITEM APPENDED TO A ROOM. -/
theorem run_append_room_ (hs : ∀ v : α, (enc v).length + 1 = sz) (h1 : ∀ v : α, ∀ u ∈ enc v, u.oneCell' = true)
    (w : World) (t ty : TypeId) (i : TypeInfo) (z : Value) (bytes : Nat) (ht : P.underlying t = some (.slice ti)) (hi : P.info? ti = some i) (hz : i.zero = some z) (hsize : i.size = sz) (hby : i.bytes = bytes) (hzs : z.cells.size = sz)
    (v : Value) (r : Room α) (hr : RoomAt ti sz enc w v r) (x : Nm × α) (a : Addr) (c : Nat) (hnews : ∀ j u, (itemCells enc x)[j]? = some u → w.cell? (a.add j) = some u)
    (hlen : (r.length + 1) * bytes ≤ 140737488355328) (hmax : r.length + 1 ≤ maxLen) :
    ∃ v' w', (Builtin.append_ #[t, t] ty #[v, .slice (some a) 1 c]).run P w = .ok v' w' ∧ RoomAt ti sz enc w' v' (r ++ [x]) ∧ w.grownBy w' (rb v) ∧ (∃ g cap, v' = .slice (some ⟨g, 0, none⟩) (r.length + 1) (cap + 1) ∧ (rb v = some g ∨ g = w.heap.size)) := by
  have hsz : 0 < sz := by rw [← hs x.2]; omega
  have hl : (itemCells enc x).length = 1 * sz := by simp [itemCells, hs]
  have hone : ∀ u ∈ itemCells enc x, u.oneCell' = true := by
    intro u hu
    rcases List.mem_cons.1 hu with rfl | hu
    · rfl
    · exact h1 _ u hu
  have hrc : roomCells enc r ++ itemCells enc x = roomCells enc (r ++ [x]) := by rw [roomCells_append, roomCells_one]
  have fin : ∀ (v' : Value) (w' : World), w'.ownsRow 0 ti sz v' (r.length + 1) (roomCells enc r ++ itemCells enc x) → RoomAt ti sz enc w' v' (r ++ [x]) ∧ rb v' = v'.ownBlock := by
    intro v' w' ho
    rw [hrc, show r.length + 1 = (r ++ [x]).length by simp] at ho
    exact room_of_own (by simp) ho
  have shp : ∀ (v' : Value) (w' : World), w'.ownsRow 0 ti sz v' (r.length + 1) (roomCells enc r ++ itemCells enc x) → ∃ g cap, v' = .slice (some ⟨g, 0, none⟩) (r.length + 1) (cap + 1) := by
    intro v' w' ho
    rcases ho.2 with ⟨_, h0⟩ | ⟨g, cap, cur, rfl, hb, hg, hl', hm, hc, ht⟩
    · omega
    · obtain ⟨c', rfl⟩ : ∃ c', cap = c' + 1 := ⟨cap - 1, by omega⟩
      exact ⟨g, c', rfl⟩
  rcases hr with ⟨rfl, A, rfl⟩ | ⟨g, cap, cur, rfl, hg, hle, hm, hc, htk⟩
  · cases A with
    | none =>
      obtain ⟨v', w', hrun, ho, hgr, _, hat⟩ := run_append_own_at (P := P) w 0 t ty ti i z sz bytes ht hi hz hsize hby hzs hsz (.slice none 0 0) 0 [] (World.ownsRow_nil w 0 ti sz) a 1 c (itemCells enc x) hl hnews hone hmax hlen (Nat.zero_le _)
      obtain ⟨h2, h3⟩ := fin v' w' ho
      obtain ⟨g, cap, rfl⟩ := shp _ w' ho
      refine ⟨_, w', hrun, h2, hgr, g, cap, rfl, .inr ?_⟩
      rcases hat with e | e
      · simp [Value.ownBlock] at e
      · simpa [Value.ownBlock] using e
    | some A =>
      simp only [List.length_nil, Nat.zero_add] at hlen hmax
      have hrun := run_append_grow (P := P) w t ty ti i z ht hi hz A 0 0 [] (by simp) (by intro j v h; simp at h) a 1 c (itemCells enc x) (by rw [hl, hsize]) hnews (by omega) (by simp only [maxLen] at hmax; omega)
        (growslice_fits (by omega) (by rw [hby]; exact hlen))
      have hge := grownCap_ge w (0 + 1) 0 ti
      have hcm := grownCap_le_maxLen w (0 + 1) 0 ti hmax
      refine ⟨_, _, hrun, ?_, ?_, w.heap.size, grownCap w (0 + 1) 0 ti - 1, ?_, .inr rfl⟩
      · refine .inr ⟨w.heap.size, grownCap w (0 + 1) 0 ti - 1, _, ?_, heap_alloc_new w.drew _, ?_, ?_, ?_, ?_⟩
        · simp only [List.nil_append, List.length_singleton]
          rw [show grownCap w (0 + 1) 0 ti - 1 + 1 = grownCap w (0 + 1) 0 ti by omega]
        · simp
        · omega
        · simp only [Array.size_append, List.size_toArray, List.length_nil, hl, size_zeroCells, hzs]
          rw [show grownCap w (0 + 1) 0 ti - 1 + 1 = grownCap w (0 + 1) 0 ti by omega]
          have : grownCap w (0 + 1) 0 ti * sz = (1 + (grownCap w (0 + 1) 0 ti - (0 + 1))) * sz := by congr 1; omega
          rw [this, Nat.add_mul]
          omega
        · simp only [Array.toList_append, List.nil_append, List.length_singleton]
          rw [← hl, List.take_left, roomCells_one]
      · exact ⟨rfl, rfl, rfl, by simp, fun k hk _ => heap_alloc_old w.drew _ k hk⟩
      · simp only [List.length_nil, Nat.zero_add]
        rw [show grownCap w 1 0 ti - 1 + 1 = grownCap w 1 0 ti by simp only [Nat.zero_add] at hge; omega]
  · have hown : w.ownsRow 0 ti sz (.slice (some ⟨g, 0, none⟩) r.length (cap + 1)) r.length (roomCells enc r) := ⟨roomCells_length hs r, .inr ⟨g, cap + 1, cur, rfl, Nat.zero_le _, hg, hle, hm, hc, htk⟩⟩
    obtain ⟨v', w', hrun, ho, hgr, _, hat⟩ := run_append_own_at (P := P) w 0 t ty ti i z sz bytes ht hi hz hsize hby hzs hsz _ _ _ hown a 1 c (itemCells enc x) hl hnews hone hmax hlen (Nat.zero_le _)
    obtain ⟨h2, h3⟩ := fin v' w' ho
    obtain ⟨g', cap', rfl⟩ := shp _ w' ho
    refine ⟨_, w', hrun, h2, hgr, g', cap', rfl, ?_⟩
    rcases hat with e | e
    · left
      have : g' = g := by simpa [Value.ownBlock] using e
      rw [this]; rfl
    · right; simpa [Value.ownBlock] using e

/-- At the operation. -/
theorem wp_append_room_ (hs : ∀ v : α, (enc v).length + 1 = sz) (h1 : ∀ v : α, ∀ u ∈ enc v, u.oneCell' = true) {o : Oper} {a : Act} {K : Act → World → Prop} {Q : Exit → Act → World → Prop} (s y : Operand) (t : TypeId)
    (ho : o.op = .call { callee := .builtin .append, args := #[s, y], argTypes := #[t, t] })
    (w : World) (i : TypeInfo) (z : Value) (bytes : Nat) (ht : P.underlying t = some (.slice ti)) (hi : P.info? ti = some i) (hz : i.zero = some z) (hsize : i.size = sz) (hby : i.bytes = bytes) (hzs : z.cells.size = sz)
    (v : Value) (r : Room α) (hv : a.eval s = v) (hr : RoomAt ti sz enc w v r) (x : Nm × α) (ad : Addr) (c : Nat) (hy : a.eval y = .slice (some ad) 1 c) (hnews : ∀ j u, (itemCells enc x)[j]? = some u → w.cell? (ad.add j) = some u)
    (hlen : (r.length + 1) * bytes ≤ 140737488355328) (hmax : r.length + 1 ≤ maxLen)
    (h : ∀ g cap w', RoomAt ti sz enc w' (.slice (some ⟨g, 0, none⟩) (r.length + 1) (cap + 1)) (r ++ [x]) → w.grownBy w' (rb v) → (rb v = some g ∨ g = w.heap.size) → K (a.put o.dst (.slice (some ⟨g, 0, none⟩) (r.length + 1) (cap + 1))) w') : o.wp P a w K Q := by
  obtain ⟨v', w', hrun, h2, h3, g, cap, rfl, h4⟩ := run_append_room_ (P := P) hs h1 w t o.type i z bytes ht hi hz hsize hby hzs v r hr x ad c hnews hlen hmax
  unfold Oper.wp execOp
  simp only [ho, resolve, invoke, builtin, Sem.run_bind, Sem.run_pure, Result.andThen_ok, List.map_toArray, List.map_cons, List.map_nil, hv, hy, hrun]
  exact h g cap w' h2 h3 h4
end

/-! ### The dict -/
/-- Where the dict lies: its block, the tables' blocks and what their cells hold. -/
structure Lo where
  bp : Nat
  gn : Nat
  go : Nat
  cn : Array Value
  co : Array Value

/-- The types' numbers, the item's cells. -/
structure Ty (α : Type) where
  ti : Nat
  tr : Nat
  td : Nat
  sz : Nat
  enc : α → List Value
  hs : ∀ v : α, (enc v).length + 1 = sz
  h1 : ∀ v : α, ∀ u ∈ enc v, u.oneCell' = true
  d1 : ti ≠ tr
  d2 : ti ≠ td
  d3 : tr ≠ td

section
variable {α : Type} (K : Ty α)

def oldV (L : Lo) (d : D α) : Value := if d.old = [] then .slice none 0 0 else .slice (some ⟨L.go, 0, none⟩) d.old.length L.co.size

structure DictAt (w : World) (L : Lo) (d : D α) : Prop where
  blk : w.heap[L.bp]? = some (.cells #[.slice (some ⟨L.gn, 0, none⟩) d.now.length L.cn.size, oldV L d, .int .i64 d.next, .int .i64 d.many] K.td (0, 0))
  now : TabAt K.ti K.sz K.tr K.enc w L.gn L.cn d.now
  old : d.old ≠ [] → TabAt K.ti K.sz K.tr K.enc w L.go L.co d.old
  apN : Ap L.cn d.now.length
  apO : Ap L.co d.old.length
  apX : ∀ b, In L.cn d.now.length b → ¬ In L.co d.old.length b
  ne : d.old ≠ [] → L.gn ≠ L.go

/-- The blocks of a dict. -/
def foot (L : Lo) (d : D α) (b : Nat) : Prop := b = L.bp ∨ b = L.gn ∨ (d.old ≠ [] ∧ b = L.go) ∨ In L.cn d.now.length b ∨ In L.co d.old.length b

variable {K}
theorem DictAt.kept {w w' : World} {L : Lo} {d : D α} (h : DictAt K w L d) (hk : ∀ b, foot L d b → w'.heap[b]? = w.heap[b]?) : DictAt K w' L d where
  blk := (hk _ (.inl rfl)).trans h.blk
  now := h.now.kept (hk _ (.inr (.inl rfl))) (fun b hb => hk b (.inr (.inr (.inr (.inl hb)))))
  old := fun ho => (h.old ho).kept (hk _ (.inr (.inr (.inl ⟨ho, rfl⟩)))) (fun b hb => hk b (.inr (.inr (.inr (.inr hb)))))
  apN := h.apN
  apO := h.apO
  apX := h.apX
  ne := h.ne
theorem in_nil {c : Array Value} {b : Nat} : ¬ In c ([] : List (Room α)).length b := fun ⟨i, _, hi, _⟩ => by simp at hi
theorem DictAt.lt {w : World} {L : Lo} {d : D α} (h : DictAt K w L d) {b : Nat} (hb : foot L d b) : b < w.heap.size := by
  rcases hb with rfl | rfl | ⟨ho, rfl⟩ | hb | hb
  · exact lt_of_heap h.blk
  · exact lt_of_heap h.now.1
  · exact lt_of_heap (h.old ho).1
  · exact (h.now.lt hb).1
  · by_cases ho : d.old = []
    · rw [ho] at hb; exact absurd hb in_nil
    · exact ((h.old ho).lt hb).1
theorem DictAt.below {w w' : World} {L : Lo} {d : D α} (h : DictAt K w L d) (hb : Below w.heap.size w w') : DictAt K w' L d := h.kept fun b hf => hb.block b (h.lt hf)
theorem DictAt.fr {S : Nat → Prop} {w w' : World} {L : Lo} {d : D α} (h : DictAt K w L d) (hb : Fr S w w') (hS : ∀ b, foot L d b → ¬ S b) : DictAt K w' L d := h.kept fun b hf => hb.block b (h.lt hf) (hS b hf)
theorem DictAt.drewN {w : World} {L : Lo} {d : D α} (h : DictAt K w L d) (n : Nat) : DictAt K (w.drewN n) L d := h.kept fun _ _ => rfl

theorem heap_ne {w : World} {a b ta tb : Nat} {ca cb : Array Value} (ha : w.heap[a]? = some (.cells ca ta (0, 0))) (hb : w.heap[b]? = some (.cells cb tb (0, 0))) (h : ta ≠ tb) : a ≠ b := by
  rintro rfl
  rw [ha] at hb
  injection hb with hb
  injection hb with _ hb
  exact h hb

/-- The blocks are of three kinds: none is of two. -/
theorem DictAt.gn_ne {w : World} {L : Lo} {d : D α} (h : DictAt K w L d) : L.gn ≠ L.bp := heap_ne h.now.1 h.blk K.d3
theorem DictAt.go_ne {w : World} {L : Lo} {d : D α} (h : DictAt K w L d) (ho : d.old ≠ []) : L.go ≠ L.bp := heap_ne (h.old ho).1 h.blk K.d3
theorem DictAt.in_ne {w : World} {L : Lo} {d : D α} (h : DictAt K w L d) {b : Nat} (hb : In L.cn d.now.length b ∨ In L.co d.old.length b) : b ≠ L.bp ∧ b ≠ L.gn ∧ (d.old ≠ [] → b ≠ L.go) := by
  have hc : ∃ c, w.heap[b]? = some (.cells c K.ti (0, 0)) := by
    rcases hb with hb | hb
    · exact (h.now.lt hb).2
    · by_cases ho : d.old = []
      · rw [ho] at hb; exact absurd hb in_nil
      · exact ((h.old ho).lt hb).2
  obtain ⟨c, hc⟩ := hc
  exact ⟨heap_ne hc h.blk K.d2, heap_ne hc h.now.1 K.d1, fun ho => heap_ne hc (h.old ho).1 K.d1⟩

/-- The dict's own four cells. -/
theorem DictAt.cells {w : World} {L : Lo} {d : D α} (h : DictAt K w L d) : w.cell? ⟨L.bp, 0, none⟩ = some (.slice (some ⟨L.gn, 0, none⟩) d.now.length L.cn.size) ∧ w.cell? ⟨L.bp, 1, none⟩ = some (oldV L d) ∧ w.cell? ⟨L.bp, 2, none⟩ = some (.int .i64 d.next) ∧ w.cell? ⟨L.bp, 3, none⟩ = some (.int .i64 d.many) := by
  refine ⟨?_, ?_, ?_, ?_⟩ <;> · rw [cell_of_row w L.bp _ _ _ (0, 0) h.blk]; rfl
theorem DictAt.free {w : World} {L : Lo} {d : D α} (h : DictAt K w L d) (i : Nat) : w.frozen? ⟨L.bp, i, none⟩ = false := by simp [World.frozen?, h.blk]
end
end Go.Proofs.YtflndbgaidhbaaaDoor
