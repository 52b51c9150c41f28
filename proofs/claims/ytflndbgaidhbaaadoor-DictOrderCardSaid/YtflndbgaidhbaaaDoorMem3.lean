/-
  A dict in memory, behind each kind of write: a room that was appended to, a room set to nil, a value set in place, a field. Of no function.
-/
import Derived.Test.YtflndbgaidhbaaaDoorMem2
namespace Go.Proofs.YtflndbgaidhbaaaDoor
open Go.RowKit Dm

theorem setCell_blk {w : World} {b i t : Nat} {cs : Array Value} {f : Nat × Nat} (h : w.heap[b]? = some (.cells cs t f)) (v : Value) : (w.setCell ⟨b, i, none⟩ v).heap[b]? = some (.cells (cs.setIfInBounds i v) t f) := by
  simp [World.setCell, Array.getElem?_modify, h]
theorem setCell_far {w : World} {b c i : Nat} (v : Value) (h : c ≠ b) : (w.setCell ⟨b, i, none⟩ v).heap[c]? = w.heap[c]? := Below.heap_setCell w ⟨b, i, none⟩ v c h

section
variable {α : Type} {K : Ty α}

/-- What a call on a dict leaves: the dict turned, at its old place; only its blocks may have turned, and its blocks are its old ones and new ones. -/
def After (K : Ty α) (w : World) (L : Lo) (d d' : D α) (w' : World) : Prop :=
  ∃ L', L'.bp = L.bp ∧ DictAt K w' L' d' ∧ Fr (foot L d) w w' ∧ ∀ b, foot L' d' b → foot L d b ∨ w.heap.size ≤ b
theorem After.refl {w w' : World} {L : Lo} {d : D α} (h : DictAt K w L d) (hb : Below w.heap.size w w') : After K w L d d w' := ⟨L, rfl, h.below hb, Fr.of_below hb _, fun _ hf => .inl hf⟩
theorem After.trans {w w1 w2 : World} {L L1 : Lo} {d d1 d2 : D α} (hL : L1.bp = L.bp) (hfr : Fr (foot L d) w w1) (hft : ∀ b, foot L1 d1 b → foot L d b ∨ w.heap.size ≤ b) (h : After K w1 L1 d1 d2 w2) : After K w L d d2 w2 := by
  obtain ⟨L2, h1, h2, h3, h4⟩ := h
  refine ⟨L2, h1.trans hL, h2, hfr.trans h3 hft, fun b hb => ?_⟩
  rcases h4 b hb with h5 | h5
  · exact hft b h5
  · exact .inr (Nat.le_trans hfr.size h5)
theorem After.then {w w1 w2 : World} {L : Lo} {d d1 d2 : D α} (h : After K w L d d1 w1) (h2 : ∀ L1, L1.bp = L.bp → DictAt K w1 L1 d1 → After K w1 L1 d1 d2 w2) : After K w L d d2 w2 := by
  obtain ⟨L1, e, hd, hfr, hft⟩ := h
  exact After.trans e hfr hft (h2 L1 e hd)
theorem After.below {w w1 w2 : World} {L : Lo} {d d1 : D α} (h : After K w L d d1 w1) (hb : Below w1.heap.size w1 w2) : After K w L d d1 w2 := h.then fun _ _ hd => .refl hd hb
theorem After.before {w w1 w2 : World} {L : Lo} {d d1 : D α} (hb : Below w.heap.size w w1) (h : After K w1 L d d1 w2) : After K w L d d1 w2 := After.trans rfl (Fr.of_below hb _) (fun _ => .inl) h

/-- A ROOM OF THE NEWER TABLE IS ANOTHER ONE NOW. W: the world ahead; w1: behind what has turned that room's own block (and made blocks); u': its new value. -/
theorem now_set {W w1 : World} {L : Lo} {d : D α} {i : Nat} {u u' : Value} {r r' : Room α} (hd : DictAt K W L d) (hi : d.now[i]? = some r) (hu : L.cn[i]? = some u)
    (hg : Fr (fun k => rb u = some k) W w1) (hr : RoomAt K.ti K.sz K.enc w1 u' r') (hn : ∀ b, rb u' = some b → rb u = some b ∨ W.heap.size ≤ b) :
    DictAt K (w1.setCell ⟨L.gn, i, none⟩ u') { L with cn := L.cn.setIfInBounds i u' } { d with now := d.now.set i r' } ∧
    Fr (foot L d) W (w1.setCell ⟨L.gn, i, none⟩ u') ∧ ∀ b, foot { L with cn := L.cn.setIfInBounds i u' } { d with now := d.now.set i r' } b → foot L d b ∨ W.heap.size ≤ b := by
  have hil : i < d.now.length := (List.getElem?_eq_some_iff.1 hi).1
  have huIn : ∀ b, rb u = some b → In L.cn d.now.length b := fun b hb => ⟨i, u, hil, hu, hb⟩
  have hlt : ∀ {b}, In L.cn d.now.length b → b < W.heap.size := fun hb => (hd.now.lt hb).1
  -- a block of the dict that is not room i's own is as it was in w1
  have keep1 : ∀ b, b < W.heap.size → rb u ≠ some b → w1.heap[b]? = W.heap[b]? := fun b hb hne => hg.block b hb hne
  have hgnne : rb u ≠ some L.gn := fun e => (hd.in_ne (.inl (huIn _ e))).2.1 rfl
  have hbpne : rb u ≠ some L.bp := fun e => (hd.in_ne (.inl (huIn _ e))).1 rfl
  have hgn1 : w1.heap[L.gn]? = some (.cells L.cn K.tr (0, 0)) := (keep1 _ (lt_of_heap hd.now.1) hgnne).trans hd.now.1
  have hgn2 := setCell_blk (i := i) hgn1 u'
  have keep2 : ∀ b, b < W.heap.size → b ≠ L.gn → rb u ≠ some b → (w1.setCell ⟨L.gn, i, none⟩ u').heap[b]? = W.heap[b]? := fun b hb hne hru => (setCell_far u' hne).trans (keep1 b hb hru)
  have hu'ne : ∀ b, rb u' = some b → b ≠ L.gn := fun b hb => by
    rcases hn b hb with h1 | h1
    · exact (hd.in_ne (.inl (huIn _ h1))).2.1
    · have := lt_of_heap hd.now.1; omega
  have hr2 : RoomAt K.ti K.sz K.enc (w1.setCell ⟨L.gn, i, none⟩ u') u' r' := hr.kept fun b hb => setCell_far u' (hu'ne b hb)
  have hlen : (d.now.set i r').length = d.now.length := List.length_set
  have hn' : ∀ b, rb u' = some b → rb u = some b ∨ ¬ In L.cn d.now.length b := fun b hb => (hn b hb).imp id (fun h1 h2 => by have := hlt h2; omega)
  refine ⟨⟨?_, ?_, fun ho => ?_, ?_, hd.apO, ?_, hd.ne⟩, ?_, ?_⟩
  · have := keep2 L.bp (lt_of_heap hd.blk) (Ne.symm hd.gn_ne) hbpne
    rw [this, hd.blk]
    simp [oldV]
  · exact hd.now.set_ hd.apN hil hu hgn2 hr2 (fun b hb hne => keep2 b (hlt hb) (hd.in_ne (.inl hb)).2.1 hne)
  · have hoA := hd.old ho
    refine hoA.kept (keep2 _ (lt_of_heap hoA.1) (Ne.symm (hd.ne ho)) (fun e => (hd.in_ne (.inl (huIn _ e))).2.2 ho rfl)) (fun b hb => ?_)
    exact keep2 b (hoA.lt hb).1 (hd.in_ne (.inr hb)).2.1 (fun e => hd.apX b (huIn _ e) hb)
  · rw [show ({ d with now := d.now.set i r' } : D α).now.length = d.now.length from hlen]
    exact hd.apN.set_ hil hu hn'
  · intro b hb
    rw [show ({ d with now := d.now.set i r' } : D α).now.length = d.now.length from hlen] at hb
    rcases In.set_ hu hb with ⟨h1, _⟩ | ⟨_, h1⟩
    · exact hd.apX b h1
    · rcases hn b h1 with h2 | h2
      · exact hd.apX b (huIn _ h2)
      · intro h3
        by_cases ho : d.old = []
        · have h4 : In L.co d.old.length b := h3
          rw [ho] at h4; exact in_nil h4
        · have := ((hd.old ho).lt h3).1; omega
  · refine ⟨hg.os, hg.tape, hg.output, by simpa [World.setCell] using hg.size, fun k hk hf => keep2 k hk (fun e => hf (.inr (.inl e))) (fun e => hf (.inr (.inr (.inr (.inl (huIn _ e))))))⟩
  · rintro b (h1 | h1 | h1 | h1 | h1)
    · exact .inl (.inl h1)
    · exact .inl (.inr (.inl h1))
    · exact .inl (.inr (.inr (.inl h1)))
    · rw [show ({ d with now := d.now.set i r' } : D α).now.length = d.now.length from hlen] at h1
      rcases In.set_ hu h1 with ⟨h2, _⟩ | ⟨_, h2⟩
      · exact .inl (.inr (.inr (.inr (.inl h2))))
      · rcases hn b h2 with h3 | h3
        · exact .inl (.inr (.inr (.inr (.inl (huIn _ h3)))))
        · exact .inr h3
    · exact .inl (.inr (.inr (.inr (.inr h1))))

/-- The same of a room of the elder table. -/
theorem old_set {W w1 : World} {L : Lo} {d : D α} {i : Nat} {u u' : Value} {r r' : Room α} (hd : DictAt K W L d) (hi : d.old[i]? = some r) (hu : L.co[i]? = some u)
    (hg : Fr (fun k => rb u = some k) W w1) (hr : RoomAt K.ti K.sz K.enc w1 u' r') (hn : ∀ b, rb u' = some b → rb u = some b ∨ W.heap.size ≤ b) :
    DictAt K (w1.setCell ⟨L.go, i, none⟩ u') { L with co := L.co.setIfInBounds i u' } { d with old := d.old.set i r' } ∧
    Fr (foot L d) W (w1.setCell ⟨L.go, i, none⟩ u') ∧ ∀ b, foot { L with co := L.co.setIfInBounds i u' } { d with old := d.old.set i r' } b → foot L d b ∨ W.heap.size ≤ b := by
  have hil : i < d.old.length := (List.getElem?_eq_some_iff.1 hi).1
  have ho : d.old ≠ [] := by intro e; rw [e] at hil; simp at hil
  have ho' : d.old.set i r' ≠ [] := by intro e; exact ho (by rw [← List.length_eq_zero_iff] at e ⊢; rw [List.length_set] at e; exact e)
  have hoA := hd.old ho
  have huIn : ∀ b, rb u = some b → In L.co d.old.length b := fun b hb => ⟨i, u, hil, hu, hb⟩
  have hlt : ∀ {b}, In L.co d.old.length b → b < W.heap.size := fun hb => (hoA.lt hb).1
  have keep1 : ∀ b, b < W.heap.size → rb u ≠ some b → w1.heap[b]? = W.heap[b]? := fun b hb hne => hg.block b hb hne
  have hgone : rb u ≠ some L.go := fun e => (hd.in_ne (.inr (huIn _ e))).2.2 ho rfl
  have hgnne : rb u ≠ some L.gn := fun e => (hd.in_ne (.inr (huIn _ e))).2.1 rfl
  have hbpne : rb u ≠ some L.bp := fun e => (hd.in_ne (.inr (huIn _ e))).1 rfl
  have hgo1 : w1.heap[L.go]? = some (.cells L.co K.tr (0, 0)) := (keep1 _ (lt_of_heap hoA.1) hgone).trans hoA.1
  have hgo2 := setCell_blk (i := i) hgo1 u'
  have keep2 : ∀ b, b < W.heap.size → b ≠ L.go → rb u ≠ some b → (w1.setCell ⟨L.go, i, none⟩ u').heap[b]? = W.heap[b]? := fun b hb hne hru => (setCell_far u' hne).trans (keep1 b hb hru)
  have hu'ne : ∀ b, rb u' = some b → b ≠ L.go := fun b hb => by
    rcases hn b hb with h1 | h1
    · exact (hd.in_ne (.inr (huIn _ h1))).2.2 ho
    · have := lt_of_heap hoA.1; omega
  have hr2 : RoomAt K.ti K.sz K.enc (w1.setCell ⟨L.go, i, none⟩ u') u' r' := hr.kept fun b hb => setCell_far u' (hu'ne b hb)
  have hlen : (d.old.set i r').length = d.old.length := List.length_set
  have hn' : ∀ b, rb u' = some b → rb u = some b ∨ ¬ In L.co d.old.length b := fun b hb => (hn b hb).imp id (fun h1 h2 => by have := hlt h2; omega)
  refine ⟨⟨?_, ?_, fun _ => ?_, hd.apN, ?_, ?_, fun _ => hd.ne ho⟩, ?_, ?_⟩
  · have := keep2 L.bp (lt_of_heap hd.blk) (Ne.symm (hd.go_ne ho)) hbpne
    rw [this, hd.blk]
    simp [oldV, ho]
  · refine hd.now.kept (keep2 _ (lt_of_heap hd.now.1) (hd.ne ho) hgnne) (fun b hb => ?_)
    exact keep2 b (hd.now.lt hb).1 ((hd.in_ne (.inl hb)).2.2 ho) (fun e => hd.apX b hb (huIn _ e))
  · exact hoA.set_ hd.apO hil hu hgo2 hr2 (fun b hb hne => keep2 b (hlt hb) ((hd.in_ne (.inr hb)).2.2 ho) hne)
  · rw [show ({ d with old := d.old.set i r' } : D α).old.length = d.old.length from hlen]
    exact hd.apO.set_ hil hu hn'
  · intro b hb hb2
    rw [show ({ d with old := d.old.set i r' } : D α).old.length = d.old.length from hlen] at hb2
    rcases In.set_ hu hb2 with ⟨h1, _⟩ | ⟨_, h1⟩
    · exact hd.apX b hb h1
    · rcases hn b h1 with h2 | h2
      · exact hd.apX b hb (huIn _ h2)
      · have := (hd.now.lt (b := b) hb).1; omega
  · refine ⟨hg.os, hg.tape, hg.output, by simpa [World.setCell] using hg.size, fun k hk hf => keep2 k hk (fun e => hf (.inr (.inr (.inl ⟨ho, e⟩)))) (fun e => hf (.inr (.inr (.inr (.inr (huIn _ e))))))⟩
  · rintro b (h1 | h1 | ⟨_, h1⟩ | h1 | h1)
    · exact .inl (.inl h1)
    · exact .inl (.inr (.inl h1))
    · exact .inl (.inr (.inr (.inl ⟨ho, h1⟩)))
    · exact .inl (.inr (.inr (.inr (.inl h1))))
    · rw [show ({ d with old := d.old.set i r' } : D α).old.length = d.old.length from hlen] at h1
      rcases In.set_ hu h1 with ⟨h2, _⟩ | ⟨_, h2⟩
      · exact .inl (.inr (.inr (.inr (.inr h2))))
      · rcases hn b h2 with h3 | h3
        · exact .inl (.inr (.inr (.inr (.inr (huIn _ h3)))))
        · exact .inr h3

/-- The dict's own block is another one now, over the same tables. -/
theorem own_at {W w1 : World} {L : Lo} {d : D α} (hd : DictAt K W L d) (m n : Nat)
    (hb : w1.heap[L.bp]? = some (.cells #[.slice (some ⟨L.gn, 0, none⟩) d.now.length L.cn.size, oldV L d, .int .i64 n, .int .i64 m] K.td (0, 0))) (hf : Fr (fun k => k = L.bp) W w1) :
    DictAt K w1 L { d with next := n, many := m } := by
  refine ⟨hb, ?_, fun ho => ?_, hd.apN, hd.apO, hd.apX, hd.ne⟩
  · exact hd.now.kept (hf.block _ (lt_of_heap hd.now.1) hd.gn_ne) (fun b hb => hf.block _ (hd.now.lt hb).1 (hd.in_ne (.inl hb)).1)
  · exact (hd.old ho).kept (hf.block _ (lt_of_heap (hd.old ho).1) (hd.go_ne ho)) (fun b hb => hf.block _ ((hd.old ho).lt hb).1 (hd.in_ne (.inr hb)).1)
/-- The elder table is let go. -/
theorem own_drop {W w1 : World} {L : Lo} {d : D α} (hd : DictAt K W L d) (m n : Nat)
    (hb : w1.heap[L.bp]? = some (.cells #[.slice (some ⟨L.gn, 0, none⟩) d.now.length L.cn.size, .slice none 0 0, .int .i64 n, .int .i64 m] K.td (0, 0))) (hf : Fr (fun k => k = L.bp) W w1) :
    DictAt K w1 L { d with old := [], next := n, many := m } ∧ ∀ b, foot L { d with old := [], next := n, many := m } b → foot L d b := by
  refine ⟨⟨hb, ?_, fun ho => absurd rfl ho, hd.apN, ?_, fun b _ => in_nil, fun ho => absurd rfl ho⟩, ?_⟩
  · exact hd.now.kept (hf.block _ (lt_of_heap hd.now.1) hd.gn_ne) (fun b hb => hf.block _ (hd.now.lt hb).1 (hd.in_ne (.inl hb)).1)
  · intro i j u u' b hi; simp at hi
  · rintro b (h1 | h1 | ⟨h1, _⟩ | h1 | h1)
    · exact .inl h1
    · exact .inr (.inl h1)
    · exact absurd rfl h1
    · exact .inr (.inr (.inr (.inl h1)))
    · exact absurd h1 in_nil
theorem fr_own {W : World} {b i : Nat} (v : Value) : Fr (fun k => k = b) W (W.setCell ⟨b, i, none⟩ v) := (Fr.refl (fun k => k = b) W).setCell (p := ⟨b, i, none⟩) (.inl rfl) v
end
end Go.Proofs.YtflndbgaidhbaaaDoor
