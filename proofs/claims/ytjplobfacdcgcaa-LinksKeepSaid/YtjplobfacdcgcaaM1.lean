/-
  How texts, replies, letters, and the links lie in memory; what is left of it when nothing but new memory and a map has turned. Of no function.
-/
import Derived.Test.YtjplobfacdcgcaaChecked
import Derived.Test.YtjplobfacdcgcaaP1
import Derived.WalkKit
import Derived.WalkLawsBesides
import Derived.WalkSpells
import Derived.Deep.QuietTactic
import Derived.BigQuiet
import Derived.Lib.Hide
import Derived.Deep.AppendLies
import Derived.ArgAppend
import Derived.OneCell
import Derived.Deep.Draws
import Derived.Maps.Range
import Derived.DeepKeys4
import Derived.RangeFuncOwn
import Derived.ChangeAlike
namespace Go.Proofs.Ytjplobfacdcgcaa
open Go.RowKit
open Go.WideElems (Fit)

/-- The blocks from lo on. -/
def Fro (lo : Nat) : Nat → Prop := fun k => lo ≤ k
theorem Fro.sub {a b : Nat} (h : a ≤ b) : ∀ k, Fro b k → Fro a k := fun _ hk => Nat.le_trans h hk
/-- Of the blocks of cells in S none has turned. -/
structure Kp (S : Nat → Prop) (w w' : World) : Prop where
  size : w.heap.size ≤ w'.heap.size
  blk : ∀ (k : Nat) (o : Obj), S k → w.heap[k]? = some o → o.isCells = true → w'.heap[k]? = some o

section
variable {S S' : Nat → Prop} {a b c w w' : World}
theorem lt_of_heap {w : World} {g : Nat} {o : Obj} (h : w.heap[g]? = some o) : g < w.heap.size := (Array.getElem?_eq_some_iff.1 h).1
theorem setCell_blk {w : World} {b i t : Nat} {cs : Array Value} {f : Nat × Nat} (h : w.heap[b]? = some (.cells cs t f)) (v : Value) : (w.setCell ⟨b, i, none⟩ v).heap[b]? = some (.cells (cs.setIfInBounds i v) t f) := by
  simp [World.setCell, Array.getElem?_modify, h]
theorem setCell_far {w : World} {b c i : Nat} (v : Value) (h : c ≠ b) : (w.setCell ⟨b, i, none⟩ v).heap[c]? = w.heap[c]? := Below.heap_setCell w ⟨b, i, none⟩ v c h
theorem get_set_ne {cur : Array Value} {i j : Nat} (u : Value) (h : i ≠ j) : (cur.setIfInBounds i u)[j]? = cur[j]? := by rw [Array.getElem?_setIfInBounds, if_neg h]
theorem get_set_eq {cur : Array Value} {i : Nat} (u : Value) (h : i < cur.size) : (cur.setIfInBounds i u)[i]? = some u := by rw [Array.getElem?_setIfInBounds, if_pos rfl, if_pos h]
theorem Kp.refl (S : Nat → Prop) (w : World) : Kp S w w := ⟨Nat.le_refl _, fun _ _ _ h _ => h⟩
theorem Kp.trans (h : Kp S a b) (k : Kp S b c) : Kp S a c := ⟨Nat.le_trans h.size k.size, fun i o hi ho hc => k.blk i o hi (h.blk i o hi ho hc) hc⟩
theorem Kp.mono (h : Kp S a b) (hl : ∀ k, S' k → S k) : Kp S' a b := ⟨h.size, fun i o hi ho hc => h.blk i o (hl i hi) ho hc⟩
theorem Kp.of_below (h : Below a.heap.size a b) (S : Nat → Prop) : Kp S a b := ⟨h.size, fun k _ _ ho _ => (h.block k (lt_of_heap ho)).trans ho⟩
theorem Kp.cell (h : Kp S a b) {p : Addr} {v : Value} (hp : S p.block) (hc : a.cell? p = some v) : b.cell? p = some v := by
  obtain ⟨o, ho, hcl⟩ := cells_of_cell hc
  exact (World.cell?_of_block ((h.blk _ o hp ho hcl).trans ho.symm)).trans hc
theorem Kp.grown {row : Option Nat} (h : Kp S a b) (g : b.grownBy c row) (hr : ∀ j, row = some j → ¬ S j ∨ ∃ o, b.heap[j]? = some o ∧ o.isCells = false) : Kp S a c :=
  ⟨Nat.le_trans h.size g.size, fun k o hk ho hc => by
    have h1 := h.blk k o hk ho hc
    refine (g.block k (lt_of_heap h1) (fun e => ?_)).trans h1
    rcases hr k e.symm with h2 | ⟨o2, h2, h3⟩
    · exact h2 hk
    · rw [h1] at h2; cases h2; rw [hc] at h3; cases h3⟩
theorem Kp.drewN (h : Kp S a b) (n : Nat) : Kp S a (b.drewN n) := ⟨h.size, h.blk⟩
theorem Kp.drew (h : Kp S a b) : Kp S a b.drew := ⟨h.size, h.blk⟩

/-- Of the blocks that were there, b alone may have turned. -/
structure Off (b : Nat) (w w' : World) : Prop where
  os : w'.os = w.os
  tape : w'.tape = w.tape
  output : w'.output = w.output
  size : w.heap.size ≤ w'.heap.size
  block : ∀ k, k < w.heap.size → k ≠ b → w'.heap[k]? = w.heap[k]?
theorem Off.refl (n : Nat) (w : World) : Off n w w := ⟨rfl, rfl, rfl, Nat.le_refl _, fun _ _ _ => rfl⟩
theorem Off.trans {n : Nat} (h : Off n a b) (k : Off n b c) : Off n a c := ⟨k.os.trans h.os, k.tape.trans h.tape, k.output.trans h.output, Nat.le_trans h.size k.size, fun i hi hn => (k.block i (Nat.lt_of_lt_of_le hi h.size) hn).trans (h.block i hi hn)⟩
theorem Off.of_below (h : Below a.heap.size a b) (n : Nat) : Off n a b := ⟨h.os, h.tape, h.output, h.size, fun k hk _ => h.block k hk⟩
theorem Off.of_grown {n : Nat} {row : Option Nat} (h : a.grownBy b row) (hr : ∀ j, row = some j → j = n) : Off n a b := ⟨h.os, h.tape, h.output, h.size, fun k hk hn => h.block k hk (fun e => hn (hr k e.symm))⟩
theorem Off.drew (n : Nat) (w : World) : Off n w w.drew := ⟨rfl, rfl, rfl, Nat.le_refl _, fun _ _ _ => rfl⟩
theorem Off.below {n lo : Nat} (h : Off n a b) (hn : lo ≤ n) (hl : lo ≤ a.heap.size) : Below lo a b := ⟨h.os, h.tape, h.output, h.size, fun k hk => h.block k (by omega) (by omega)⟩
theorem Off.kp {n : Nat} (h : Off n a b) (S : Nat → Prop) (hw : ∃ o : Obj, a.heap[n]? = some o ∧ o.isCells = false) : Kp S a b :=
  ⟨h.size, fun k o _ ho hc => (h.block k (lt_of_heap ho) (fun e => by
    obtain ⟨o2, h2, h3⟩ := hw
    rw [← e, ho] at h2; cases h2; rw [hc] at h3; cases h3)).trans ho⟩

/-! ### Texts -/
def StrsAt (S : Nat → Prop) (w : World) (v : Value) (l : List ByteArray) : Prop := ∃ A c, v = .slice A l.length c ∧ ∀ (j : Nat) (s : ByteArray), l[j]? = some s → ∃ b off, A = some ⟨b, off, none⟩ ∧ S b ∧ w.cell? ⟨b, off + j, none⟩ = some (.string s)
theorem StrsAt.keep {v : Value} {l : List ByteArray} (h : StrsAt S w v l) (k : Kp S w w') : StrsAt S w' v l := by
  obtain ⟨A, c, rfl, h⟩ := h
  refine ⟨A, c, rfl, fun j s hj => ?_⟩
  obtain ⟨b, off, hA, hb, hc⟩ := h j s hj
  exact ⟨b, off, hA, hb, k.cell hb hc⟩
theorem StrsAt.mono {v : Value} {l : List ByteArray} (h : StrsAt S w v l) (hl : ∀ k, S k → S' k) : StrsAt S' w v l := by
  obtain ⟨A, c, rfl, h⟩ := h
  refine ⟨A, c, rfl, fun j s hj => ?_⟩
  obtain ⟨b, off, hA, hb, hc⟩ := h j s hj
  exact ⟨b, off, hA, hl _ hb, hc⟩
theorem StrsAt.nil (S : Nat → Prop) (w : World) (A : Option Addr) (c : Nat) : StrsAt S w (.slice A 0 c) [] := ⟨A, c, rfl, fun j s h => by simp at h⟩
theorem StrsAt.one {v : Value} {l : List ByteArray} (h : StrsAt S w v l) : v.oneCell' = true := by obtain ⟨A, c, rfl, _⟩ := h; rfl

/-! ### Replies -/
def RpAt (S : Nat → Prop) (w : World) : Rp → Value → Prop
  | .mk _ _ _ n l, v => ∃ A c, v = .slice A n c ∧ ∀ i : Fin n, ∃ b off u, A = some ⟨b, off, none⟩ ∧ S b ∧
      w.cell? ⟨b, off + i.1 * 4, none⟩ = some (.int .i64 (l i).kind) ∧ w.cell? ⟨b, off + i.1 * 4 + 1, none⟩ = some (.int .i64 (l i).int) ∧
      w.cell? ⟨b, off + i.1 * 4 + 2, none⟩ = some (.string (l i).text) ∧ w.cell? ⟨b, off + i.1 * 4 + 3, none⟩ = some u ∧ RpAt S w (l i) u
theorem RpAt.keep {w w' : World} {S : Nat → Prop} (k : Kp S w w') : ∀ {r : Rp} {v : Value}, RpAt S w r v → RpAt S w' r v := by
  intro r
  induction r with
  | mk _ _ _ n l ih =>
    rintro v ⟨A, c, rfl, h⟩
    refine ⟨A, c, rfl, fun i => ?_⟩
    obtain ⟨b, off, u, hA, hb, h1, h2, h3, h4, h5⟩ := h i
    exact ⟨b, off, u, hA, hb, k.cell hb h1, k.cell hb h2, k.cell hb h3, k.cell hb h4, ih i h5⟩
theorem RpAt.mono {w : World} {S S' : Nat → Prop} (hl : ∀ k, S k → S' k) : ∀ {r : Rp} {v : Value}, RpAt S w r v → RpAt S' w r v := by
  intro r
  induction r with
  | mk _ _ _ n l ih =>
    rintro v ⟨A, c, rfl, h⟩
    refine ⟨A, c, rfl, fun i => ?_⟩
    obtain ⟨b, off, u, hA, hb, h1, h2, h3, h4, h5⟩ := h i
    exact ⟨b, off, u, hA, hl _ hb, h1, h2, h3, h4, ih i h5⟩
theorem RpAt.one {r : Rp} {v : Value} (h : RpAt S w r v) : v.oneCell' = true := by cases r; obtain ⟨A, c, rfl, _⟩ := h; rfl
theorem RpAt.zero (S : Nat → Prop) (w : World) (A : Option Addr) (c : Nat) : RpAt S w Rp.zero (.slice A 0 c) := ⟨A, c, rfl, fun i => i.elim0⟩

/-! ### Letters -/
def ltCells (x : Lt) (va vr : Value) : List Value :=
  [.int .i64 x.kind, .int .i64 x.number, .int .i64 x.slot, .int .i64 x.ends, .string x.key, .string x.text, va, .int .i64 x.reply.kind, .int .i64 x.reply.int, .string x.reply.text, vr, .bool x.good, .int .i64 x.asking]
def LtAt (S : Nat → Prop) (w : World) (x : Lt) (cs : List Value) : Prop := ∃ va vr, cs = ltCells x va vr ∧ StrsAt S w va x.args ∧ RpAt S w x.reply vr
theorem LtAt.keep {x : Lt} {cs : List Value} (h : LtAt S w x cs) (k : Kp S w w') : LtAt S w' x cs := by
  obtain ⟨va, vr, e, h1, h2⟩ := h; exact ⟨va, vr, e, h1.keep k, h2.keep k⟩
theorem LtAt.mono {x : Lt} {cs : List Value} (h : LtAt S w x cs) (hl : ∀ k, S k → S' k) : LtAt S' w x cs := by
  obtain ⟨va, vr, e, h1, h2⟩ := h; exact ⟨va, vr, e, h1.mono hl, h2.mono hl⟩
theorem LtAt.length {x : Lt} {cs : List Value} (h : LtAt S w x cs) : cs.length = 13 := by obtain ⟨va, vr, rfl, _⟩ := h; rfl
theorem LtAt.one {x : Lt} {cs : List Value} (h : LtAt S w x cs) : ∀ u ∈ cs, u.oneCell' = true := by
  obtain ⟨va, vr, rfl, h1, h2⟩ := h
  intro u hu
  simp only [ltCells, List.mem_cons, List.not_mem_nil, or_false] at hu
  rcases hu with rfl | rfl | rfl | rfl | rfl | rfl | rfl | rfl | rfl | rfl | rfl | rfl | rfl <;> first | rfl | exact h1.one | exact h2.one

/-- A row of letters. -/
def LtsAt (S : Nat → Prop) (w : World) (v : Value) (l : List Lt) : Prop := ∃ A c, v = .slice A l.length c ∧ l.length ≤ c ∧ c ≤ maxLen ∧ (A = none → c = 0) ∧
  ∀ (j : Nat) (x : Lt), l[j]? = some x → ∃ b off cs, A = some ⟨b, off, none⟩ ∧ S b ∧ (∀ (i : Nat) (u : Value), cs[i]? = some u → w.cell? ⟨b, off + j * 13 + i, none⟩ = some u) ∧ LtAt S w x cs
theorem LtsAt.mono {v : Value} {l : List Lt} (h : LtsAt S w v l) (hl : ∀ k, S k → S' k) : LtsAt S' w v l := by
  obtain ⟨A, c, rfl, h1, h2, h3, h⟩ := h
  refine ⟨A, c, rfl, h1, h2, h3, fun j x hj => ?_⟩
  obtain ⟨b, off, cs, hA, hb, hc, hx⟩ := h j x hj
  exact ⟨b, off, cs, hA, hl _ hb, hc, hx.mono hl⟩
/-- What lies in memory lies below the heap's end. -/
def Now (S : Nat → Prop) (w : World) : Nat → Prop := fun k => S k ∧ k < w.heap.size
theorem Now.sub : ∀ k, Now S w k → S k := fun _ h => h.1
theorem StrsAt.narrow {v : Value} {l : List ByteArray} (h : StrsAt S w v l) : StrsAt (Now S w) w v l := by
  obtain ⟨A, c, rfl, h⟩ := h
  refine ⟨A, c, rfl, fun j s hj => ?_⟩
  obtain ⟨b, off, hA, hb, hc⟩ := h j s hj
  exact ⟨b, off, hA, ⟨hb, World.block_lt_of_cell? _ _ hc⟩, hc⟩
theorem RpAt.narrow {w : World} {S : Nat → Prop} : ∀ {r : Rp} {v : Value}, RpAt S w r v → RpAt (Now S w) w r v := by
  intro r
  induction r with
  | mk _ _ _ n l ih =>
    rintro v ⟨A, c, rfl, h⟩
    refine ⟨A, c, rfl, fun i => ?_⟩
    obtain ⟨b, off, u, hA, hb, h1, h2, h3, h4, h5⟩ := h i
    exact ⟨b, off, u, hA, ⟨hb, World.block_lt_of_cell? _ _ h1⟩, h1, h2, h3, h4, ih i h5⟩
theorem LtAt.narrow {x : Lt} {cs : List Value} (h : LtAt S w x cs) : LtAt (Now S w) w x cs := by
  obtain ⟨va, vr, e, h1, h2⟩ := h; exact ⟨va, vr, e, h1.narrow, h2.narrow⟩
theorem LtsAt.narrow {v : Value} {l : List Lt} (h : LtsAt S w v l) : LtsAt (Now S w) w v l := by
  obtain ⟨A, c, rfl, h1, h2, h3, h⟩ := h
  refine ⟨A, c, rfl, h1, h2, h3, fun j x hj => ?_⟩
  obtain ⟨b, off, cs, hA, hb, hc, hx⟩ := h j x hj
  refine ⟨b, off, cs, hA, ⟨hb, ?_⟩, hc, hx.narrow⟩
  obtain ⟨va, vr, rfl, _⟩ := hx
  exact World.block_lt_of_cell? _ _ (hc 0 _ rfl)
theorem LtsAt.keep {v : Value} {l : List Lt} (h : LtsAt S w v l) (k : Kp S w w') : LtsAt S w' v l := by
  obtain ⟨A, c, rfl, h1, h2, h3, h⟩ := h
  refine ⟨A, c, rfl, h1, h2, h3, fun j x hj => ?_⟩
  obtain ⟨b, off, cs, hA, hb, hc, hl⟩ := h j x hj
  exact ⟨b, off, cs, hA, hb, fun i u hi => k.cell hb (hc i u hi), hl.keep k⟩
end

/-! ### The links: a map from pairs to rows -/
theorem laidOut : laidOutB Try.prog = true := by kernel_rfl
theorem row40 : 40 < Try.prog.types.size := by decide +kernel
theorem law40 : Maps.Keyed Try.prog 40 := Maps.Keyed.of_law (deep_law_laid laidOut (m := 2) (by omega) row40 (by kernel_rfl) (by kernel_rfl))
theorem cells3 : Try.prog.cellsOf 3 = 1 := by kernel_rfl
theorem cells40 : Try.prog.cellsOf 40 = 2 := by kernel_rfl
theorem key40 : Try.prog.keyType 40 = true := by kernel_rfl

def keyV (p : Pr) : Value := .agg #[.int .i64 p.1, .int .i64 p.2]
def Ok64 (p : Pr) : Prop := (Lit.int .i64 p.1).wf = true ∧ (Lit.int .i64 p.2).wf = true
def kl (p : Pr) : Lit := .string (keyBytes [.int .i64 p.1, .int .i64 p.2])
theorem key_of {p : Pr} (h : Ok64 p) : keyOf Try.prog 40 (keyV p) = some (kl p) := by
  obtain ⟨h1, h2⟩ := h
  have e1 : ∀ (d : Nat) (n : Int), (Lit.int .i64 n).wf = true → Try.prog.keyLits (d + 1) 3 [.int .i64 n] = some [.int .i64 n] := fun d n hn => by
    simp [Program.keyLits, Try.underlying3, hn]
  have e2 : ∀ d : Nat, Try.prog.keyLits (d + 1 + 1) 40 [.int .i64 p.1, .int .i64 p.2] = some [.int .i64 p.1, .int .i64 p.2] := fun d => by
    simp [Program.keyLits, Try.underlying40, Try.underlying3, cells40, cells3, List.range_succ, h1, h2]
  have e4 : Try.prog.keyLits 123 40 [.int .i64 p.1, .int .i64 p.2] = some [.int .i64 p.1, .int .i64 p.2] := e2 121
  simp [keyOf, Try.underlying40, keyV, key40, Value.formed, cells40, Value.cells, e4, kl]
theorem kl_inj {p q : Pr} (hp : Ok64 p) (hq : Ok64 q) (h : kl p = kl q) : p = q := by
  have := law40.inj (key_of hp) (h ▸ key_of hq)
  simp [keyV] at this
  exact Prod.ext this.1 this.2

/-- Of a row's header nothing is read but itself. -/
def hdr (v : Value) : Option (DataW Value × List MemPlace) := some (.held v, [])

/-- Block b is a map of at most n entries, from pairs to row headers: f. -/
def MpAt (w : World) (b n : Nat) (f : Pr → Option Value) : Prop := ∃ es clock, w.heap[b]? = some (.map es clock) ∧ Fit Try.prog 40 hdr es clock ∧ es.size ≤ n ∧
  (∀ x ∈ es.toList, ∃ p, Ok64 p ∧ x.key = keyV p ∧ f p = some x.val) ∧ ∀ p v, f p = some v → Ok64 p ∧ ∃ x ∈ es.toList, x.key = keyV p ∧ x.val = v

section
variable {w w' : World} {b n : Nat} {f : Pr → Option Value}
theorem MpAt.lt (h : MpAt w b n f) : b < w.heap.size := by obtain ⟨es, c, hb, _⟩ := h; exact lt_of_heap hb
theorem MpAt.keep (h : MpAt w b n f) (hb : w'.heap[b]? = w.heap[b]?) : MpAt w' b n f := by
  obtain ⟨es, c, h1, rest⟩ := h
  exact ⟨es, c, hb.trans h1, rest⟩
theorem MpAt.owns (h : MpAt w b n f) : ∃ E : List (Lit × DataW Value), w.ownsMap Try.prog 40 hdr b n (.map E) := by
  obtain ⟨es, c, h1, F, hs, _⟩ := h
  exact ⟨_, es, c, h1, F, hs, rfl⟩
theorem MpAt.mono {n' : Nat} (h : MpAt w b n f) (hn : n ≤ n') : MpAt w b n' f := by
  obtain ⟨es, c, h1, F, hs, rest⟩ := h
  exact ⟨es, c, h1, F, Nat.le_trans hs hn, rest⟩
theorem mpAt_made (w : World) : MpAt (w.alloc (.map #[] 0)) w.heap.size 0 (fun _ => none) := by
  obtain ⟨es, c, h1, F, hs, hD⟩ := World.ownsMap_made w Try.prog 40 hdr
  have he : es = #[] := Array.eq_empty_of_size_eq_zero (by omega)
  subst he
  exact ⟨_, c, h1, F, hs, fun x hx => by simp at hx, fun p v h => by cases h⟩
theorem keyV_inj {p q : Pr} (h : keyV p = keyV q) : p = q := by
  simp [keyV] at h; exact Prod.ext h.1 h.2
theorem one_entry {es : Array MapEntry} {clock : Nat} (F : Fit Try.prog 40 hdr es clock) {x y : MapEntry} (hx : x ∈ es.toList) (hy : y ∈ es.toList) (h : x.key = y.key) : x = y :=
  entry_eq_of_key ((MapKept.stamped_iff es clock).1 F.stamped).2.2 hx hy h
/-- m[k]. -/
theorem MpAt.look (h : MpAt w b n f) {p : Pr} (hp : Ok64 p) : (Instr.lookup 51 (.map (some b)) (keyV p) false).run Try.prog w = .ok ((f p).getD (.slice none 0 0)) w := by
  obtain ⟨es, c, h1, F, hs, h2, h3⟩ := h
  rcases Maps.fit_look false law40 Try.underlying51 (z := .slice none 0 0) (by kernel_rfl) h1 F (key_of hp) with ⟨hr, hno, _⟩ | ⟨e0, y, he, hk, hr, _⟩
  · cases hf : f p with
    | none => exact hr
    | some v => obtain ⟨_, x, hx, hxk, _⟩ := h3 p v hf; exact absurd hxk (hno x hx)
  · obtain ⟨q, _, hq, hf⟩ := h2 e0 he
    obtain rfl : q = p := keyV_inj (hq.symm.trans hk)
    rw [hf]; exact hr
/-- m[k] = v. -/
theorem MpAt.update (h : MpAt w b n f) {p : Pr} (hp : Ok64 p) (v : Value) (hn : n < maxLen) :
    ∃ w', (Instr.mapUpdate 51 (.map (some b)) (keyV p) v).run Try.prog w = .ok () w' ∧ MpAt w' b (n + 1) (fun q => if q = p then some v else f q) ∧ w.grownBy w' (some b) := by
  obtain ⟨es, c, h1, F, hs, h2, h3⟩ := h
  obtain ⟨es', c', hr, F', hput, _, _, hwho⟩ := Maps.fit_store (R' := hdr) law40 Try.underlying51 h1 F (Nat.lt_of_le_of_lt hs hn) (fun _ _ _ _ hz => hz) (key_of hp) (val := v) (yv := (.held v, [])) rfl
  have mem : ∀ e, e ∈ es'.toList.map (WideElems.rg Try.prog 40 hdr) ↔ e = (kl p, .held v) ∨ (e ∈ es.toList.map (WideElems.rg Try.prog 40 hdr) ∧ ChangeMaps.notKey (kl p) e = true) := fun e => by
    rw [← mem_sorted, hput, ChangeMaps.putKey, ChangeMaps.mem_insert_iff, List.mem_filter, mem_sorted]
  have back : ∀ (q : Pr) (u : Value), Ok64 q → (kl q, DataW.held u) ∈ es'.toList.map (WideElems.rg Try.prog 40 hdr) → ∃ x ∈ es'.toList, x.key = keyV q ∧ x.val = u := fun q u hq he => by
    obtain ⟨x, hx, hxe⟩ := List.mem_map.1 he
    obtain ⟨y, hy⟩ := F'.reads x hx
    rw [WideElems.rg_of hy] at hxe
    subst hxe
    obtain ⟨z, hz, hzu⟩ := WideElems.rd_val hy
    have hkx := WideElems.rd_key hy
    simp only [hdr, Option.some.injEq] at hz
    subst hz
    refine ⟨x, hx, law40.inj hkx (key_of hq), ?_⟩
    simpa using hzu.symm
  refine ⟨_, hr, ⟨es', c', ChangeMaps.heap_setBlock_same h1 _, F', ?_, fun x hx => ?_, fun q u hf => ?_⟩, ⟨rfl, rfl, rfl, by simp [ChangeMaps.setBlock], fun i _ hi => ChangeMaps.heap_setBlock_other h1 _ (fun e => hi (by rw [e]))⟩⟩
  · have e1 : es'.size = ((es'.toList.map (WideElems.rg Try.prog 40 hdr)).foldr DataW.insert []).length := by rw [length_sorted]; simp
    rw [e1, hput]
    unfold ChangeMaps.putKey
    rw [length_insert]
    have e2 := List.length_filter_le (ChangeMaps.notKey (kl p)) ((es.toList.map (WideElems.rg Try.prog 40 hdr)).foldr DataW.insert [])
    rw [length_sorted] at e2
    simp at e2
    omega
  · rcases hwho x hx with ⟨hx1, hx2⟩ | ⟨hx1, hx2⟩
    · obtain ⟨q, hq, hk, hf⟩ := h2 x hx1
      refine ⟨q, hq, hk, ?_⟩
      show (if q = p then _ else _) = _
      rw [if_neg (fun e => hx2 (by rw [hk, e]))]; exact hf
    · exact ⟨p, hp, hx1, by show (if p = p then _ else _) = _; rw [if_pos rfl, hx2]⟩
  · by_cases e : q = p
    · subst e
      have hu : v = u := by simpa using hf
      subst hu
      exact ⟨hp, back q v hp ((mem _).2 (.inl rfl))⟩
    · have hf' : f q = some u := by simpa [e] using hf
      obtain ⟨hq, x, hx, hxk, hxv⟩ := h3 q u hf'
      refine ⟨hq, back q u hq ((mem _).2 (.inr ⟨List.mem_map.2 ⟨x, hx, ?_⟩, ?_⟩))⟩
      · obtain ⟨y, hy⟩ := F.reads x hx
        rw [WideElems.rg_of hy]
        have hk1 := WideElems.rd_key hy
        obtain ⟨z, hz, hzu⟩ := WideElems.rd_val hy
        rw [hxk, key_of hq] at hk1
        simp only [hdr, Option.some.injEq] at hz
        subst hz
        have e1 : kl q = y.1 := Option.some.inj hk1
        exact Prod.ext e1.symm (by rw [hzu, hxv])
      · exact (Maps.notKey_iff (law40.key (key_of hp))).2 (fun e' => e (kl_inj hq hp e'))
/-- delete(m, k). -/
theorem MpAt.drop (h : MpAt w b n f) {p : Pr} (hp : Ok64 p) (ty : TypeId) :
    ∃ w', (Builtin.delete_ #[51, 40] ty #[.map (some b), keyV p]).run Try.prog w = .ok (.tuple #[]) w' ∧ MpAt w' b n (fun q => if q = p then none else f q) ∧ w.grownBy w' (some b) := by
  obtain ⟨es, c, h1, F, hs, h2, h3⟩ := h
  obtain ⟨es', hr, F', hle, _, _, hwho⟩ := fit_drop_who (ty := ty) law40 Try.underlying51 h1 F (key_of hp)
  refine ⟨_, hr, ⟨es', c, ChangeMaps.heap_setBlock_same h1 _, F', Nat.le_trans hle hs, fun x hx => ?_, fun q u hf => ?_⟩, ⟨rfl, rfl, rfl, by simp [ChangeMaps.setBlock], fun i _ hi => ChangeMaps.heap_setBlock_other h1 _ (fun e => hi (by rw [e]))⟩⟩
  · obtain ⟨hx1, hx2⟩ := (hwho x).1 hx
    obtain ⟨q, hq, hk, hf⟩ := h2 x hx1
    exact ⟨q, hq, hk, by show (if q = p then _ else _) = _; rw [if_neg (fun e => hx2 (by rw [hk, e]))]; exact hf⟩
  · by_cases e : q = p
    · simp [e] at hf
    · have hf' : f q = some u := by simpa [e] using hf
      obtain ⟨hq, x, hx, hxk, hxv⟩ := h3 q u hf'
      exact ⟨hq, x, (hwho x).2 ⟨hx, fun e' => e (keyV_inj (hxk.symm.trans e'))⟩, hxk, hxv⟩
end

structure LkAt (S : Nat → Prop) (w : World) (bp b n : Nat) (ws : List Wy) : Prop where
  blk : w.heap[bp]? = some (.cells #[.map (some b)] 53 (0, 0))
  lob : S bp
  ok : ∀ y ∈ ws, Ok64 y.p
  map : ∃ f, MpAt w b n f ∧ ∀ p, (f p = none ∧ queue ws p = []) ∨ ∃ v, f p = some v ∧ queue ws p ≠ [] ∧ LtsAt S w v (queue ws p)

section
variable {S : Nat → Prop} {bp b n : Nat} {ws : List Wy} {w w' : World}
theorem LkAt.keep (h : LkAt S w bp b n ws) (k : Kp S w w') (hb : w'.heap[b]? = w.heap[b]?) : LkAt S w' bp b n ws := by
  obtain ⟨f, hm, h1⟩ := h.map
  refine ⟨k.blk _ _ h.lob h.blk rfl, h.lob, h.ok, f, hm.keep hb, fun p => ?_⟩
  rcases h1 p with h2 | ⟨v, h2, h3, h4⟩
  · exact .inl h2
  · exact .inr ⟨v, h2, h3, h4.keep k⟩
theorem LkAt.mono {S' : Nat → Prop} (h : LkAt S w bp b n ws) (hl : ∀ k, S k → S' k) : LkAt S' w bp b n ws := by
  obtain ⟨f, hm, h1⟩ := h.map
  refine ⟨h.blk, hl _ h.lob, h.ok, f, hm, fun p => ?_⟩
  rcases h1 p with h2 | ⟨v, h2, h3, h4⟩
  · exact .inl h2
  · exact .inr ⟨v, h2, h3, h4.mono hl⟩
theorem LkAt.narrow (h : LkAt S w bp b n ws) : LkAt (Now S w) w bp b n ws := by
  obtain ⟨f, hm, h1⟩ := h.map
  refine ⟨h.blk, ⟨h.lob, lt_of_heap h.blk⟩, h.ok, f, hm, fun p => ?_⟩
  rcases h1 p with h2 | ⟨v, h2, h3, h4⟩
  · exact .inl h2
  · exact .inr ⟨v, h2, h3, h4.narrow⟩
theorem LkAt.more {n' : Nat} (h : LkAt S w bp b n ws) (hn : n ≤ n') : LkAt S w bp b n' ws := by
  obtain ⟨f, hm, h1⟩ := h.map
  exact ⟨h.blk, h.lob, h.ok, f, hm.mono hn, h1⟩
theorem LkAt.lt (h : LkAt S w bp b n ws) : bp < w.heap.size ∧ b < w.heap.size := by
  obtain ⟨f, hm, _⟩ := h.map
  exact ⟨lt_of_heap h.blk, hm.lt⟩
theorem LkAt.below (h : LkAt S w bp b n ws) (hb : Below w.heap.size w w') : LkAt S w' bp b n ws :=
  h.keep (.of_below hb S) (hb.block _ h.lt.2)
theorem LkAt.cell (h : LkAt S w bp b n ws) : w.cell? ⟨bp, 0, none⟩ = some (.map (some b)) := by simp [World.cell?, h.blk]
/-- The map's block is none of cells. -/
theorem LkAt.walk (h : LkAt S w bp b n ws) : ∃ o : Obj, w.heap[b]? = some o ∧ o.isCells = false := by
  obtain ⟨f, ⟨es, clock, hbm, _⟩, _⟩ := h.map
  exact ⟨_, hbm, rfl⟩
theorem LkAt.ne (h : LkAt S w bp b n ws) : bp ≠ b := by
  intro e; obtain ⟨o, ho, hc⟩ := h.walk; rw [← e, h.blk] at ho; cases ho; cases hc
/-- What the map tells at a pair. -/
theorem LkAt.look (h : LkAt S w bp b n ws) {p : Pr} (hp : Ok64 p) : ∃ v, LtsAt S w v (queue ws p) ∧ ∀ w' : World, w'.heap[b]? = w.heap[b]? → (Instr.lookup 51 (.map (some b)) (keyV p) false).run Try.prog w' = .ok v w' := by
  obtain ⟨f, hm, h1⟩ := h.map
  refine ⟨(f p).getD (.slice none 0 0), ?_, fun w' hw => (hm.keep hw).look hp⟩
  rcases h1 p with ⟨h2, h3⟩ | ⟨v, h2, _, h4⟩
  · rw [h2, h3]; exact ⟨none, 0, rfl, Nat.le_refl _, Nat.zero_le _, fun _ => rfl, fun j x hj => by simp at hj⟩
  · rw [h2]; exact h4
end
end Go.Proofs.Ytjplobfacdcgcaa
