/-
  Links in plain words: a letter, a reply; the letters on their way stand in one row; what Next, Waiting and Pairs tell of it. Of no function.
-/
import Derived.Below
namespace Go.Proofs.Ytjplobfacdcgcaa

/-- A reply: its list has n. -/
inductive Rp where
  | mk (kind int : Int) (text : ByteArray) (n : Nat) (list : Fin n → Rp)
namespace Rp
def kind : Rp → Int | mk k _ _ _ _ => k
def int : Rp → Int | mk _ i _ _ _ => i
def text : Rp → ByteArray | mk _ _ t _ _ => t
def n : Rp → Nat | mk _ _ _ n _ => n
/-- No list in it has more than m. -/
def Fine (m : Nat) : Rp → Prop
  | mk _ _ _ n l => n ≤ m ∧ ∀ i, Fine m (l i)
def zero : Rp := mk 0 0 ⟨#[]⟩ 0 (fun i => i.elim0)
end Rp

structure Lt where
  kind : Int
  number : Int
  slot : Int
  ends : Int
  key : ByteArray
  text : ByteArray
  args : List ByteArray
  reply : Rp
  good : Bool
  asking : Int

abbrev Pr := Int × Int
structure Wy where
  p : Pr
  x : Lt

/-- The letters on the way p. -/
def queue (l : List Wy) (p : Pr) : List Lt := (l.filter (fun y => y.p == p)).map (·.x)
def nextL (l : List Wy) (p : Pr) : List Wy := l.eraseP (fun y => y.p == p)

theorem queue_nil (p : Pr) : queue [] p = [] := rfl
theorem queue_cons (y : Wy) (l : List Wy) (p : Pr) : queue (y :: l) p = if y.p = p then y.x :: queue l p else queue l p := by
  unfold queue
  by_cases h : y.p = p
  · rw [if_pos h, List.filter_cons_of_pos (by simp [h])]; rfl
  · rw [if_neg h, List.filter_cons_of_neg (by simp [h])]
theorem queue_append (l l' : List Wy) (p : Pr) : queue (l ++ l') p = queue l p ++ queue l' p := by simp [queue]
theorem queue_send (l : List Wy) (q : Pr) (x : Lt) (p : Pr) : queue (l ++ [⟨q, x⟩]) p = if q = p then queue l p ++ [x] else queue l p := by
  rw [queue_append, queue_cons, queue_nil]; split <;> simp
theorem nextL_cons (y : Wy) (l : List Wy) (p : Pr) : nextL (y :: l) p = if y.p = p then l else y :: nextL l p := by
  unfold nextL
  rw [List.eraseP_cons]
  by_cases h : y.p = p
  · simp [h]
  · have : (y.p == p) = false := by simp [h]
    rw [this, if_neg h]; rfl
theorem queue_next_same (l : List Wy) (p : Pr) : queue (nextL l p) p = (queue l p).tail := by
  induction l with
  | nil => rfl
  | cons y l ih =>
    rw [nextL_cons, queue_cons]
    by_cases h : y.p = p
    · rw [if_pos h, if_pos h]; rfl
    · rw [if_neg h, if_neg h, queue_cons, if_neg h, ih]
theorem queue_next_other (l : List Wy) {p q : Pr} (hne : p ≠ q) : queue (nextL l p) q = queue l q := by
  induction l with
  | nil => rfl
  | cons y l ih =>
    rw [nextL_cons, queue_cons]
    by_cases h : y.p = p
    · rw [if_pos h, if_neg (by rw [h]; exact hne)]
    · rw [if_neg h, queue_cons, ih]
theorem nextL_none {l : List Wy} {p : Pr} (h : queue l p = []) : nextL l p = l := by
  induction l with
  | nil => rfl
  | cons y l ih =>
    rw [queue_cons] at h
    by_cases e : y.p = p
    · rw [if_pos e] at h; cases h
    · rw [if_neg e] at h; rw [nextL_cons, if_neg e, ih h]
theorem length_next (l : List Wy) (p : Pr) : (nextL l p).length = if queue l p = [] then l.length else l.length - 1 := by
  induction l with
  | nil => rfl
  | cons y l ih =>
    rw [nextL_cons, queue_cons]
    by_cases e : y.p = p
    · rw [if_pos e, if_pos e]; simp
    · rw [if_neg e, if_neg e, List.length_cons, ih]
      split
      · rfl
      · have : l ≠ [] := by intro e'; subst e'; simp [queue] at *
        have := List.length_pos_iff.2 this
        rw [List.length_cons]; omega
theorem queue_le (l : List Wy) (p : Pr) : (queue l p).length ≤ l.length := by
  unfold queue; rw [List.length_map]; exact List.length_filter_le _ _

/-! ### The links that have some, in order -/
def lt2 (a b : Pr) : Bool := decide (a.1 < b.1 ∨ (a.1 = b.1 ∧ a.2 < b.2))
theorem lt2_iff {a b : Pr} : lt2 a b = true ↔ a.1 < b.1 ∨ (a.1 = b.1 ∧ a.2 < b.2) := by simp [lt2]
theorem lt2_trans {a b c : Pr} (h : lt2 a b = true) (k : lt2 b c = true) : lt2 a c = true := by rw [lt2_iff] at *; omega
theorem lt2_irrefl (a : Pr) : lt2 a a = false := by simp [lt2]
theorem lt2_total {a b : Pr} (h : a ≠ b) : lt2 a b = true ∨ lt2 b a = true := by
  rw [lt2_iff, lt2_iff]
  have : ¬ (a.1 = b.1 ∧ a.2 = b.2) := fun e => h (Prod.ext e.1 e.2)
  omega

/-- p laid in where it belongs, if it is not there. -/
def ins (p : Pr) : List Pr → List Pr
  | [] => [p]
  | q :: r => if q = p then q :: r else if lt2 p q then p :: q :: r else q :: ins p r
def pairsL (l : List Wy) : List Pr := l.foldl (fun o y => ins y.p o) []

abbrev Rise (l : List Pr) : Prop := l.Pairwise (fun a b => lt2 a b = true)
theorem mem_ins {p x : Pr} : ∀ {l : List Pr}, x ∈ ins p l ↔ x = p ∨ x ∈ l
  | [] => by simp [ins]
  | q :: r => by
    unfold ins
    split
    · rename_i h; subst h; simp
    · split
      · simp
      · simp only [List.mem_cons, mem_ins (l := r)]
        constructor
        · rintro (h | h | h) <;> simp [h]
        · rintro (h | h | h) <;> simp [h]
theorem rise_ins {p : Pr} : ∀ {l : List Pr}, Rise l → Rise (ins p l)
  | [], _ => by simp [ins, Rise]
  | q :: r, h => by
    obtain ⟨h1, h2⟩ := List.pairwise_cons.1 h
    unfold ins
    split
    · exact h
    · rename_i hne
      split
      · rename_i hlt
        exact List.pairwise_cons.2 ⟨fun x hx => by
          rcases List.mem_cons.1 hx with rfl | hx
          · exact hlt
          · exact lt2_trans hlt (h1 x hx), h⟩
      · rename_i hlt
        refine List.pairwise_cons.2 ⟨fun x hx => ?_, rise_ins h2⟩
        rcases mem_ins.1 hx with rfl | hx
        · rcases lt2_total hne with h' | h'
          · exact h'
          · exact absurd h' hlt
        · exact h1 x hx
theorem pairsL_append (l : List Wy) (y : Wy) : pairsL (l ++ [y]) = ins y.p (pairsL l) := by simp [pairsL]
theorem rise_fold : ∀ (l : List Wy) (o : List Pr), Rise o → Rise (l.foldl (fun o y => ins y.p o) o)
  | [], _, h => h
  | y :: l, o, h => rise_fold l _ (rise_ins h)
theorem mem_fold : ∀ (l : List Wy) (o : List Pr) (x : Pr), x ∈ l.foldl (fun o y => ins y.p o) o ↔ x ∈ o ∨ ∃ y ∈ l, y.p = x
  | [], o, x => by simp
  | y :: l, o, x => by
    rw [List.foldl_cons, mem_fold l _ x, mem_ins]
    constructor
    · rintro ((h | h) | ⟨z, hz, he⟩)
      · exact .inr ⟨y, by simp, h.symm⟩
      · exact .inl h
      · exact .inr ⟨z, by simp [hz], he⟩
    · rintro (h | ⟨z, hz, he⟩)
      · exact .inl (.inr h)
      · rcases List.mem_cons.1 hz with rfl | hz
        · exact .inl (.inl he.symm)
        · exact .inr ⟨z, hz, he⟩
theorem pairsL_rise (l : List Wy) : Rise (pairsL l) := rise_fold l [] List.Pairwise.nil
theorem mem_queue {l : List Wy} {p : Pr} : queue l p ≠ [] ↔ ∃ y ∈ l, y.p = p := by
  unfold queue
  rw [Ne, List.map_eq_nil_iff, List.filter_eq_nil_iff]
  simp
theorem mem_pairsL {l : List Wy} {p : Pr} : p ∈ pairsL l ↔ queue l p ≠ [] := by
  rw [mem_queue]; unfold pairsL; rw [mem_fold]; simp
theorem length_ins (p : Pr) : ∀ l : List Pr, (ins p l).length ≤ l.length + 1
  | [] => by simp [ins]
  | q :: r => by
    unfold ins
    have := length_ins p r
    split
    · simp
    · split <;> simp <;> omega
theorem length_fold : ∀ (l : List Wy) (o : List Pr), (l.foldl (fun o y => ins y.p o) o).length ≤ o.length + l.length
  | [], o => by simp
  | y :: l, o => by
    have := length_fold l (ins y.p o)
    have := length_ins y.p o
    simp only [List.foldl_cons, List.length_cons]; omega
theorem pairsL_le (l : List Wy) : (pairsL l).length ≤ l.length := by have := length_fold l []; unfold pairsL; simpa using this

/-- Two rising rows of the same pairs are one. -/
theorem rise_unique : ∀ {l l' : List Pr}, Rise l → Rise l' → (∀ x, x ∈ l ↔ x ∈ l') → l = l'
  | [], [], _, _, _ => rfl
  | [], b :: l', _, _, h => by have := (h b).2 (by simp); simp at this
  | a :: l, [], _, _, h => by have := (h a).1 (by simp); simp at this
  | a :: l, b :: l', ha, hb, h => by
    obtain ⟨a1, a2⟩ := List.pairwise_cons.1 ha
    obtain ⟨b1, b2⟩ := List.pairwise_cons.1 hb
    have e : a = b := by
      rcases List.mem_cons.1 ((h a).1 (by simp)) with e | ha'
      · exact e
      · rcases List.mem_cons.1 ((h b).2 (by simp)) with e | hb'
        · exact e.symm
        · have := lt2_trans (b1 a ha') (a1 b hb'); rw [lt2_irrefl] at this; cases this
    subst e
    have ih : l = l' := rise_unique a2 b2 (fun x => by
      constructor
      · intro hx
        rcases List.mem_cons.1 ((h x).1 (by simp [hx])) with e | h'
        · subst e; have := a1 x hx; rw [lt2_irrefl] at this; cases this
        · exact h'
      · intro hx
        rcases List.mem_cons.1 ((h x).2 (by simp [hx])) with e | h'
        · subst e; have := b1 x hx; rw [lt2_irrefl] at this; cases this
        · exact h')
    rw [ih]

/-- The program's way: the ways that have some, each once, sorted. -/
theorem sorted_pairs {ks : List Pr} {l : List Wy} (hn : ks.Nodup) (hm : ∀ p, p ∈ ks ↔ queue l p ≠ []) : ks.mergeSort (fun a b => !lt2 b a) = pairsL l := by
  have ht : ∀ a b c : Pr, (!lt2 b a) = true → (!lt2 c b) = true → (!lt2 c a) = true := by
    intro a b c h1 h2
    simp only [Bool.not_eq_true', ← Bool.not_eq_true, lt2_iff] at *
    omega
  have htot : ∀ a b : Pr, (!lt2 b a || !lt2 a b) = true := by
    intro a b
    cases h : lt2 b a
    · rfl
    · cases h' : lt2 a b
      · rfl
      · have := lt2_trans h h'; rw [lt2_irrefl] at this; cases this
  have hs := List.pairwise_mergeSort (le := fun a b => !lt2 b a) ht htot ks
  have hp := List.mergeSort_perm ks (fun a b => !lt2 b a)
  have hnd : (ks.mergeSort (fun a b => !lt2 b a)).Nodup := hp.nodup_iff.2 hn
  refine rise_unique ?_ (pairsL_rise l) (fun x => by rw [hp.mem_iff, hm, mem_pairsL])
  have := hs.and hnd
  refine this.imp ?_
  rintro a b ⟨h1, h2⟩
  rcases lt2_total h2 with h | h
  · exact h
  · rw [h] at h1; cases h1

/-- As many letters as all links have together. -/
theorem sum_queues : ∀ (ps : List Pr) (l : List Wy), ps.Nodup → (∀ y ∈ l, y.p ∈ ps) → (ps.map fun p => (queue l p).length).sum = l.length
  | [], l, _, h => by
    cases l with
    | nil => rfl
    | cons y l => exact absurd (h y (by simp)) (by simp)
  | p :: ps, l, hn, h => by
    obtain ⟨h1, h2⟩ := List.nodup_cons.1 hn
    have ih := sum_queues ps (l.filter (fun y => !(y.p == p))) h2 (fun y hy => by
      obtain ⟨hy1, hy2⟩ := List.mem_filter.1 hy
      rcases List.mem_cons.1 (h y hy1) with e | e
      · rw [e] at hy2; simp at hy2
      · exact e)
    have e1 : ∀ q ∈ ps, queue (l.filter (fun y => !(y.p == p))) q = queue l q := fun q hq => by
      unfold queue
      rw [List.filter_filter]
      congr 1
      refine List.filter_congr fun y _ => ?_
      by_cases e : y.p = q
      · have : q ≠ p := fun e' => h1 (e' ▸ hq)
        simp [e, this]
      · simp [e]
    have e2 : (ps.map fun q => (queue (l.filter (fun y => !(y.p == p))) q).length) = ps.map fun q => (queue l q).length := List.map_congr_left fun q hq => by rw [e1 q hq]
    rw [e2] at ih
    rw [List.map_cons, List.sum_cons, ih]
    unfold queue
    rw [List.length_map]
    have e3 : ∀ l : List Wy, (l.filter (fun y => y.p == p)).length + (l.filter (fun y => !(y.p == p))).length = l.length := by
      intro l
      induction l with
      | nil => rfl
      | cons y l ih => cases h : (y.p == p) <;> simp [List.filter_cons, h] <;> omega
    exact e3 l
theorem sum_pairs (l : List Wy) : ((pairsL l).map fun p => (queue l p).length).sum = l.length :=
  sum_queues _ _ ((pairsL_rise l).imp (fun {a b} h e => by subst e; rw [lt2_irrefl] at h; cases h)) (fun y hy => mem_pairsL.2 (mem_queue.2 ⟨y, hy, rfl⟩))
end Go.Proofs.Ytjplobfacdcgcaa
