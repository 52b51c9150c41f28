/-
  What the laws of dict want of the plain model: two dicts of the same names and values; how large a dict is behind so many calls. Of no function.
-/
import Derived.Test.YtflndbgaidhbaaaDoorD1
namespace Go.Proofs.YtflndbgaidhbaaaDoor
open Go.RowKit Dm

section
variable {T : Nat → Int}
/-- How large a dict is behind k calls. -/
structure Small (T : Nat → Int) (k : Nat) (d : D Int) : Prop where
  inv : Inv (hsh T) d
  now : d.now.length ≤ 2000
  old : d.old.length ≤ 2000
  many : d.many ≤ k
  names : ∀ x ∈ d.cont, x.1.length ≤ 140737488351232
theorem Small.fit {k : Nat} {d : D Int} (h : Small T k d) (hk : k ≤ 1000) : Fit T d := ⟨h.inv, by have := h.now; omega, by have := h.old; omega, by have := h.many; omega, h.names⟩
theorem Small.mono {k k' : Nat} {d : D Int} (h : Small T k d) (hk : k ≤ k') : Small T k' d := ⟨h.inv, h.now, h.old, Nat.le_trans h.many hk, h.names⟩
theorem Small.new (T : Nat → Int) : Small T 0 (new : D Int) := ⟨new_inv _, by simp [Dm.new], by simp [Dm.new], by simp [Dm.new], by simp [Dm.new, D.cont]⟩
theorem step_old_le {d : D Int} : (Dm.step (hsh T) d).old.length ≤ d.old.length := by
  unfold Dm.step
  split
  · exact Nat.le_refl _
  · split
    · simp
    · rw [List.length_set]; exact Nat.le_refl _
theorem Small.step {k : Nat} {d : D Int} (h : Small T k d) : Small T k (Dm.step (hsh T) d) :=
  ⟨step_inv _ h.inv, by rw [step_now_length]; exact h.now, Nat.le_trans step_old_le h.old, by rw [step_many]; exact h.many, fun x hx => h.names x ((step_cont _ h.inv).mem_iff.1 hx)⟩
theorem put_old_le {d : D Int} (n : Nm) (v : Int) (N : Nat) (h1 : d.now.length ≤ N) (h2 : d.old.length ≤ N) : (Dm.put (hsh T) d n v).old.length ≤ N := by
  have hl := step_now_length (hsh T) d
  have ho := step_old_le (T := T) (d := d)
  unfold Dm.put put2
  split
  · rw [edit_old_length]; omega
  · split
    · simp only [begin_, put1_length]; omega
    · simp only; omega
theorem del_old_le {d : D Int} (n : Nm) (N : Nat) (h1 : d.now.length ≤ N) (h2 : d.old.length ≤ N) : (Dm.del (hsh T) d n).old.length ≤ N := by
  have hl := step_now_length (hsh T) d
  have ho := step_old_le (T := T) (d := d)
  have k1 : (del1 (hsh T) (Dm.step (hsh T) d) n).old.length ≤ N ∧ (del1 (hsh T) (Dm.step (hsh T) d) n).now.length ≤ N := by
    unfold del1
    split
    · simp only [edit_old_length, edit_now_length]; omega
    · omega
  unfold Dm.del shrink
  split
  · simp only [begin_]; omega
  · omega
theorem Small.put {k : Nat} {d : D Int} (h : Small T k d) (hk : k ≤ 1000) (n : Nm) (v : Int) (hn : n.length ≤ 140737488351232) : Small T (k + 1) (Dm.put (hsh T) d n v) := by
  refine ⟨put_inv _ h.inv n v, put_rooms_le (hsh T) n v 2000 h.now (by have := h.many; omega), put_old_le n v 2000 h.now h.old, ?_, fun x hx => ?_⟩
  · have := put_many_le (hsh T) h.inv n v; have := h.many; omega
  · rcases (put_mem _ h.inv n v x).1 hx with rfl | ⟨h1, _⟩
    · exact hn
    · exact h.names x h1
theorem Small.del {k : Nat} {d : D Int} (h : Small T k d) (n : Nm) : Small T k (Dm.del (hsh T) d n) := by
  refine ⟨del_inv _ h.inv n, del_rooms_le (hsh T) n 2000 h.now, del_old_le n 2000 h.now h.old, ?_, fun x hx => h.names x ((del_mem _ h.inv n x).1 hx).1⟩
  have := del_many_le (hsh T) (d := d) n; have := h.many; omega
theorem Small.op {k : Nat} {d : D Int} (h : Small T k d) (hk : k ≤ 1000) (kind v : Int) (n : Nm) (hn : n.length ≤ 140737488351232) : Small T (k + 1) (opD T d kind v n) := by
  unfold opD
  split
  · exact h.put hk n v hn
  · split
    · exact (h.del n).mono (by omega)
    · split
      · exact h.step.mono (by omega)
      · exact h.mono (by omega)

/-- The same names and values. -/
def Alike (d e : D Int) : Prop := ∀ x, x ∈ d.cont ↔ x ∈ e.cont
theorem Alike.refl (d : D Int) : Alike d d := fun _ => Iff.rfl
theorem Alike.step {d e : D Int} (h : Alike d e) (he : Inv (hsh T) e) : Alike d (Dm.step (hsh T) e) := fun x => (h x).trans (step_cont _ he).mem_iff.symm
theorem Alike.op {d e : D Int} (h : Alike d e) (hd : Inv (hsh T) d) (he : Inv (hsh T) e) (kind v : Int) (n : Nm) : Alike (opD T d kind v n) (opD T e kind v n) := by
  unfold opD
  split
  · intro x
    rw [put_mem _ hd, put_mem _ he, h x]
  · split
    · intro x
      rw [del_mem _ hd, del_mem _ he, h x]
    · split
      · intro x
        rw [(step_cont _ hd).mem_iff, (step_cont _ he).mem_iff]
        exact h x
      · exact h
theorem nodup_of {l : Room Int} (h : (l.map (·.1)).Nodup) : l.Nodup := (List.pairwise_map.1 h).imp fun hne e => hne (by rw [e])
theorem Alike.perm {d e : D Int} (h : Alike d e) (hd : Inv (hsh T) d) (he : Inv (hsh T) e) : d.cont.Perm e.cont :=
  (List.perm_ext_iff_of_nodup (nodup_of hd.keys) (nodup_of he.keys)).2 h
theorem sort_unique {a b : List Nm} (h : a.Perm b) : (a.mergeSort fun x y => decide (x ≤ y)) = b.mergeSort fun x y => decide (x ≤ y) := by
  have tr : ∀ (x y z : Nm), decide (x ≤ y) = true → decide (y ≤ z) = true → decide (x ≤ z) = true := fun x y z h1 h2 => by
    simp only [decide_eq_true_eq] at *; exact List.le_trans h1 h2
  have to : ∀ (x y : Nm), (decide (x ≤ y) || decide (y ≤ x)) = true := fun x y => by
    simp only [Bool.or_eq_true, decide_eq_true_eq]; exact List.le_total x y
  refine List.Perm.eq_of_pairwise (le := fun x y => decide (x ≤ y) = true) (fun x y _ _ h1 h2 => ?_) (List.pairwise_mergeSort tr to a) (List.pairwise_mergeSort tr to b) ((List.mergeSort_perm a _).trans (h.trans (List.mergeSort_perm b _).symm))
  simp only [decide_eq_true_eq] at h1 h2
  exact List.le_antisymm h1 h2
theorem Alike.names {d e : D Int} (h : Alike d e) (hd : Inv (hsh T) d) (he : Inv (hsh T) e) : ((nms d.cont).mergeSort fun x y => decide (x ≤ y)) = (nms e.cont).mergeSort fun x y => decide (x ≤ y) :=
  sort_unique ((h.perm hd he).map _)
theorem Alike.many {d e : D Int} (h : Alike d e) (hd : Inv (hsh T) d) (he : Inv (hsh T) e) : d.many = e.many := by
  rw [hd.many, he.many, (h.perm hd he).length_eq]
theorem Alike.get {d e : D Int} (h : Alike d e) (hd : Inv (hsh T) d) (he : Inv (hsh T) e) (n : Nm) : Dm.get (hsh T) d n = Dm.get (hsh T) e n := by
  cases hg : Dm.get (hsh T) d n with
  | some v => exact ((get_mem _ he n v).2 ((h _).1 ((get_mem _ hd n v).1 hg))).symm
  | none =>
    cases hg2 : Dm.get (hsh T) e n with
    | none => rfl
    | some v => rw [(get_mem _ hd n v).2 ((h _).2 ((get_mem _ he n v).1 hg2))] at hg; simp at hg
theorem get_some_of_name {d : D Int} (hd : Inv (hsh T) d) {n : Nm} (h : n ∈ nms d.cont) : ∃ v, Dm.get (hsh T) d n = some v := by
  obtain ⟨x, hx, rfl⟩ := List.mem_map.1 h
  exact ⟨x.2, (get_mem _ hd x.1 x.2).2 hx⟩
end
end Go.Proofs.YtflndbgaidhbaaaDoor
