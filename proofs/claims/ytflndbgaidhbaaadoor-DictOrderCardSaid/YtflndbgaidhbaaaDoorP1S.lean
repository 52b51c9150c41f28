/-
  The dict of texts: What the laws of dict want of the plain model: two dicts of the same names and values; how large a dict is behind so many calls. Of no function.
-/
import Derived.Test.YtflndbgaidhbaaaDoorX14S
import Derived.Test.YtflndbgaidhbaaaDoorA1
namespace Go.Proofs.YtflndbgaidhbaaaDoor.Str
open Go.RowKit Dm

section
variable {T : Nat → Int}
/-- How large a dict is behind k calls. -/
structure Small (T : Nat → Int) (k : Nat) (d : D Nm) : Prop where
  inv : Inv (hsh T) d
  now : d.now.length ≤ 2000
  old : d.old.length ≤ 2000
  many : d.many ≤ k
  names : ∀ x ∈ d.cont, x.1.length ≤ 140737488351232
theorem Small.fit {k : Nat} {d : D Nm} (h : Small T k d) (hk : k ≤ 1000) : Fit T d := ⟨h.inv, by have := h.now; omega, by have := h.old; omega, by have := h.many; omega, h.names⟩
theorem Small.mono {k k' : Nat} {d : D Nm} (h : Small T k d) (hk : k ≤ k') : Small T k' d := ⟨h.inv, h.now, h.old, Nat.le_trans h.many hk, h.names⟩
theorem Small.new (T : Nat → Int) : Small T 0 (new : D Nm) := ⟨new_inv _, by simp [Dm.new], by simp [Dm.new], by simp [Dm.new], by simp [Dm.new, D.cont]⟩
theorem step_old_le {d : D Nm} : (Dm.step (hsh T) d).old.length ≤ d.old.length := by
  unfold Dm.step
  split
  · exact Nat.le_refl _
  · split
    · simp
    · rw [List.length_set]; exact Nat.le_refl _
theorem Small.step {k : Nat} {d : D Nm} (h : Small T k d) : Small T k (Dm.step (hsh T) d) :=
  ⟨step_inv _ h.inv, by rw [step_now_length]; exact h.now, Nat.le_trans step_old_le h.old, by rw [step_many]; exact h.many, fun x hx => h.names x ((step_cont _ h.inv).mem_iff.1 hx)⟩
theorem put_old_le {d : D Nm} (n : Nm) (v : Nm) (N : Nat) (h1 : d.now.length ≤ N) (h2 : d.old.length ≤ N) : (Dm.put (hsh T) d n v).old.length ≤ N := by
  have hl := step_now_length (hsh T) d
  have ho := step_old_le (T := T) (d := d)
  unfold Dm.put put2
  split
  · rw [edit_old_length]; omega
  · split
    · simp only [begin_, put1_length]; omega
    · simp only; omega
theorem del_old_le {d : D Nm} (n : Nm) (N : Nat) (h1 : d.now.length ≤ N) (h2 : d.old.length ≤ N) : (Dm.del (hsh T) d n).old.length ≤ N := by
  have hl := step_now_length (hsh T) d
  have ho := step_old_le (T := T) (d := d)
  have k1 : (del1 (hsh T) (Dm.step (hsh T) d) n).old.length ≤ N ∧ (del1 (hsh T) (Dm.step (hsh T) d) n).now.length ≤ N := by
    unfold del1
    split
    · simp only [edit_old_length, edit_now_length]; omega
    · omega
  unfold Dm.del shrink
  split
  · simp only [begin_]; omega
  · omega
theorem Small.put {k : Nat} {d : D Nm} (h : Small T k d) (hk : k ≤ 1000) (n : Nm) (v : Nm) (hn : n.length ≤ 140737488351232) : Small T (k + 1) (Dm.put (hsh T) d n v) := by
  refine ⟨put_inv _ h.inv n v, put_rooms_le (hsh T) n v 2000 h.now (by have := h.many; omega), put_old_le n v 2000 h.now h.old, ?_, fun x hx => ?_⟩
  · have := put_many_le (hsh T) h.inv n v; have := h.many; omega
  · rcases (put_mem _ h.inv n v x).1 hx with rfl | ⟨h1, _⟩
    · exact hn
    · exact h.names x h1
theorem Small.del {k : Nat} {d : D Nm} (h : Small T k d) (n : Nm) : Small T k (Dm.del (hsh T) d n) := by
  refine ⟨del_inv _ h.inv n, del_rooms_le (hsh T) n 2000 h.now, del_old_le n 2000 h.now h.old, ?_, fun x hx => h.names x ((del_mem _ h.inv n x).1 hx).1⟩
  have := del_many_le (hsh T) (d := d) n; have := h.many; omega
/-- The same names and values. -/
def Alike (d e : D Nm) : Prop := ∀ x, x ∈ d.cont ↔ x ∈ e.cont
theorem Alike.refl (d : D Nm) : Alike d d := fun _ => Iff.rfl
theorem Alike.step {d e : D Nm} (h : Alike d e) (he : Inv (hsh T) e) : Alike d (Dm.step (hsh T) e) := fun x => (h x).trans (step_cont _ he).mem_iff.symm
theorem nodup_of {l : Room Nm} (h : (l.map (·.1)).Nodup) : l.Nodup := (List.pairwise_map.1 h).imp fun hne e => hne (by rw [e])
theorem Alike.perm {d e : D Nm} (h : Alike d e) (hd : Inv (hsh T) d) (he : Inv (hsh T) e) : d.cont.Perm e.cont :=
  (List.perm_ext_iff_of_nodup (nodup_of hd.keys) (nodup_of he.keys)).2 h
theorem sort_unique {a b : List Nm} (h : a.Perm b) : (a.mergeSort fun x y => decide (x ≤ y)) = b.mergeSort fun x y => decide (x ≤ y) := by
  have tr : ∀ (x y z : Nm), decide (x ≤ y) = true → decide (y ≤ z) = true → decide (x ≤ z) = true := fun x y z h1 h2 => by
    simp only [decide_eq_true_eq] at *; exact List.le_trans h1 h2
  have to : ∀ (x y : Nm), (decide (x ≤ y) || decide (y ≤ x)) = true := fun x y => by
    simp only [Bool.or_eq_true, decide_eq_true_eq]; exact List.le_total x y
  refine List.Perm.eq_of_pairwise (le := fun x y => decide (x ≤ y) = true) (fun x y _ _ h1 h2 => ?_) (List.pairwise_mergeSort tr to a) (List.pairwise_mergeSort tr to b) ((List.mergeSort_perm a _).trans (h.trans (List.mergeSort_perm b _).symm))
  simp only [decide_eq_true_eq] at h1 h2
  exact List.le_antisymm h1 h2
theorem Alike.names {d e : D Nm} (h : Alike d e) (hd : Inv (hsh T) d) (he : Inv (hsh T) e) : ((nms d.cont).mergeSort fun x y => decide (x ≤ y)) = (nms e.cont).mergeSort fun x y => decide (x ≤ y) :=
  sort_unique ((h.perm hd he).map _)
theorem Alike.many {d e : D Nm} (h : Alike d e) (hd : Inv (hsh T) d) (he : Inv (hsh T) e) : d.many = e.many := by
  rw [hd.many, he.many, (h.perm hd he).length_eq]
theorem Alike.get {d e : D Nm} (h : Alike d e) (hd : Inv (hsh T) d) (he : Inv (hsh T) e) (n : Nm) : Dm.get (hsh T) d n = Dm.get (hsh T) e n := by
  cases hg : Dm.get (hsh T) d n with
  | some v => exact ((get_mem _ he n v).2 ((h _).1 ((get_mem _ hd n v).1 hg))).symm
  | none =>
    cases hg2 : Dm.get (hsh T) e n with
    | none => rfl
    | some v => rw [(get_mem _ hd n v).2 ((h _).2 ((get_mem _ he n v).1 hg2))] at hg; simp at hg
theorem get_some_of_name {d : D Nm} (hd : Inv (hsh T) d) {n : Nm} (h : n ∈ nms d.cont) : ∃ v, Dm.get (hsh T) d n = some v := by
  obtain ⟨x, hx, rfl⟩ := List.mem_map.1 h
  exact ⟨x.2, (get_mem _ hd x.1 x.2).2 hx⟩
end
/-- A dict of the call's own. -/
def Own (w wr : World) (L : Lo) (d : D Nm) : Prop := DictAt KS wr L d ∧ (∀ b, foot L d b → w.heap.size ≤ b) ∧ Below w.heap.size w wr
theorem Own.after {w wr w' : World} {L : Lo} {d d' : D Nm} (h : Own w wr L d) (ha : After KS wr L d d' w') : ∃ L', L'.bp = L.bp ∧ Own w w' L' d' ∧ (∀ b, foot L' d' b → foot L d b ∨ wr.heap.size ≤ b) ∧ Fr (foot L d) wr w' := by
  obtain ⟨L', e, hd, hf, hft⟩ := ha
  refine ⟨L', e, ⟨hd, fun b hb => ?_, h.2.2.trans (hf.below h.2.1 h.2.2.size)⟩, hft, hf⟩
  rcases hft b hb with h1 | h1
  · exact h.2.1 b h1
  · exact Nat.le_trans h.2.2.size h1
theorem Own.below {w wr w' : World} {L : Lo} {d : D Nm} (h : Own w wr L d) (hb : Below wr.heap.size wr w') : Own w w' L d := ⟨h.1.below hb, h.2.1, h.2.2.trans (hb.mono h.2.2.size)⟩
theorem Own.zero {T : Nat → Int} {w wr : World} {L : Lo} {d : D Nm} (h : Own w wr L d) (hT : Tab T w) : ¬ foot L d 0 := fun hf => by have := h.2.1 0 hf; have := hT.lt; omega

/-- Two dicts of the call's own, apart. -/
structure St (w wr : World) (Ld : Lo) (d : D Nm) (Le : Lo) (e : D Nm) : Prop where
  own1 : Own w wr Ld d
  own2 : Own w wr Le e
  apart : ∀ b, foot Ld d b → ¬ foot Le e b
theorem St.symm {w wr : World} {Ld Le : Lo} {d e : D Nm} (h : St w wr Ld d Le e) : St w wr Le e Ld d := ⟨h.own2, h.own1, fun b h1 h2 => h.apart b h2 h1⟩
theorem St.below {w wr w' : World} {Ld Le : Lo} {d e : D Nm} (h : St w wr Ld d Le e) (hb : Below wr.heap.size wr w') : St w w' Ld d Le e := ⟨h.own1.below hb, h.own2.below hb, h.apart⟩
theorem St.left {w wr w' : World} {Ld Le : Lo} {d e d' : D Nm} (h : St w wr Ld d Le e) (ha : After KS wr Ld d d' w') : ∃ Ld', Ld'.bp = Ld.bp ∧ St w w' Ld' d' Le e := by
  obtain ⟨L', e1, hO, hft, hfr⟩ := h.own1.after ha
  refine ⟨L', e1, hO, ⟨h.own2.1.fr hfr (fun b hb hk => h.apart b hk hb), h.own2.2.1, hO.2.2⟩, fun b hb hk => ?_⟩
  rcases hft b hb with h1 | h1
  · exact h.apart b h1 hk
  · have := h.own2.1.lt hk; omega
theorem St.right {w wr w' : World} {Ld Le : Lo} {d e e' : D Nm} (h : St w wr Ld d Le e) (ha : After KS wr Le e e' w') : ∃ Le', Le'.bp = Le.bp ∧ St w w' Ld d Le' e' := by
  obtain ⟨L', e1, hS⟩ := h.symm.left ha
  exact ⟨L', e1, hS.symm⟩

/-- The names, in order. -/
def sn (d : D Nm) : List Nm := (nms d.cont).mergeSort fun x y => decide (x ≤ y)
theorem sn_len (d : D Nm) : (sn d).length = (nms d.cont).length := by unfold sn; simp
theorem names2_any (L : Lo) (d : D Nm) (T : Nat → Int) (w : World) (hd : DictAt KS w L d) (hfit : Fit T d) :
    Calls Tryd.prog 12 #[.pointer (some ⟨L.bp, 0, none⟩)] w fun e w' => ∃ v, e = .returned v ∧ StrAt w' v (sn d) ∧ Below w.heap.size w w' := by
  refine (names_any L d T w hd hfit).mono ?_
  rintro e w' ⟨v, rfl, ho, hb⟩
  refine ⟨v, rfl, StrAt.of_own (B := w.heap.size) ?_, hb⟩
  rw [sn_len]
  exact ho
theorem sn_mem {d : D Nm} {n : Nm} (h : n ∈ sn d) : n ∈ nms d.cont := (List.mergeSort_perm _ _).mem_iff.1 h
theorem sn_le {T : Nat → Int} {k : Nat} {d : D Nm} (h : Small T k d) (hk : k ≤ 1000) : (sn d).length ≤ 1000 := by
  rw [sn_len]; unfold nms; rw [List.length_map, ← h.inv.many]; have := h.many; omega

end Go.Proofs.YtflndbgaidhbaaaDoor.Str
