/-
  Slices.SortedFunc and Pairs, walked; Clone of the links. Conditions: those that each theorem states.
-/
import Derived.Test.YtjplobfacdcgcaaX7
namespace Go.Proofs.Ytjplobfacdcgcaa
open Go.RowKit Go.Maps Go.Sort Go.Shelf

/-- A row of pairs, at its block's head. -/
def PrsAt (lo : Nat) (w : World) (v : Value) (l : List Pr) : Prop := ∃ A c, v = .slice A l.length c ∧ ∀ (j : Nat) (p : Pr), l[j]? = some p → ∃ b, A = some ⟨b, 0, none⟩ ∧ lo ≤ b ∧
  w.cell? ⟨b, j * 2, none⟩ = some (.int .i64 p.1) ∧ w.cell? ⟨b, j * 2 + 1, none⟩ = some (.int .i64 p.2)
theorem PrsAt.below {lo : Nat} {w w' : World} {v : Value} {l : List Pr} (h : PrsAt lo w v l) (hb : Below w.heap.size w w') : PrsAt lo w' v l := by
  obtain ⟨A, c, rfl, h⟩ := h
  refine ⟨A, c, rfl, fun j p hj => ?_⟩
  obtain ⟨b, hA, hl, h1, h2⟩ := h j p hj
  exact ⟨b, hA, hl, (hb.cell (p := ⟨b, j * 2, none⟩) (World.block_lt_of_cell? _ _ h1)).trans h1, (hb.cell (p := ⟨b, j * 2 + 1, none⟩) (World.block_lt_of_cell? _ _ h2)).trans h2⟩

theorem pc_get (l : List Pr) (j c : Nat) (p : Pr) (u : Value) (hj : l[j]? = some p) (hc : (pc p)[c]? = some u) : (l.flatMap pc)[j * 2 + c]? = some u := by
  induction l generalizing j with
  | nil => simp at hj
  | cons q l ih =>
    rw [List.flatMap_cons]
    cases j with
    | zero =>
      obtain rfl : q = p := by simpa using hj
      rw [Nat.zero_mul, Nat.zero_add, List.getElem?_append_left (List.getElem?_eq_some_iff.1 hc).1]
      exact hc
    | succ j =>
      rw [List.getElem?_append_right (by simp [pc]; omega)]
      have e : (j + 1) * 2 + c - (pc q).length = j * 2 + c := by simp [pc]; omega
      rw [e]
      exact ih j (by simpa using hj)

theorem lt_cmp2 : ltOf cmp2 = lt2 := by
  funext p q; exact cmp2_lt p q
theorem swo : SWO lt2 := ⟨lt2_irrefl, fun _ _ _ h k => lt2_trans h k, fun x y z h k => by
  rw [← Bool.not_eq_true, lt2_iff] at *; omega⟩

theorem grownBy_sortK {w : World} {g n : Nat} {os : Array Obj} (d : Array Pr) : w.grownBy (sortWorldK pc 2 w g 0 n d os) (some g) := by
  refine ⟨rfl, rfl, rfl, size_sortWorldK_c pc 2 w g 0 n d os, fun k hk hne => ?_⟩
  unfold sortWorldK putRowK
  rw [heap_grow_old _ _ (by simpa using hk)]
  have : g ≠ k := fun e => hne (by rw [e])
  simp [putRow, mapBlock, Sort.ahead, Array.getElem?_modify, this]

theorem isAgg40 (w : World) : (isAgg 40).run Try.prog w = .ok true w := Try.isAgg40 w
theorem sizeOf40 (w : World) : (Go.sizeOf 40).run Try.prog w = .ok 2 w := Try.sizeOf40 w

theorem sort_any (g cap : Nat) (l : List Pr) (w : World) (hH : HoldsK pc 2 w g 0 l.toArray) (hg : g < w.heap.size) (hl : l.length ≤ 1000000) :
    Calls Try.prog 36 #[.slice (some ⟨g, 0, none⟩) l.length cap, .func (.func 30) #[] #[]] w fun e w' => e = .returned (.tuple #[]) ∧ w.grownBy w' (some g) ∧ HoldsK pc 2 w' g 0 (l.mergeSort fun x y => !lt2 y x).toArray := by
  have hcmp : CmpLays Try.prog 30 #[] pc 2 cmp2 g 0 l.toArray.size w := fun m os dk _ x y => (closure_any x y _).mono fun e w' ⟨he, n, hw⟩ => ⟨he, n, #[.cells #[.int .i64 x.1, .int .i64 x.2] 40, .cells #[.int .i64 y.1, .int .i64 y.2] 40], by
    rw [hw, alloc_eq_grow, alloc_eq_grow, grow_grow]; rfl⟩
  have hS := AnyQ.slices_SortFunc_total Try.sortP 2 isAgg40 sizeOf40 pc (fun _ => rfl) (fun x v hv => by simp [pc] at hv; rcases hv with rfl | rfl <;> rfl) cmp2 (by rw [lt_cmp2]; exact swo) 30 #[] g 0 cap l.toArray w
    (enters_of Try.func30 (by kernel_rfl) rfl) hcmp hH hg (by simp; omega) (fun x y h1 h2 => by
      rw [lt_cmp2] at h1 h2
      refine Classical.byContradiction fun hne => ?_
      rcases lt2_total hne with h | h
      · rw [h] at h1; cases h1
      · rw [h] at h2; cases h2)
  rw [lt_cmp2] at hS
  refine hS.mono ?_
  rintro e w' ⟨rfl, n, os, rfl⟩
  exact ⟨rfl, grownBy_sortK _, holdsK_sortWorldK_c pc 2 w g 0 _ _ n os hH hg (by simp)⟩

set_option maxHeartbeats 1600000 in
theorem sorted_any (g0 : Nat) (lb : Array Value) (eg : ∀ args w, (callFunc g0 args).run Try.prog w = .ok (.enter g0 args) w) (S : List Pr → Prop) (N : Nat) (hN : N ≤ 1000000) (w : World) (hseq : SeqGives Fence.wide 1 Try.prog g0 lb keyV S N w) :
    Calls Try.prog 28 #[.func (.func g0) #[] lb, .func (.func 30) #[] #[]] w fun e w' => ∃ v ss, e = .returned v ∧ S ss ∧ PrsAt w.heap.size w' v (ss.mergeSort fun x y => !lt2 y x) ∧ Below w.heap.size w w' := by
  have HC := Lib.hid (collect_any g0 lb eg S N hN w hseq)
  clear hseq
  go_enter Try.func28, Try.ntmps28
  go_wp2_with fail
  refine HC.out.mono ?_
  rintro e w1 ⟨v, ss, rfl, ⟨hS, hlen⟩, hrow, hnil, hb⟩
  rcases own_cases hrow with ⟨rfl, h0⟩ | ⟨g, cap, cur, rfl, hg, hnc, hcm, hsz, hgc, hcur, hcells⟩
  · obtain rfl : ss = [] := List.eq_nil_of_length_eq_zero h0
    have HN := Lib.hid (fun W => AnyF.slices_SortFunc_none (P := Try.prog) (ρ := Try.sortP_ren) { Try.sortP with } none 0 (.func (.func 30) #[] #[]) W)
    change Hid (∀ W, Calls Try.prog 36 _ W _) at HN
    have HB := Lib.hid hb
    clear hrow hnil hb h0
    go_wp2_with fail
    refine (HN.out _).mono ?_
    rintro e w2 ⟨rfl, rfl⟩
    go_wp2_with fail
    go_ret
    exact ⟨_, [], rfl, hS, ⟨none, 0, by simp, fun j p hj => by simp at hj⟩, HB.out⟩
  · have hH : HoldsK pc 2 w1 g 0 ss.toArray := by
      intro t ht
      rw [size_flatK] at ht
      have ht2 : t / 2 < ss.length := by simp at ht; omega
      have hlt : t < ss.toArray.size * 2 := ht
      rw [get_flatK pc 2 _ t hlt]
      have e1 : ss[t / 2]? = some ss[t / 2] := List.getElem?_eq_getElem ht2
      have e3 : ss.toArray[t / 2]! = ss[t / 2] := by rw [getElem!_pos _ _ (by simpa using ht2)]; simp
      rw [e3]
      have hm2 : t % 2 < (pc ss[t / 2]).length := by show t % 2 < 2; omega
      obtain ⟨u, hu⟩ : ∃ u, (pc ss[t / 2])[t % 2]? = some u := ⟨_, List.getElem?_eq_getElem hm2⟩
      have e2 := pc_get ss (t / 2) (t % 2) _ u e1 hu
      rw [show t / 2 * 2 + t % 2 = t by omega] at e2
      refine ⟨?_, by simp [World.frozen?, hgc]⟩
      rw [Nat.zero_add, hcells t u e2]
      rw [List.getElem!_eq_getElem?_getD, hu]; rfl
    have HSort := Lib.hid (sort_any g cap ss w1 hH (lt_of_heap hgc) (by omega))
    have HB := Lib.hid hb
    clear hrow hnil hb hH hcells hcur hgc hsz
    go_wp2_with fail
    refine HSort.out.mono ?_
    rintro e w2 ⟨rfl, hgr, hH2⟩
    have hfin : PrsAt w.heap.size w2 (.slice (some ⟨g, 0, none⟩) ss.length cap) (ss.mergeSort fun x y => !lt2 y x) := by
      refine ⟨_, _, by rw [List.length_mergeSort], fun j p hj => ⟨g, rfl, hg, ?_⟩⟩
      have hjl := (List.getElem?_eq_some_iff.1 hj).1
      have hd : (ss.mergeSort fun x y => !lt2 y x).toArray[j]! = p := by
        rw [getElem!_pos _ j (by simpa using hjl)]
        simpa using (List.getElem?_eq_some_iff.1 hj).2
      have k0 := (hH2.cell (i := j) (c := 0) (by simpa using hjl) (by omega)).1
      have k1 := (hH2.cell (i := j) (c := 1) (by simpa using hjl) (by omega)).1
      rw [hd] at k0 k1
      rw [Nat.zero_add] at k0 k1
      exact ⟨k0, k1⟩
    have HF := Lib.hid (show _ ∧ _ from ⟨hfin, HB.out.grown hgr HB.out.size (fun k e => by cases e; exact hg)⟩)
    clear hfin hgr hH2
    go_wp2_with fail
    go_ret
    exact ⟨_, ss, rfl, hS, HF.out⟩

set_option maxHeartbeats 1600000 in
theorem pairs_any (S : Nat → Prop) (bp b n : Nat) (ws : List Wy) (w : World) (h : LkAt S w bp b n ws) (hn : n ≤ 1000000) :
    Calls Try.prog 16 #[.pointer (some ⟨bp, 0, none⟩)] w fun e w' => ∃ v, e = .returned v ∧ PrsAt w.heap.size w' v (pairsL ws) ∧ Below w.heap.size w w' := by
  obtain ⟨f, hm, hf⟩ := h.map
  have hc := h.cell
  obtain ⟨E, hown, hsz, hhas⟩ := has_iff hm
  have hok := h.ok
  have HC := Lib.hid (fun (w' : World) (hw : w' = w.alloc (.cells #[.map (some b)] 51)) => show Calls Try.prog 28 #[.func (.func 37) #[] #[.pointer (some ⟨w.heap.size, 0, none⟩)], .func (.func 30) #[] #[]] w' fun e w'' => ∃ v, e = .returned v ∧ PrsAt w.heap.size w'' v (pairsL ws) ∧ Below w.heap.size w w'' from by
    have hb0 : Below w.heap.size w w' := by rw [hw]; exact (Below.refl _ _).alloc (Nat.le_refl _) _
    have hown' : w'.ownsMap Try.prog 40 hdr b n (.map E) := by rw [hw]; exact hown.alloc _
    have hcell : w'.cell? ⟨w.heap.size, 0, none⟩ = some (.map (some b)) := by rw [hw]; exact cell_one_new w _ 51 0 _ rfl
    refine (sorted_any 37 #[.pointer (some ⟨w.heap.size, 0, none⟩)] (enters_of Try.func37 (by kernel_rfl) rfl) _ _ (Nat.le_trans hsz hn) w' (keys_gives Fence.wide 1 trivial rfl (by omega) w.heap.size b n _ w' (by rw [hw]; simp) hcell hown')).mono ?_
    rintro e w'' ⟨v, ss, rfl, hS, hP, hb⟩
    refine ⟨v, rfl, ?_, hb0.trans (hb.mono hb0.size)⟩
    have e1 : (ss.mergeSort fun x y => !lt2 y x) = pairsL ws := sorted_pairs hS.1 (fun p => by
      constructor
      · intro hp
        have h1 := (hhas p (hS.2.1 p hp)).1 ((hS.2.2 p (hS.2.1 p hp)).1 hp).1
        rcases hf p with ⟨h2, _⟩ | ⟨u, _, h3, _⟩
        · rw [h2] at h1; cases h1
        · exact h3
      · intro hq
        obtain ⟨y, hy, rfl⟩ := mem_queue.1 hq
        rcases hf y.p with ⟨_, h2⟩ | ⟨u, h2, _⟩
        · exact absurd h2 hq
        · exact (hS.2.2 _ (hok y hy)).2 ⟨(hhas _ (hok y hy)).2 (by rw [h2]; rfl), rfl⟩)
    rw [e1] at hP
    obtain ⟨A, c, rfl, hp⟩ := hP
    refine ⟨A, c, rfl, fun j p hj => ?_⟩
    obtain ⟨bb, hA, hl, h1, h2⟩ := hp j p hj
    exact ⟨bb, hA, Nat.le_trans hb0.size hl, h1, h2⟩)
  clear h hm hf hown hsz hhas hok
  go_enter Try.func16, Try.ntmps16
  go_wp2_with fail
  refine (keys_any b w).mono ?_
  rintro e w1 ⟨rfl, hw⟩
  have HC := Lib.hid (HC.out w1 hw)
  clear hw
  go_wp2_with fail
  refine HC.out.mono ?_
  rintro e w2 ⟨v, rfl, hP, hb⟩
  obtain ⟨A, c, rfl, hp⟩ := hP
  have HF := Lib.hid (show PrsAt w.heap.size w2 (.slice A (pairsL ws).length c) (pairsL ws) ∧ _ from ⟨⟨A, c, rfl, hp⟩, hb⟩)
  clear hp hb
  go_wp2_with fail
  go_ret
  exact ⟨_, rfl, HF.out⟩

set_option maxHeartbeats 1600000 in
theorem clone_any (S : Nat → Prop) (bp b n : Nat) (ws : List Wy) (w : World) (h : LkAt S w bp b n ws) (hS : ∀ k, w.heap.size ≤ k → S k) :
    Calls Try.prog 18 #[.pointer (some ⟨bp, 0, none⟩)] w fun e w' => ∃ bp' b', e = .returned (.pointer (some ⟨bp', 0, none⟩)) ∧ w.heap.size ≤ bp' ∧ w.heap.size ≤ b' ∧ LkAt S w' bp' b' n ws ∧ Below w.heap.size w w' := by
  obtain ⟨f, ⟨es, clock, hes, hrest⟩, hf⟩ := h.map
  have hc := h.cell
  have HC := Lib.hid (AnyW.maps_Clone Try.cloneM b es clock w hes)
  change Hid (Calls Try.prog 32 _ w _) at HC
  have hfin : ∀ w', w' = (w.alloc (.map es clock)).alloc (.cells #[.map (some w.heap.size)] 53) → LkAt S w' (w.heap.size + 1) w.heap.size n ws ∧ Below w.heap.size w w' := by
    rintro w' rfl
    have hb : Below w.heap.size w ((w.alloc (.map es clock)).alloc (.cells #[.map (some w.heap.size)] 53)) := ((Below.refl _ w).alloc (Nat.le_refl _) _).alloc (by simp) _
    refine ⟨⟨?_, hS _ (by omega), h.ok, f, ⟨es, clock, (Below.heap_alloc _ _ _ (by simp)).trans (World.alloc_heap_new w _), hrest⟩, fun p => ?_⟩, hb⟩
    · have := World.alloc_heap_new (w.alloc (.map es clock)) (.cells #[.map (some w.heap.size)] 53)
      rwa [World.size_alloc] at this
    · rcases hf p with h2 | ⟨v, h2, h3, h4⟩
      · exact .inl h2
      · exact .inr ⟨v, h2, h3, h4.keep (.of_below hb S)⟩
  have HF := Lib.hid hfin
  clear h hf hes hrest hfin hS
  go_enter Try.func18, Try.ntmps18
  go_wp2_with fail
  refine HC.out.mono ?_
  rintro e w1 ⟨rfl, rfl⟩
  go_wp2_with fail
  go_ret
  exact ⟨w.heap.size + 1, w.heap.size, by simp, by omega, by omega, HF.out _ rfl⟩
end Go.Proofs.Ytjplobfacdcgcaa
