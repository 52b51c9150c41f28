/-
  Does, walked at an empty reference: a call of a script on a dict. Conditions: those that each theorem states.
-/
import Derived.Test.YtflndbgaidhbaaaDoorR4
namespace Go.Proofs.YtflndbgaidhbaaaDoor
open Go.RowKit Dm Go.Proofs.YtflndbgaidhbaaaDoorW.PrintLast

/-- A call of a script, on the dict. -/
def opD (T : Nat → Int) (d : D Int) (kind v : Int) (n : Nm) : D Int :=
  if kind = 0 then Dm.put (hsh T) d n v else if kind = 1 then Dm.del (hsh T) d n else if kind = 3 then Dm.step (hsh T) d else d

theorem After.own {α : Type} {K : Ty α} {w wc w1 wf : World} {L : Lo} {d d1 : D α} (hb : Below w.heap.size w wc) (hd : DictAt K w L d) (h : After K wc L d d1 w1) (hf : Fr (fun k => w.heap.size ≤ k ∧ k < wc.heap.size) w1 wf) : After K w L d d1 wf := by
  obtain ⟨L1, e, hD1, hFr1, hft1⟩ := h
  refine ⟨L1, e, hD1.fr hf (fun b hfb hk => ?_), ?_, fun b hfb => ?_⟩
  · rcases hft1 b hfb with h1 | h1
    · have := hd.lt h1; omega
    · omega
  · exact ((Fr.of_below hb _).trans hFr1 (fun i hi => .inl hi)).trans hf (fun i hi => .inr hi.1)
  · rcases hft1 b hfb with h1 | h1
    · exact .inl h1
    · exact .inr (Nat.le_trans hb.size h1)
theorem After.blk {α : Type} {K : Ty α} {wc w1 : World} {L : Lo} {d d1 : D α} (h : After K wc L d d1 w1) {b : Nat} (hb : b < wc.heap.size) (hn : ¬ foot L d b) : w1.heap[b]? = wc.heap[b]? := by
  obtain ⟨L1, e, hD1, hFr1, hft1⟩ := h
  exact hFr1.block b hb hn
theorem After.size {α : Type} {K : Ty α} {wc w1 : World} {L : Lo} {d d1 : D α} (h : After K wc L d d1 w1) : wc.heap.size ≤ w1.heap.size := by
  obtain ⟨L1, e, hD1, hFr1, hft1⟩ := h
  exact hFr1.size

/-- What the reference answers at an empty dict: some dict and some truth. -/
def SomeR (w : World) (e : Ending) (w' : World) : Prop := ∃ (A : Option Addr) (n c : Nat) (x y : Int) (b : Bool), e = .returned (.tuple #[.agg #[.slice A n c, .int .i64 x, .int .i64 y], .bool b]) ∧ Below w.heap.size w w'
theorem rputN_any (s : ByteArray) (v : Int) (w : World) : Calls Tryd.prog 32 #[.agg #[.slice none 0 0, .int .i64 4, .int .i64 0], .string s, .int .i64 v] w (SomeR w) := by
  refine (rput_any (.slice none 0 0) [] 4 0 s v w (room_nil w) (by simp) (by omega) (by omega)).mono ?_
  rintro e w' ⟨v', rfl, hr, _, hb⟩
  obtain ⟨A, c, rfl, _⟩ := hr.shape
  exact ⟨_, _, _, _, _, _, rfl, hb⟩
theorem rdelN_any (s : ByteArray) (w : World) : Calls Tryd.prog 33 #[.agg #[.slice none 0 0, .int .i64 4, .int .i64 0], .string s] w (SomeR w) := by
  refine (rdel_any (.slice none 0 0) [] 4 0 s w (room_nil w) (by simp) (by omega) (by omega)).mono ?_
  rintro e w' ⟨v', rfl, hr, _, hb⟩
  obtain ⟨A, c, rfl, _⟩ := hr.shape
  exact ⟨_, _, _, _, _, _, rfl, hb⟩
theorem rgetN_any (s : ByteArray) (w : World) : Calls Tryd.prog 35 #[.agg #[.slice none 0 0, .int .i64 4, .int .i64 0], .string s] w fun e w' => e = .returned (.tuple #[.int .i64 0, .bool false]) ∧ Below w.heap.size w w' := by
  exact rget_any (.slice none 0 0) [] 4 0 s w (room_nil w) (by simp)
theorem rstepN_any (w : World) : Calls Tryd.prog 36 #[.agg #[.slice none 0 0, .int .i64 4, .int .i64 0]] w (SomeR w) := by
  refine (rstep_any none 0 0 4 0 w (by omega)).mono ?_
  rintro e w' ⟨rfl, hb⟩
  exact ⟨_, _, _, _, _, _, rfl, hb⟩

theorem heap_alloc3 (w : World) (A B C : Obj) : (((w.alloc A).alloc B).alloc C).heap[w.heap.size + 1 + 1]? = some C := by
  have h := heap_alloc_new ((w.alloc A).alloc B) C
  rwa [show ((w.alloc A).alloc B).heap.size = w.heap.size + 1 + 1 by simp] at h

set_option maxHeartbeats 6400000 in
set_option maxRecDepth 100000 in
theorem does_any (kind v : Int) (s : ByteArray) (L : Lo) (d : D Int) (T : Nat → Int) (w : World) (hd : DictAt KI w L d) (hT : Tab T w) (hfit : Fit T d) (h0 : ¬ foot L d 0) (hmax : s.size ≤ 140737488351232) :
    Calls Tryd.prog 17 #[.pointer (some ⟨L.bp, 0, none⟩), refV (.slice none 0 0) 4 0, .agg #[.int .i64 kind, .int .i64 v, .string s]] w fun e w' => (∃ r b, e = .returned (.tuple #[r, .bool b])) ∧ After KI w L d (opD T d kind v s.data.toList) w' := by
  unfold refV
  have HD := Lib.hid hd
  have HT := Lib.hid hT
  have HFit := Lib.hid hfit
  have H0 := Lib.hid h0
  have hnf : ∀ b, w.heap.size ≤ b → ¬ foot L d b := fun b hb hf => by have := hd.lt hf; omega
  have HNf := Lib.hid hnf
  clear hd hT hfit h0 hnf
  go_enter Tryd.func17, Tryd.ntmps17
  by_cases h_0 : kind = 0
  · subst h_0
    go_wp2_with fail
    refine (rputN_any s v _).mono ?_
    rintro e w1 ⟨A, n, c, x, y, bb, rfl, hb1⟩
    have hx5 := (hb1.block (w.heap.size + 1) (by simp <;> omega)).trans ((heap_alloc_old _ _ (by simp)).trans (heap_alloc2_new w (.cells #[.slice none 0 0, .int .i64 4, .int .i64 0] 38) (.cells #[.int .i64 0, .int .i64 v, .string s] 45)))
    have hx6 := (hb1.block (w.heap.size + 1 + 1) (by simp)).trans (heap_alloc3 w (.cells #[.slice none 0 0, .int .i64 4, .int .i64 0] 38) (.cells #[.int .i64 0, .int .i64 v, .string s] 45) (.cells #[.slice none 0 0, .int .i64 0, .int .i64 0] 38))
    have hbw : Below w.heap.size w w1 := ((((Below.refl _ w).alloc (Nat.le_refl _) _).alloc (by simp) _).alloc (by simp <;> omega) _).trans (hb1.mono (by simp <;> omega))
    have hlt5 := lt_of_heap hx5
    have hlt6 := lt_of_heap hx6
    clear hb1
    go_wp2_with fail
    obtain ⟨W2, hW2⟩ : ∃ W2, W2 = (w1.alloc (.cells #[.slice A n c, .int .i64 x, .int .i64 y] 38)).drew := ⟨_, rfl⟩
    have hb12 : Below w1.heap.size w1 W2 := by rw [hW2]; exact ((Below.refl _ w1).alloc (Nat.le_refl _) _).drew
    have hx8 : W2.heap[w1.heap.size]? = some (.cells #[.slice A n c, .int .i64 x, .int .i64 y] 38 (0, 0)) := by rw [hW2]; exact heap_alloc_new w1 _
    have hx52 := (hb12.block _ hlt5).trans hx5
    have hx62 := (hb12.block _ hlt6).trans hx6
    have hlt8 := lt_of_heap hx8
    have HB2 := Lib.hid (hbw.trans (hb12.mono hbw.size))
    have HS := Lib.hid (fun (w' : World) (e8 : w'.heap[w1.heap.size]? = W2.heap[w1.heap.size]?) (e5 : w'.heap[w.heap.size + 1]? = W2.heap[w.heap.size + 1]?) => show w'.cell? ⟨w1.heap.size, 0, none⟩ = some (.slice A n c) ∧ w'.cell? ⟨w1.heap.size, 1, none⟩ = some (.int .i64 x) ∧ w'.cell? ⟨w1.heap.size, 2, none⟩ = some (.int .i64 y) ∧ w'.cell? ⟨w.heap.size + 1, 1, none⟩ = some (.int .i64 v) ∧ w'.cell? ⟨w.heap.size + 1, 2, none⟩ = some (.string s) from
      ⟨by rw [cell_of_row w' _ 0 _ _ (0, 0) (e8.trans hx8)]; rfl, by rw [cell_of_row w' _ 1 _ _ (0, 0) (e8.trans hx8)]; rfl, by rw [cell_of_row w' _ 2 _ _ (0, 0) (e8.trans hx8)]; rfl, by rw [cell_of_row w' _ 1 _ _ (0, 0) (e5.trans hx52)]; rfl, by rw [cell_of_row w' _ 2 _ _ (0, 0) (e5.trans hx52)]; rfl⟩)
    have HS0 := Lib.hid (HS.out W2 rfl rfl)
    have hsw := hbw.size
    have HS3 := Lib.hid (fun (w' : World) (hA : After KI W2 L d (Dm.put (hsh T) d s.data.toList v) w') => HS.out w' (hA.blk hlt8 (HNf.out _ (by omega))) (hA.blk (by omega) (HNf.out _ (by omega))))
    have HX63 := Lib.hid (fun (w' : World) (hA : After KI W2 L d (Dm.put (hsh T) d s.data.toList v) w') => (hA.blk (b := w.heap.size + 1 + 1) (by omega) (HNf.out _ (by omega))).trans hx62)
    have HFin := Lib.hid (fun (w' wf : World) (hA : After KI W2 L d (Dm.put (hsh T) d s.data.toList v) w') (hf : Fr (fun k => k = w.heap.size + 1 + 1) w' wf) => After.own HB2.out HD.out hA (hf.mono (fun i e => by subst e; constructor <;> omega)))
    have HPut := Lib.hid (fun (w' : World) (hb : Below w.heap.size w w') => put_any s v L d T w' (HD.out.below hb) (tab_below HT.out hb) HFit.out H0.out hmax)
    have HW2 := Lib.hid hW2
    clear hW2 hx5 hx6 hx8 hx52 hx62 hb12 hbw
    refine start_ (n := 11) (S := fun w' => w'.cell? ⟨w1.heap.size, 0, none⟩ = some (.slice A n c) ∧ w'.cell? ⟨w1.heap.size, 1, none⟩ = some (.int .i64 x) ∧ w'.cell? ⟨w1.heap.size, 2, none⟩ = some (.int .i64 y) ∧ w'.cell? ⟨w.heap.size + 1, 1, none⟩ = some (.int .i64 v) ∧ w'.cell? ⟨w.heap.size + 1, 2, none⟩ = some (.string s)) (ds := [9]) #[false, false, false, false, false, false, false, false, false, false, false] (by kernel_rfl) rfl rfl (by rw [← HW2.out]; exact HS0.out) (fun hHeld => ?_)
    rw [← HW2.out] at hHeld ⊢
    refine take_ (i := 0) (N := some 31) (v := ?_) (a' := ?_) #[true, false, false, false, false, false, false, false, false, false, false] rfl rfl (by kernel_rfl) (fun _ _ _ h => h) (Or.inl ⟨by rfl, ?_⟩) hHeld ?_ ?_
    rotate_left
    · rintro w' ⟨s0, s1, s2, s3, s4⟩
      go_simp
      with_reducible rfl
    rotate_left
    · simp only [Act.put, List.setIfInBounds_toArray, List.set_cons_zero, List.set_cons_succ, i64_w, i32_w]
      rfl
    refine pure_ (i := 1) (N := some 32) (v := ?_) (a' := ?_) #[true, true, false, false, false, false, false, false, false, false, false] rfl rfl (by kernel_rfl) (fun _ _ _ h => h) (Or.inl ⟨by rfl, ?_⟩) ?_ ?_
    rotate_left
    · intro w'
      go_simp
      with_reducible rfl
    rotate_left
    · simp only [Act.put, List.setIfInBounds_toArray, List.set_cons_zero, List.set_cons_succ, i64_w, i32_w]
      rfl
    refine pure_ (i := 2) (N := some 33) (v := ?_) (a' := ?_) #[true, true, true, false, false, false, false, false, false, false, false] rfl rfl (by kernel_rfl) (fun _ _ _ h => h) (Or.inl ⟨by rfl, ?_⟩) ?_ ?_
    rotate_left
    · intro w'
      go_simp
      with_reducible rfl
    rotate_left
    · simp only [Act.put, List.setIfInBounds_toArray, List.set_cons_zero, List.set_cons_succ, i64_w, i32_w]
      rfl
    refine take_ (i := 3) (N := some 34) (v := ?_) (a' := ?_) #[true, true, true, true, false, false, false, false, false, false, false] rfl rfl (by kernel_rfl) (fun _ _ _ h => h) (Or.inl ⟨by rfl, ?_⟩) hHeld ?_ ?_
    rotate_left
    · rintro w' ⟨s0, s1, s2, s3, s4⟩
      go_simp
      with_reducible rfl
    rotate_left
    · simp only [Act.put, List.setIfInBounds_toArray, List.set_cons_zero, List.set_cons_succ, i64_w, i32_w]
      rfl
    refine pure_ (i := 4) (N := some 35) (v := ?_) (a' := ?_) #[true, true, true, true, true, false, false, false, false, false, false] rfl rfl (by kernel_rfl) (fun _ _ _ h => h) (Or.inl ⟨by rfl, ?_⟩) ?_ ?_
    rotate_left
    · intro w'
      go_simp
      with_reducible rfl
    rotate_left
    · simp only [Act.put, List.setIfInBounds_toArray, List.set_cons_zero, List.set_cons_succ, i64_w, i32_w]
      rfl
    refine take_ (i := 5) (N := some 36) (v := ?_) (a' := ?_) #[true, true, true, true, true, true, false, false, false, false, false] rfl rfl (by kernel_rfl) (fun _ _ _ h => h) (Or.inl ⟨by rfl, ?_⟩) hHeld ?_ ?_
    rotate_left
    · rintro w' ⟨s0, s1, s2, s3, s4⟩
      go_simp
      with_reducible rfl
    rotate_left
    · simp only [Act.put, List.setIfInBounds_toArray, List.set_cons_zero, List.set_cons_succ, i64_w, i32_w]
      rfl
    refine pure_ (i := 7) (N := some 38) (v := ?_) (a' := ?_) #[true, true, true, true, true, true, false, true, false, false, false] rfl rfl (by kernel_rfl) (fun _ _ _ h => h) (Or.inl ⟨by rfl, ?_⟩) ?_ ?_
    rotate_left
    · intro w'
      go_simp
      with_reducible rfl
    rotate_left
    · simp only [Act.put, List.setIfInBounds_toArray, List.set_cons_zero, List.set_cons_succ, i64_w, i32_w]
      rfl
    refine one_ (i := 6) (N := some 37) #[true, true, true, true, true, true, true, true, false, false, false] rfl rfl (by kernel_rfl) (by decide) (fun K hK => ?_)
    refine goes_ Tryd.func24 (by kernel_rfl) rfl #[.pointer (some ⟨L.bp, 0, none⟩), .string s, .int .i64 v] (by rfl) rfl rfl (by (try simp only [List.map_toArray, List.map_cons, List.map_nil]); first | done | rfl) ?_
    refine (HPut.out _ HB2.out).mono ?_
    rintro e w3 ⟨rfl, hA⟩
    have HA := Lib.hid hA
    clear hA
    refine ⟨_, rfl, ?_⟩
    refine hK.out _ _ (HS3.out w3 HA.out) (fun hHeld => ?_)
    clear hK K
    refine norm_ (a' := ?_) ?_ ?_
    rotate_left
    · simp only [Act.put, List.setIfInBounds_toArray, List.set_cons_zero, List.set_cons_succ, i64_w, i32_w]
      rfl
    refine pure_ (i := 8) (N := some 39) (v := ?_) (a' := ?_) #[true, true, true, true, true, true, true, true, true, false, false] rfl rfl (by kernel_rfl) (fun _ _ _ h => h) (Or.inl ⟨by rfl, ?_⟩) ?_ ?_
    rotate_left
    · intro w'
      go_simp
      with_reducible rfl
    rotate_left
    · simp only [Act.put, List.setIfInBounds_toArray, List.set_cons_zero, List.set_cons_succ, i64_w, i32_w]
      rfl
    refine last_ (i := 9) (N := none) #[true, true, true, true, true, true, true, true, true, true, false] rfl rfl (by kernel_rfl) (by decide) (fun K hK => ?_)
    have hx63 := HX63.out w3 HA.out
    have d0 : w3.cell? ⟨w.heap.size + 1 + 1, 0, none⟩ = some (.slice none 0 0) := by rw [cell_of_row w3 _ 0 _ _ (0, 0) hx63]; rfl
    have d1 : w3.cell? ⟨w.heap.size + 1 + 1, 1, none⟩ = some (.int .i64 0) := by rw [cell_of_row w3 _ 1 _ _ (0, 0) hx63]; rfl
    have d2 : w3.cell? ⟨w.heap.size + 1 + 1, 2, none⟩ = some (.int .i64 0) := by rw [cell_of_row w3 _ 2 _ _ (0, 0) hx63]; rfl
    have f6 : ∀ i, w3.frozen? ⟨w.heap.size + 1 + 1, i, none⟩ = false := fun i => by simp [World.frozen?, hx63]
    refine skip_ (w1 := ((w3.setCell ⟨w.heap.size + 1 + 1, 0, none⟩ (.slice A n c)).setCell ⟨w.heap.size + 1 + 1, 1, none⟩ (.int .i64 x)).setCell ⟨w.heap.size + 1 + 1, 2, none⟩ (.int .i64 y)) (by rfl) rfl (by go_simp) ?_
    refine hK.out _ _ ?_
    clear hK K
    refine pure_ (i := 10) (N := some 7) (v := ?_) (a' := ?_) #[true, true, true, true, true, true, true, true, true, true, true] rfl rfl (by kernel_rfl) (fun _ _ _ h => h) (Or.inl ⟨by rfl, ?_⟩) ?_ ?_
    rotate_left
    · intro w'
      go_simp
      with_reducible rfl
    rotate_left
    · simp only [Act.put, List.setIfInBounds_toArray, List.set_cons_zero, List.set_cons_succ, i64_w, i32_w]
      rfl
    refine done_ (by kernel_rfl) ?_
    go_wp2_with fail
    have hxF : (((w3.setCell ⟨w.heap.size + 1 + 1, 0, none⟩ (.slice A n c)).setCell ⟨w.heap.size + 1 + 1, 1, none⟩ (.int .i64 x)).setCell ⟨w.heap.size + 1 + 1, 2, none⟩ (.int .i64 y)).heap[w.heap.size + 1 + 1]? = some (.cells #[.slice A n c, .int .i64 x, .int .i64 y] 38 (0, 0)) := setCell_blk (setCell_blk (setCell_blk (w := w3) (cs := #[.slice none 0 0, .int .i64 0, .int .i64 0]) hx63 _) _) _
    refine bodyPost_ret (results_row_tmp rfl _ _ (w.heap.size + 1 + 1) 38 #[.slice A n c, .int .i64 x, .int .i64 y] (0, 0) _ rfl hxF Tryd.underlying38 rfl (by kernel_rfl)) rfl ?_
    refine ⟨⟨_, _, rfl⟩, ?_⟩
    have hf := HFin.out w3 _ HA.out ((((Fr.refl (fun k => k = w.heap.size + 1 + 1) w3).setCell (p := ⟨w.heap.size + 1 + 1, 0, none⟩) (.inl rfl) (.slice A n c)).setCell (p := ⟨w.heap.size + 1 + 1, 1, none⟩) (.inl rfl) (.int .i64 x)).setCell (p := ⟨w.heap.size + 1 + 1, 2, none⟩) (.inl rfl) (.int .i64 y))
    exact hf
  by_cases h_1 : kind = 1
  · subst h_1
    clear h_0
    go_wp2_with fail
    refine (rdelN_any s _).mono ?_
    rintro e w1 ⟨A, n, c, x, y, bb, rfl, hb1⟩
    have hx5 := (hb1.block (w.heap.size + 1) (by simp <;> omega)).trans ((heap_alloc_old _ _ (by simp)).trans (heap_alloc2_new w (.cells #[.slice none 0 0, .int .i64 4, .int .i64 0] 38) (.cells #[.int .i64 1, .int .i64 v, .string s] 45)))
    have hx6 := (hb1.block (w.heap.size + 1 + 1) (by simp)).trans (heap_alloc3 w (.cells #[.slice none 0 0, .int .i64 4, .int .i64 0] 38) (.cells #[.int .i64 1, .int .i64 v, .string s] 45) (.cells #[.slice none 0 0, .int .i64 0, .int .i64 0] 38))
    have hbw : Below w.heap.size w w1 := ((((Below.refl _ w).alloc (Nat.le_refl _) _).alloc (by simp) _).alloc (by simp <;> omega) _).trans (hb1.mono (by simp <;> omega))
    have hlt5 := lt_of_heap hx5
    have hlt6 := lt_of_heap hx6
    clear hb1
    go_wp2_with fail
    obtain ⟨W2, hW2⟩ : ∃ W2, W2 = (w1.alloc (.cells #[.slice A n c, .int .i64 x, .int .i64 y] 38)).drew := ⟨_, rfl⟩
    have hb12 : Below w1.heap.size w1 W2 := by rw [hW2]; exact ((Below.refl _ w1).alloc (Nat.le_refl _) _).drew
    have hx8 : W2.heap[w1.heap.size]? = some (.cells #[.slice A n c, .int .i64 x, .int .i64 y] 38 (0, 0)) := by rw [hW2]; exact heap_alloc_new w1 _
    have hx52 := (hb12.block _ hlt5).trans hx5
    have hx62 := (hb12.block _ hlt6).trans hx6
    have hlt8 := lt_of_heap hx8
    have HB2 := Lib.hid (hbw.trans (hb12.mono hbw.size))
    have HS := Lib.hid (fun (w' : World) (e8 : w'.heap[w1.heap.size]? = W2.heap[w1.heap.size]?) (e5 : w'.heap[w.heap.size + 1]? = W2.heap[w.heap.size + 1]?) => show w'.cell? ⟨w1.heap.size, 0, none⟩ = some (.slice A n c) ∧ w'.cell? ⟨w1.heap.size, 1, none⟩ = some (.int .i64 x) ∧ w'.cell? ⟨w1.heap.size, 2, none⟩ = some (.int .i64 y) ∧ w'.cell? ⟨w.heap.size + 1, 1, none⟩ = some (.int .i64 v) ∧ w'.cell? ⟨w.heap.size + 1, 2, none⟩ = some (.string s) from
      ⟨by rw [cell_of_row w' _ 0 _ _ (0, 0) (e8.trans hx8)]; rfl, by rw [cell_of_row w' _ 1 _ _ (0, 0) (e8.trans hx8)]; rfl, by rw [cell_of_row w' _ 2 _ _ (0, 0) (e8.trans hx8)]; rfl, by rw [cell_of_row w' _ 1 _ _ (0, 0) (e5.trans hx52)]; rfl, by rw [cell_of_row w' _ 2 _ _ (0, 0) (e5.trans hx52)]; rfl⟩)
    have HS0 := Lib.hid (HS.out W2 rfl rfl)
    have hsw := hbw.size
    have HS3 := Lib.hid (fun (w' : World) (hA : After KI W2 L d (Dm.del (hsh T) d s.data.toList) w') => HS.out w' (hA.blk hlt8 (HNf.out _ (by omega))) (hA.blk (by omega) (HNf.out _ (by omega))))
    have HX63 := Lib.hid (fun (w' : World) (hA : After KI W2 L d (Dm.del (hsh T) d s.data.toList) w') => (hA.blk (b := w.heap.size + 1 + 1) (by omega) (HNf.out _ (by omega))).trans hx62)
    have HFin := Lib.hid (fun (w' wf : World) (hA : After KI W2 L d (Dm.del (hsh T) d s.data.toList) w') (hf : Fr (fun k => k = w.heap.size + 1 + 1) w' wf) => After.own HB2.out HD.out hA (hf.mono (fun i e => by subst e; constructor <;> omega)))
    have HPut := Lib.hid (fun (w' : World) (hb : Below w.heap.size w w') => delete_any s L d T w' (HD.out.below hb) (tab_below HT.out hb) HFit.out H0.out hmax)
    have HW2 := Lib.hid hW2
    clear hW2 hx5 hx6 hx8 hx52 hx62 hb12 hbw
    refine start_ (n := 9) (S := fun w' => w'.cell? ⟨w1.heap.size, 0, none⟩ = some (.slice A n c) ∧ w'.cell? ⟨w1.heap.size, 1, none⟩ = some (.int .i64 x) ∧ w'.cell? ⟨w1.heap.size, 2, none⟩ = some (.int .i64 y) ∧ w'.cell? ⟨w.heap.size + 1, 1, none⟩ = some (.int .i64 v) ∧ w'.cell? ⟨w.heap.size + 1, 2, none⟩ = some (.string s)) (ds := [7]) #[false, false, false, false, false, false, false, false, false] (by kernel_rfl) rfl rfl (by rw [← HW2.out]; exact HS0.out) (fun hHeld => ?_)
    rw [← HW2.out] at hHeld ⊢
    refine take_ (i := 0) (N := some 49) (v := ?_) (a' := ?_) #[true, false, false, false, false, false, false, false, false] rfl rfl (by kernel_rfl) (fun _ _ _ h => h) (Or.inl ⟨by rfl, ?_⟩) hHeld ?_ ?_
    rotate_left
    · rintro w' ⟨s0, s1, s2, s3, s4⟩
      go_simp
      with_reducible rfl
    rotate_left
    · simp only [Act.put, List.setIfInBounds_toArray, List.set_cons_zero, List.set_cons_succ, i64_w, i32_w]
      rfl
    refine pure_ (i := 1) (N := some 50) (v := ?_) (a' := ?_) #[true, true, false, false, false, false, false, false, false] rfl rfl (by kernel_rfl) (fun _ _ _ h => h) (Or.inl ⟨by rfl, ?_⟩) ?_ ?_
    rotate_left
    · intro w'
      go_simp
      with_reducible rfl
    rotate_left
    · simp only [Act.put, List.setIfInBounds_toArray, List.set_cons_zero, List.set_cons_succ, i64_w, i32_w]
      rfl
    refine pure_ (i := 2) (N := some 51) (v := ?_) (a' := ?_) #[true, true, true, false, false, false, false, false, false] rfl rfl (by kernel_rfl) (fun _ _ _ h => h) (Or.inl ⟨by rfl, ?_⟩) ?_ ?_
    rotate_left
    · intro w'
      go_simp
      with_reducible rfl
    rotate_left
    · simp only [Act.put, List.setIfInBounds_toArray, List.set_cons_zero, List.set_cons_succ, i64_w, i32_w]
      rfl
    refine take_ (i := 3) (N := some 52) (v := ?_) (a' := ?_) #[true, true, true, true, false, false, false, false, false] rfl rfl (by kernel_rfl) (fun _ _ _ h => h) (Or.inl ⟨by rfl, ?_⟩) hHeld ?_ ?_
    rotate_left
    · rintro w' ⟨s0, s1, s2, s3, s4⟩
      go_simp
      with_reducible rfl
    rotate_left
    · simp only [Act.put, List.setIfInBounds_toArray, List.set_cons_zero, List.set_cons_succ, i64_w, i32_w]
      rfl
    refine pure_ (i := 5) (N := some 54) (v := ?_) (a' := ?_) #[true, true, true, true, false, true, false, false, false] rfl rfl (by kernel_rfl) (fun _ _ _ h => h) (Or.inl ⟨by rfl, ?_⟩) ?_ ?_
    rotate_left
    · intro w'
      go_simp
      with_reducible rfl
    rotate_left
    · simp only [Act.put, List.setIfInBounds_toArray, List.set_cons_zero, List.set_cons_succ, i64_w, i32_w]
      rfl
    refine one_ (i := 4) (N := some 53) #[true, true, true, true, true, true, false, false, false] rfl rfl (by kernel_rfl) (by decide) (fun K hK => ?_)
    refine goes_ Tryd.func34 (by kernel_rfl) rfl #[.pointer (some ⟨L.bp, 0, none⟩), .string s] (by rfl) rfl rfl (by (try simp only [List.map_toArray, List.map_cons, List.map_nil]); first | done | rfl) ?_
    refine (HPut.out _ HB2.out).mono ?_
    rintro e w3 ⟨rfl, hA⟩
    have HA := Lib.hid hA
    clear hA
    refine ⟨_, rfl, ?_⟩
    refine hK.out _ _ (HS3.out w3 HA.out) (fun hHeld => ?_)
    clear hK K
    refine norm_ (a' := ?_) ?_ ?_
    rotate_left
    · simp only [Act.put, List.setIfInBounds_toArray, List.set_cons_zero, List.set_cons_succ, i64_w, i32_w]
      rfl
    refine pure_ (i := 6) (N := some 55) (v := ?_) (a' := ?_) #[true, true, true, true, true, true, true, false, false] rfl rfl (by kernel_rfl) (fun _ _ _ h => h) (Or.inl ⟨by rfl, ?_⟩) ?_ ?_
    rotate_left
    · intro w'
      go_simp
      with_reducible rfl
    rotate_left
    · simp only [Act.put, List.setIfInBounds_toArray, List.set_cons_zero, List.set_cons_succ, i64_w, i32_w]
      rfl
    refine last_ (i := 7) (N := none) #[true, true, true, true, true, true, true, true, false] rfl rfl (by kernel_rfl) (by decide) (fun K hK => ?_)
    have hx63 := HX63.out w3 HA.out
    have d0 : w3.cell? ⟨w.heap.size + 1 + 1, 0, none⟩ = some (.slice none 0 0) := by rw [cell_of_row w3 _ 0 _ _ (0, 0) hx63]; rfl
    have d1 : w3.cell? ⟨w.heap.size + 1 + 1, 1, none⟩ = some (.int .i64 0) := by rw [cell_of_row w3 _ 1 _ _ (0, 0) hx63]; rfl
    have d2 : w3.cell? ⟨w.heap.size + 1 + 1, 2, none⟩ = some (.int .i64 0) := by rw [cell_of_row w3 _ 2 _ _ (0, 0) hx63]; rfl
    have f6 : ∀ i, w3.frozen? ⟨w.heap.size + 1 + 1, i, none⟩ = false := fun i => by simp [World.frozen?, hx63]
    refine skip_ (w1 := ((w3.setCell ⟨w.heap.size + 1 + 1, 0, none⟩ (.slice A n c)).setCell ⟨w.heap.size + 1 + 1, 1, none⟩ (.int .i64 x)).setCell ⟨w.heap.size + 1 + 1, 2, none⟩ (.int .i64 y)) (by rfl) rfl (by go_simp) ?_
    refine hK.out _ _ ?_
    clear hK K
    refine pure_ (i := 8) (N := some 7) (v := ?_) (a' := ?_) #[true, true, true, true, true, true, true, true, true] rfl rfl (by kernel_rfl) (fun _ _ _ h => h) (Or.inl ⟨by rfl, ?_⟩) ?_ ?_
    rotate_left
    · intro w'
      go_simp
      with_reducible rfl
    rotate_left
    · simp only [Act.put, List.setIfInBounds_toArray, List.set_cons_zero, List.set_cons_succ, i64_w, i32_w]
      rfl
    refine done_ (by kernel_rfl) ?_
    go_wp2_with fail
    have hxF : (((w3.setCell ⟨w.heap.size + 1 + 1, 0, none⟩ (.slice A n c)).setCell ⟨w.heap.size + 1 + 1, 1, none⟩ (.int .i64 x)).setCell ⟨w.heap.size + 1 + 1, 2, none⟩ (.int .i64 y)).heap[w.heap.size + 1 + 1]? = some (.cells #[.slice A n c, .int .i64 x, .int .i64 y] 38 (0, 0)) := setCell_blk (setCell_blk (setCell_blk (w := w3) (cs := #[.slice none 0 0, .int .i64 0, .int .i64 0]) hx63 _) _) _
    refine bodyPost_ret (results_row_tmp rfl _ _ (w.heap.size + 1 + 1) 38 #[.slice A n c, .int .i64 x, .int .i64 y] (0, 0) _ rfl hxF Tryd.underlying38 rfl (by kernel_rfl)) rfl ?_
    refine ⟨⟨_, _, rfl⟩, ?_⟩
    have hf := HFin.out w3 _ HA.out ((((Fr.refl (fun k => k = w.heap.size + 1 + 1) w3).setCell (p := ⟨w.heap.size + 1 + 1, 0, none⟩) (.inl rfl) (.slice A n c)).setCell (p := ⟨w.heap.size + 1 + 1, 1, none⟩) (.inl rfl) (.int .i64 x)).setCell (p := ⟨w.heap.size + 1 + 1, 2, none⟩) (.inl rfl) (.int .i64 y))
    exact hf
  by_cases h_3 : kind = 3
  · subst h_3
    clear h_0 h_1
    go_wp2_with fail
    refine (rstepN_any _).mono ?_
    rintro e w1 ⟨A, n, c, x, y, bb, rfl, hb1⟩
    have hx5 := (hb1.block (w.heap.size + 1) (by simp <;> omega)).trans ((heap_alloc_old _ _ (by simp)).trans (heap_alloc2_new w (.cells #[.slice none 0 0, .int .i64 4, .int .i64 0] 38) (.cells #[.int .i64 3, .int .i64 v, .string s] 45)))
    have hx6 := (hb1.block (w.heap.size + 1 + 1) (by simp)).trans (heap_alloc3 w (.cells #[.slice none 0 0, .int .i64 4, .int .i64 0] 38) (.cells #[.int .i64 3, .int .i64 v, .string s] 45) (.cells #[.slice none 0 0, .int .i64 0, .int .i64 0] 38))
    have hbw : Below w.heap.size w w1 := ((((Below.refl _ w).alloc (Nat.le_refl _) _).alloc (by simp) _).alloc (by simp <;> omega) _).trans (hb1.mono (by simp <;> omega))
    have hlt5 := lt_of_heap hx5
    have hlt6 := lt_of_heap hx6
    clear hb1
    go_wp2_with fail
    obtain ⟨W2, hW2⟩ : ∃ W2, W2 = (w1.alloc (.cells #[.slice A n c, .int .i64 x, .int .i64 y] 38)).drew := ⟨_, rfl⟩
    have hb12 : Below w1.heap.size w1 W2 := by rw [hW2]; exact ((Below.refl _ w1).alloc (Nat.le_refl _) _).drew
    have hx8 : W2.heap[w1.heap.size]? = some (.cells #[.slice A n c, .int .i64 x, .int .i64 y] 38 (0, 0)) := by rw [hW2]; exact heap_alloc_new w1 _
    have hx52 := (hb12.block _ hlt5).trans hx5
    have hx62 := (hb12.block _ hlt6).trans hx6
    have hlt8 := lt_of_heap hx8
    have HB2 := Lib.hid (hbw.trans (hb12.mono hbw.size))
    have HS := Lib.hid (fun (w' : World) (e8 : w'.heap[w1.heap.size]? = W2.heap[w1.heap.size]?) (e5 : w'.heap[w.heap.size + 1]? = W2.heap[w.heap.size + 1]?) => show w'.cell? ⟨w1.heap.size, 0, none⟩ = some (.slice A n c) ∧ w'.cell? ⟨w1.heap.size, 1, none⟩ = some (.int .i64 x) ∧ w'.cell? ⟨w1.heap.size, 2, none⟩ = some (.int .i64 y) ∧ w'.cell? ⟨w.heap.size + 1, 1, none⟩ = some (.int .i64 v) ∧ w'.cell? ⟨w.heap.size + 1, 2, none⟩ = some (.string s) from
      ⟨by rw [cell_of_row w' _ 0 _ _ (0, 0) (e8.trans hx8)]; rfl, by rw [cell_of_row w' _ 1 _ _ (0, 0) (e8.trans hx8)]; rfl, by rw [cell_of_row w' _ 2 _ _ (0, 0) (e8.trans hx8)]; rfl, by rw [cell_of_row w' _ 1 _ _ (0, 0) (e5.trans hx52)]; rfl, by rw [cell_of_row w' _ 2 _ _ (0, 0) (e5.trans hx52)]; rfl⟩)
    have HS0 := Lib.hid (HS.out W2 rfl rfl)
    have hsw := hbw.size
    have HS3 := Lib.hid (fun (w' : World) (hA : After KI W2 L d (Dm.step (hsh T) d) w') => HS.out w' (hA.blk hlt8 (HNf.out _ (by omega))) (hA.blk (by omega) (HNf.out _ (by omega))))
    have HX63 := Lib.hid (fun (w' : World) (hA : After KI W2 L d (Dm.step (hsh T) d) w') => (hA.blk (b := w.heap.size + 1 + 1) (by omega) (HNf.out _ (by omega))).trans hx62)
    have HFin := Lib.hid (fun (w' wf : World) (hA : After KI W2 L d (Dm.step (hsh T) d) w') (hf : Fr (fun k => k = w.heap.size + 1 + 1) w' wf) => After.own HB2.out HD.out hA (hf.mono (fun i e => by subst e; constructor <;> omega)))
    have HPut := Lib.hid (fun (w' : World) (hb : Below w.heap.size w w') => step_any L d T w' (HD.out.below hb) (tab_below HT.out hb) HFit.out H0.out)
    have HW2 := Lib.hid hW2
    clear hW2 hx5 hx6 hx8 hx52 hx62 hb12 hbw
    refine start_ (n := 7) (S := fun w' => w'.cell? ⟨w1.heap.size, 0, none⟩ = some (.slice A n c) ∧ w'.cell? ⟨w1.heap.size, 1, none⟩ = some (.int .i64 x) ∧ w'.cell? ⟨w1.heap.size, 2, none⟩ = some (.int .i64 y) ∧ w'.cell? ⟨w.heap.size + 1, 1, none⟩ = some (.int .i64 v) ∧ w'.cell? ⟨w.heap.size + 1, 2, none⟩ = some (.string s)) (ds := [5]) #[false, false, false, false, false, false, false] (by kernel_rfl) rfl rfl (by rw [← HW2.out]; exact HS0.out) (fun hHeld => ?_)
    rw [← HW2.out] at hHeld ⊢
    refine take_ (i := 0) (N := some 88) (v := ?_) (a' := ?_) #[true, false, false, false, false, false, false] rfl rfl (by kernel_rfl) (fun _ _ _ h => h) (Or.inl ⟨by rfl, ?_⟩) hHeld ?_ ?_
    rotate_left
    · rintro w' ⟨s0, s1, s2, s3, s4⟩
      go_simp
      with_reducible rfl
    rotate_left
    · simp only [Act.put, List.setIfInBounds_toArray, List.set_cons_zero, List.set_cons_succ, i64_w, i32_w]
      rfl
    refine pure_ (i := 1) (N := some 89) (v := ?_) (a' := ?_) #[true, true, false, false, false, false, false] rfl rfl (by kernel_rfl) (fun _ _ _ h => h) (Or.inl ⟨by rfl, ?_⟩) ?_ ?_
    rotate_left
    · intro w'
      go_simp
      with_reducible rfl
    rotate_left
    · simp only [Act.put, List.setIfInBounds_toArray, List.set_cons_zero, List.set_cons_succ, i64_w, i32_w]
      rfl
    refine pure_ (i := 3) (N := some 91) (v := ?_) (a' := ?_) #[true, true, false, true, false, false, false] rfl rfl (by kernel_rfl) (fun _ _ _ h => h) (Or.inl ⟨by rfl, ?_⟩) ?_ ?_
    rotate_left
    · intro w'
      go_simp
      with_reducible rfl
    rotate_left
    · simp only [Act.put, List.setIfInBounds_toArray, List.set_cons_zero, List.set_cons_succ, i64_w, i32_w]
      rfl
    refine one_ (i := 2) (N := some 90) #[true, true, true, true, false, false, false] rfl rfl (by kernel_rfl) (by decide) (fun K hK => ?_)
    refine goes_ Tryd.func19 (by kernel_rfl) rfl #[.pointer (some ⟨L.bp, 0, none⟩)] (by rfl) rfl rfl (by (try simp only [List.map_toArray, List.map_cons, List.map_nil]); first | done | rfl) ?_
    refine (HPut.out _ HB2.out).mono ?_
    rintro e w3 ⟨rfl, hA⟩
    have HA := Lib.hid hA
    clear hA
    refine ⟨_, rfl, ?_⟩
    refine hK.out _ _ (HS3.out w3 HA.out) (fun hHeld => ?_)
    clear hK K
    refine norm_ (a' := ?_) ?_ ?_
    rotate_left
    · simp only [Act.put, List.setIfInBounds_toArray, List.set_cons_zero, List.set_cons_succ, i64_w, i32_w]
      rfl
    refine pure_ (i := 4) (N := some 92) (v := ?_) (a' := ?_) #[true, true, true, true, true, false, false] rfl rfl (by kernel_rfl) (fun _ _ _ h => h) (Or.inl ⟨by rfl, ?_⟩) ?_ ?_
    rotate_left
    · intro w'
      go_simp
      with_reducible rfl
    rotate_left
    · simp only [Act.put, List.setIfInBounds_toArray, List.set_cons_zero, List.set_cons_succ, i64_w, i32_w]
      rfl
    refine last_ (i := 5) (N := none) #[true, true, true, true, true, true, false] rfl rfl (by kernel_rfl) (by decide) (fun K hK => ?_)
    have hx63 := HX63.out w3 HA.out
    have d0 : w3.cell? ⟨w.heap.size + 1 + 1, 0, none⟩ = some (.slice none 0 0) := by rw [cell_of_row w3 _ 0 _ _ (0, 0) hx63]; rfl
    have d1 : w3.cell? ⟨w.heap.size + 1 + 1, 1, none⟩ = some (.int .i64 0) := by rw [cell_of_row w3 _ 1 _ _ (0, 0) hx63]; rfl
    have d2 : w3.cell? ⟨w.heap.size + 1 + 1, 2, none⟩ = some (.int .i64 0) := by rw [cell_of_row w3 _ 2 _ _ (0, 0) hx63]; rfl
    have f6 : ∀ i, w3.frozen? ⟨w.heap.size + 1 + 1, i, none⟩ = false := fun i => by simp [World.frozen?, hx63]
    refine skip_ (w1 := ((w3.setCell ⟨w.heap.size + 1 + 1, 0, none⟩ (.slice A n c)).setCell ⟨w.heap.size + 1 + 1, 1, none⟩ (.int .i64 x)).setCell ⟨w.heap.size + 1 + 1, 2, none⟩ (.int .i64 y)) (by rfl) rfl (by go_simp) ?_
    refine hK.out _ _ ?_
    clear hK K
    refine pure_ (i := 6) (N := some 7) (v := ?_) (a' := ?_) #[true, true, true, true, true, true, true] rfl rfl (by kernel_rfl) (fun _ _ _ h => h) (Or.inl ⟨by rfl, ?_⟩) ?_ ?_
    rotate_left
    · intro w'
      go_simp
      with_reducible rfl
    rotate_left
    · simp only [Act.put, List.setIfInBounds_toArray, List.set_cons_zero, List.set_cons_succ, i64_w, i32_w]
      rfl
    refine done_ (by kernel_rfl) ?_
    go_wp2_with fail
    have hxF : (((w3.setCell ⟨w.heap.size + 1 + 1, 0, none⟩ (.slice A n c)).setCell ⟨w.heap.size + 1 + 1, 1, none⟩ (.int .i64 x)).setCell ⟨w.heap.size + 1 + 1, 2, none⟩ (.int .i64 y)).heap[w.heap.size + 1 + 1]? = some (.cells #[.slice A n c, .int .i64 x, .int .i64 y] 38 (0, 0)) := setCell_blk (setCell_blk (setCell_blk (w := w3) (cs := #[.slice none 0 0, .int .i64 0, .int .i64 0]) hx63 _) _) _
    refine bodyPost_ret (results_row_tmp rfl _ _ (w.heap.size + 1 + 1) 38 #[.slice A n c, .int .i64 x, .int .i64 y] (0, 0) _ rfl hxF Tryd.underlying38 rfl (by kernel_rfl)) rfl ?_
    refine ⟨⟨_, _, rfl⟩, ?_⟩
    have hf := HFin.out w3 _ HA.out ((((Fr.refl (fun k => k = w.heap.size + 1 + 1) w3).setCell (p := ⟨w.heap.size + 1 + 1, 0, none⟩) (.inl rfl) (.slice A n c)).setCell (p := ⟨w.heap.size + 1 + 1, 1, none⟩) (.inl rfl) (.int .i64 x)).setCell (p := ⟨w.heap.size + 1 + 1, 2, none⟩) (.inl rfl) (.int .i64 y))
    exact hf
  by_cases h_2 : kind = 2
  · subst h_2
    clear h_0 h_1 h_3
    have HGet := Lib.hid (fun (w' : World) (hb : Below w.heap.size w w') => get_any s L d T w' (HD.out.below hb) (tab_below HT.out hb) HFit.out.inv.pos hmax (by have := HFit.out.now; omega) (by have := HFit.out.old; omega) (fun r hr => by have := HFit.out.room (.inl hr); omega) (fun r hr => by have := HFit.out.room (.inr hr); omega))
    generalize (Dm.get (hsh T) d s.data.toList).getD 0 = gv at HGet
    generalize (Dm.get (hsh T) d s.data.toList).isSome = gb at HGet
    have HRg := Lib.hid (fun (w' : World) => rgetN_any s w')
    go_wp2_with fail
    have hb0 : Below w.heap.size w (((w.alloc (.cells #[.slice none 0 0, .int .i64 4, .int .i64 0] 38)).alloc (.cells #[.int .i64 2, .int .i64 v, .string s] 45)).alloc (.cells #[.slice none 0 0, .int .i64 0, .int .i64 0] 38)) := (((Below.refl _ w).alloc (Nat.le_refl _) _).alloc (by simp) _).alloc (by simp <;> omega) _
    refine (HGet.out _ hb0).mono ?_
    rintro e w1 ⟨rfl, hb1⟩
    have hx4 := (hb1.block (w.heap.size) (by simp <;> omega)).trans ((heap_alloc_old _ _ (by simp <;> omega)).trans ((heap_alloc_old _ _ (by simp)).trans (heap_alloc_new w (.cells #[.slice none 0 0, .int .i64 4, .int .i64 0] 38))))
    have hx5 := (hb1.block (w.heap.size + 1) (by simp <;> omega)).trans ((heap_alloc_old _ _ (by simp)).trans (heap_alloc2_new w (.cells #[.slice none 0 0, .int .i64 4, .int .i64 0] 38) (.cells #[.int .i64 2, .int .i64 v, .string s] 45)))
    have hx6 := (hb1.block (w.heap.size + 1 + 1) (by simp <;> omega)).trans (heap_alloc3 w (.cells #[.slice none 0 0, .int .i64 4, .int .i64 0] 38) (.cells #[.int .i64 2, .int .i64 v, .string s] 45) (.cells #[.slice none 0 0, .int .i64 0, .int .i64 0] 38))
    have hbw : Below w.heap.size w w1 := hb0.trans (hb1.mono (by simp <;> omega))
    clear hb1 hb0
    have a0 : w1.cell? ⟨w.heap.size, 0, none⟩ = some (.slice none 0 0) := by rw [cell_of_row w1 _ 0 _ _ (0, 0) hx4]; rfl
    have a1 : w1.cell? ⟨w.heap.size, 1, none⟩ = some (.int .i64 4) := by rw [cell_of_row w1 _ 1 _ _ (0, 0) hx4]; rfl
    have a2 : w1.cell? ⟨w.heap.size, 2, none⟩ = some (.int .i64 0) := by rw [cell_of_row w1 _ 2 _ _ (0, 0) hx4]; rfl
    have b2 : w1.cell? ⟨w.heap.size + 1, 2, none⟩ = some (.string s) := by rw [cell_of_row w1 _ 2 _ _ (0, 0) hx5]; rfl
    have HX4 := Lib.hid hx4
    have HX6 := Lib.hid hx6
    have HBW := Lib.hid hbw
    have hl4 := lt_of_heap hx4
    have hl6 := lt_of_heap hx6
    clear hx4 hx5 hx6 hbw
    go_wp2_with fail
    refine (HRg.out w1).mono ?_
    rintro e w2 ⟨rfl, hb2⟩
    have hx4 := (hb2.block _ hl4).trans HX4.out
    have hx6 := (hb2.block _ hl6).trans HX6.out
    have HB2 := Lib.hid (HBW.out.trans (hb2.mono HBW.out.size))
    have hs2 := hb2.size
    clear hb2 HX4 HX6 HBW a0 a1 a2 b2 HGet HRg
    have a0 : w2.cell? ⟨w.heap.size, 0, none⟩ = some (.slice none 0 0) := by rw [cell_of_row w2 _ 0 _ _ (0, 0) hx4]; rfl
    have a1 : w2.cell? ⟨w.heap.size, 1, none⟩ = some (.int .i64 4) := by rw [cell_of_row w2 _ 1 _ _ (0, 0) hx4]; rfl
    have a2 : w2.cell? ⟨w.heap.size, 2, none⟩ = some (.int .i64 0) := by rw [cell_of_row w2 _ 2 _ _ (0, 0) hx4]; rfl
    have d0 : w2.cell? ⟨w.heap.size + 1 + 1, 0, none⟩ = some (.slice none 0 0) := by rw [cell_of_row w2 _ 0 _ _ (0, 0) hx6]; rfl
    have d1 : w2.cell? ⟨w.heap.size + 1 + 1, 1, none⟩ = some (.int .i64 0) := by rw [cell_of_row w2 _ 1 _ _ (0, 0) hx6]; rfl
    have d2 : w2.cell? ⟨w.heap.size + 1 + 1, 2, none⟩ = some (.int .i64 0) := by rw [cell_of_row w2 _ 2 _ _ (0, 0) hx6]; rfl
    have f6 : ∀ i, w2.frozen? ⟨w.heap.size + 1 + 1, i, none⟩ = false := fun i => by simp [World.frozen?, hx6]
    clear hx4
    by_cases hgv : gv = 0
    · subst hgv
      go_wp2_with fail
      have hxF : (((w2.setCell ⟨w.heap.size + 1 + 1, 0, none⟩ (.slice none 0 0)).setCell ⟨w.heap.size + 1 + 1, 1, none⟩ (.int .i64 4)).setCell ⟨w.heap.size + 1 + 1, 2, none⟩ (.int .i64 0)).heap[w.heap.size + 1 + 1]? = some (.cells #[.slice none 0 0, .int .i64 4, .int .i64 0] 38 (0, 0)) := setCell_blk (setCell_blk (setCell_blk (w := w2) (cs := #[.slice none 0 0, .int .i64 0, .int .i64 0]) hx6 _) _) _
      refine bodyPost_ret (results_row_tmp rfl _ _ (w.heap.size + 1 + 1) 38 #[.slice none 0 0, .int .i64 4, .int .i64 0] (0, 0) _ rfl hxF Tryd.underlying38 rfl (by kernel_rfl)) rfl ?_
      exact ⟨⟨_, _, rfl⟩, After.own HB2.out HD.out (.refl (HD.out.below HB2.out) (Below.refl _ _)) ((((Fr.refl _ w2).setCell (p := ⟨w.heap.size + 1 + 1, 0, none⟩) (.inl ⟨by simp <;> omega, by simp <;> omega⟩) (.slice none 0 0)).setCell (p := ⟨w.heap.size + 1 + 1, 1, none⟩) (.inl ⟨by simp <;> omega, by simp <;> omega⟩) (.int .i64 4)).setCell (p := ⟨w.heap.size + 1 + 1, 2, none⟩) (.inl ⟨by simp <;> omega, by simp <;> omega⟩) (.int .i64 0))⟩
    · have hg1 : (gv == 0) = false := by simpa using hgv
      go_wp2_with fail
      have hxF : (((w2.setCell ⟨w.heap.size + 1 + 1, 0, none⟩ (.slice none 0 0)).setCell ⟨w.heap.size + 1 + 1, 1, none⟩ (.int .i64 4)).setCell ⟨w.heap.size + 1 + 1, 2, none⟩ (.int .i64 0)).heap[w.heap.size + 1 + 1]? = some (.cells #[.slice none 0 0, .int .i64 4, .int .i64 0] 38 (0, 0)) := setCell_blk (setCell_blk (setCell_blk (w := w2) (cs := #[.slice none 0 0, .int .i64 0, .int .i64 0]) hx6 _) _) _
      refine bodyPost_ret (results_row_tmp rfl _ _ (w.heap.size + 1 + 1) 38 #[.slice none 0 0, .int .i64 4, .int .i64 0] (0, 0) _ rfl hxF Tryd.underlying38 rfl (by kernel_rfl)) rfl ?_
      exact ⟨⟨_, _, rfl⟩, After.own HB2.out HD.out (.refl (HD.out.below HB2.out) (Below.refl _ _)) ((((Fr.refl _ w2).setCell (p := ⟨w.heap.size + 1 + 1, 0, none⟩) (.inl ⟨by simp <;> omega, by simp <;> omega⟩) (.slice none 0 0)).setCell (p := ⟨w.heap.size + 1 + 1, 1, none⟩) (.inl ⟨by simp <;> omega, by simp <;> omega⟩) (.int .i64 4)).setCell (p := ⟨w.heap.size + 1 + 1, 2, none⟩) (.inl ⟨by simp <;> omega, by simp <;> omega⟩) (.int .i64 0))⟩
  · skip
    have k0 : (kind == 0) = false := by simpa using h_0
    have k1 : (kind == 1) = false := by simpa using h_1
    have k2 : (kind == 2) = false := by simpa using h_2
    have k3 : (kind == 3) = false := by simpa using h_3
    have HO := Lib.hid (show opD T d kind v s.data.toList = d by unfold opD; rw [if_neg h_0, if_neg h_1, if_neg h_3])
    clear h_0 h_1 h_2 h_3
    go_wp2_with fail
    have hxF : (((w.alloc (.cells #[.slice none 0 0, .int .i64 4, .int .i64 0] 38)).alloc (.cells #[.int .i64 kind, .int .i64 v, .string s] 45)).alloc (.cells #[.slice none 0 0, .int .i64 4, .int .i64 0] 38)).heap[w.heap.size + 1 + 1]? = some (.cells #[.slice none 0 0, .int .i64 4, .int .i64 0] 38 (0, 0)) := heap_alloc3 w _ _ _
    refine bodyPost_ret (results_row_tmp rfl _ _ (w.heap.size + 1 + 1) 38 #[.slice none 0 0, .int .i64 4, .int .i64 0] (0, 0) _ rfl hxF Tryd.underlying38 rfl (by kernel_rfl)) rfl ?_
    exact ⟨⟨_, _, rfl⟩, by rw [HO.out]; exact .refl HD.out ((((Below.refl _ w).alloc (Nat.le_refl _) _).alloc (by simp) _).alloc (by simp <;> omega) _)⟩
end Go.Proofs.YtflndbgaidhbaaaDoor
