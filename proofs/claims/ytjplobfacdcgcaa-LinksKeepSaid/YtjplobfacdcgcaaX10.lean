/-
  The reference's ways to tell whether texts, replies, letters are the same, walked where they are. Conditions: those that each theorem states.
-/
import Derived.Test.YtjplobfacdcgcaaX9
namespace Go.Proofs.Ytjplobfacdcgcaa
open Go.RowKit Go.Proofs.YtjplobfacdcgcaaW.PrintLast

set_option maxHeartbeats 3200000 in
set_option maxRecDepth 100000 in
theorem same27_any (v v' : Value) (l : List ByteArray) (w : World) (h : StrsAt (Fro 0) w v l) (h' : StrsAt (Fro 0) w v' l) (hl : l.length ≤ 1000000) :
    Calls Try.prog 27 #[v, v'] w fun e w' => e = .returned (.bool true) ∧ Below w.heap.size w w' := by
  obtain ⟨A, c, rfl, h⟩ := h
  obtain ⟨A', c', rfl, h'⟩ := h'
  have H := Lib.hid h
  have H' := Lib.hid h'
  obtain ⟨n, hn⟩ : ∃ n, n = l.length := ⟨_, rfl⟩
  rw [← hn] at hl ⊢
  have HN := Lib.hid hn
  have hnn : ((n : Int) != (n : Int)) = false := by simp
  clear h h' hn
  go_enter Try.func27, Try.ntmps27
  go_wp2_with fail
  go_loopw [5] (fun i wr => ∃ j : Nat, j ≤ n ∧ i = .int .i64 j ∧ Below w.heap.size w wr) (fun i _ => n - (intOf i).toNat)
  case atStart => exact ⟨0, Nat.zero_le _, rfl, Below.refl _ _⟩
  case round =>
    obtain ⟨j, hj, rfl, hbw⟩ := hrel
    by_cases hjl : j < n
    · have hdj : decide ((j : Int) < (n : Int)) = true := decide_eq_true (by omega)
      have ho : l[j]? = some l[j] := List.getElem?_eq_getElem (by rw [← HN.out]; exact hjl)
      obtain ⟨b, off, rfl, _, c0⟩ := H.out j _ ho
      obtain ⟨b', off', rfl, _, c0'⟩ := H'.out j _ ho
      generalize l[j] = s at ho c0 c0'
      obtain ⟨W0, hW0⟩ : ∃ W0, W0 = wr.drew := ⟨_, rfl⟩
      have hb0 : Below w.heap.size w W0 := by rw [hW0]; exact hbw.drew
      have HS0 := Lib.hid (fun (w' : World) (hb : Below W0.heap.size W0 w') => show w'.cell? ⟨b, off + j, none⟩ = some (.string s) ∧ w'.cell? ⟨b', off' + j, none⟩ = some (.string s) from by
        have hbb := hb0.trans (hb.mono hb0.size)
        exact ⟨(hbb.cell (p := ⟨b, off + j, none⟩) (World.block_lt_of_cell? _ _ c0)).trans c0, (hbb.cell (p := ⟨b', off' + j, none⟩) (World.block_lt_of_cell? _ _ c0')).trans c0'⟩)
      have HW0 := Lib.hid hW0
      have HB0 := Lib.hid hb0
      have hi0 : (0 : Int) ≤ (j : Int) := by omega
      have hi1 : (j : Int) < (n : Int) := by omega
      clear hW0 hb0 c0 c0' ho hbw
      go_wp2_with fail
      refine start_ (n := 9) (S := fun w' => w'.cell? ⟨b, off + j, none⟩ = some (.string s) ∧ w'.cell? ⟨b', off' + j, none⟩ = some (.string s)) (ds := []) #[false, false, false, false, false, false, false, false, false] (by kernel_rfl) rfl rfl (by rw [← HW0.out]; exact HS0.out W0 (Below.refl _ _)) (fun hHeld => ?_)
      rw [← HW0.out] at hHeld ⊢
      refine pure_ (i := 0) (N := some 17) (v := ?_) (a' := ?_) #[true, false, false, false, false, false, false, false, false] rfl rfl (by kernel_rfl) (fun _ _ _ h => h) (Or.inl ⟨by rfl, ?_⟩) ?_ ?_
      rotate_left
      · intro w'
        go_simp
        with_reducible rfl
      rotate_left
      · simp only [Act.put, List.setIfInBounds_toArray, List.set_cons_zero, List.set_cons_succ, i64_w, i32_w]
        rfl
      refine pure_ (i := 1) (N := some 18) (v := ?_) (a' := ?_) #[true, true, false, false, false, false, false, false, false] rfl rfl (by kernel_rfl) (fun _ _ _ h => h) (Or.inl ⟨by rfl, ?_⟩) ?_ ?_
      rotate_left
      · intro w'
        go_simp
        with_reducible rfl
      rotate_left
      · simp only [Act.put, List.setIfInBounds_toArray, List.set_cons_zero, List.set_cons_succ, i64_w, i32_w]
        rfl
      refine pure_ (i := 2) (N := some 19) (v := ?_) (a' := ?_) #[true, true, true, false, false, false, false, false, false] rfl rfl (by kernel_rfl) (fun _ _ _ h => h) (Or.inl ⟨by rfl, ?_⟩) ?_ ?_
      rotate_left
      · intro w'
        go_simp
        with_reducible rfl
      rotate_left
      · simp only [Act.put, List.setIfInBounds_toArray, List.set_cons_zero, List.set_cons_succ, i64_w, i32_w]
        rfl
      refine take_ (i := 3) (N := some 20) (v := ?_) (a' := ?_) #[true, true, true, true, false, false, false, false, false] rfl rfl (by kernel_rfl) (fun _ _ _ h => h) (Or.inl ⟨by rfl, ?_⟩) hHeld ?_ ?_
      rotate_left
      · rintro w' ⟨s0, s1⟩
        go_simp
        with_reducible rfl
      rotate_left
      · simp only [Act.put, List.setIfInBounds_toArray, List.set_cons_zero, List.set_cons_succ, i64_w, i32_w]
        rfl
      refine pure_ (i := 4) (N := some 21) (v := ?_) (a' := ?_) #[true, true, true, true, true, false, false, false, false] rfl rfl (by kernel_rfl) (fun _ _ _ h => h) (Or.inl ⟨by rfl, ?_⟩) ?_ ?_
      rotate_left
      · intro w'
        go_simp
        with_reducible rfl
      rotate_left
      · simp only [Act.put, List.setIfInBounds_toArray, List.set_cons_zero, List.set_cons_succ, i64_w, i32_w]
        rfl
      refine pure_ (i := 5) (N := some 22) (v := ?_) (a' := ?_) #[true, true, true, true, true, true, false, false, false] rfl rfl (by kernel_rfl) (fun _ _ _ h => h) (Or.inl ⟨by rfl, ?_⟩) ?_ ?_
      rotate_left
      · intro w'
        go_simp
        with_reducible rfl
      rotate_left
      · simp only [Act.put, List.setIfInBounds_toArray, List.set_cons_zero, List.set_cons_succ, i64_w, i32_w]
        rfl
      refine pure_ (i := 6) (N := some 23) (v := ?_) (a' := ?_) #[true, true, true, true, true, true, true, false, false] rfl rfl (by kernel_rfl) (fun _ _ _ h => h) (Or.inl ⟨by rfl, ?_⟩) ?_ ?_
      rotate_left
      · intro w'
        go_simp
        with_reducible rfl
      rotate_left
      · simp only [Act.put, List.setIfInBounds_toArray, List.set_cons_zero, List.set_cons_succ, i64_w, i32_w]
        rfl
      refine take_ (i := 7) (N := some 24) (v := ?_) (a' := ?_) #[true, true, true, true, true, true, true, true, false] rfl rfl (by kernel_rfl) (fun _ _ _ h => h) (Or.inl ⟨by rfl, ?_⟩) hHeld ?_ ?_
      rotate_left
      · rintro w' ⟨s0, s1⟩
        go_simp
        with_reducible rfl
      rotate_left
      · simp only [Act.put, List.setIfInBounds_toArray, List.set_cons_zero, List.set_cons_succ, i64_w, i32_w]
        rfl
      refine pure_ (i := 8) (N := some 25) (v := ?_) (a' := ?_) #[true, true, true, true, true, true, true, true, true] rfl rfl (by kernel_rfl) (fun _ _ _ h => h) (Or.inl ⟨by rfl, ?_⟩) ?_ ?_
      rotate_left
      · intro w'
        go_simp
        with_reducible rfl
      rotate_left
      · simp only [Act.put, List.setIfInBounds_toArray, List.set_cons_zero, List.set_cons_succ, i64_w, i32_w]
        rfl
      refine done_ (by kernel_rfl) ?_
      clear hHeld HS0
      go_wp2_with fail
      go_roundw
      case rel => exact ⟨j + 1, by omega, by go_num, HB0.out⟩
      case measure => simp [intOf]; omega
    · have hje : j = n := by omega
      subst hje
      have hdj : decide ((j : Int) < (j : Int)) = false := decide_eq_false (by omega)
      have HB := Lib.hid hbw
      clear hbw
      go_wp2_with fail
      go_ret
      exact ⟨rfl, HB.out⟩

set_option maxHeartbeats 3200000 in
set_option maxRecDepth 100000 in
theorem same26_any : ∀ (r : Rp) (v v' : Value) (w : World), RpAt (Fro 0) w r v → RpAt (Fro 0) w r v' → r.Fine 1000000 →
    Calls Try.prog 26 #[.agg #[.int .i64 r.kind, .int .i64 r.int, .string r.text, v], .agg #[.int .i64 r.kind, .int .i64 r.int, .string r.text, v']] w fun e w' => e = .returned (.bool true) ∧ Below w.heap.size w w' := by
  intro r
  induction r with
  | mk kind int text n l ih =>
  intro v v' w hr hr' hfine
  have HIH := Lib.hid ih
  have HF := Lib.hid hfine.2
  have hl := hfine.1
  obtain ⟨A, c, rfl, hr2⟩ := hr
  obtain ⟨A', c', rfl, hr2'⟩ := hr'
  have H := Lib.hid hr2
  have H' := Lib.hid hr2'
  clear hr2 hr2' ih hfine
  simp only [Rp.kind, Rp.int, Rp.text]
  have hnn : ((n : Int) != (n : Int)) = false := by simp
  have hkk : (kind != kind) = false := by simp
  have hii : (int != int) = false := by simp
  obtain ⟨w0, hw0⟩ : ∃ w0, w0 = (w.alloc (.cells #[.int .i64 kind, .int .i64 int, .string text, .slice A n c] 31)).alloc (.cells #[.int .i64 kind, .int .i64 int, .string text, .slice A' n c'] 31) := ⟨_, rfl⟩
  have hb0 : Below w.heap.size w w0 := by rw [hw0]; exact ((Below.refl _ _).alloc (Nat.le_refl _) _).alloc (by simp) _
  have hx0 : w0.heap[w.heap.size]? = some (.cells #[.int .i64 kind, .int .i64 int, .string text, .slice A n c] 31 (0, 0)) := by rw [hw0]; exact (Below.heap_alloc _ _ _ (by simp)).trans (World.alloc_heap_new w _)
  have hy0 : w0.heap[w.heap.size + 1]? = some (.cells #[.int .i64 kind, .int .i64 int, .string text, .slice A' n c'] 31 (0, 0)) := by
    have := World.alloc_heap_new (w.alloc (.cells #[.int .i64 kind, .int .i64 int, .string text, .slice A n c] 31)) (.cells #[.int .i64 kind, .int .i64 int, .string text, .slice A' n c'] 31)
    rw [World.size_alloc] at this
    rw [hw0]; exact this
  have HX := Lib.hid (fun (w' : World) (hb : Below w0.heap.size w0 w') => show w'.cell? ⟨w.heap.size, 3, none⟩ = some (.slice A n c) ∧ w'.cell? ⟨w.heap.size + 1, 3, none⟩ = some (.slice A' n c') from by
    have h1 := (hb.block _ (lt_of_heap hx0)).trans hx0
    have h2 := (hb.block _ (lt_of_heap hy0)).trans hy0
    exact ⟨by rw [cell_of_row _ _ _ _ _ _ h1]; rfl, by rw [cell_of_row _ _ _ _ _ _ h2]; rfl⟩)
  have HB0 := Lib.hid hb0
  have HW0 := Lib.hid hw0
  clear hw0 hb0 hx0 hy0
  go_enter Try.func26, Try.ntmps26
  go_wp2_with fail
  rw [← HW0.out]
  go_loopw [5] (fun i wr => ∃ j : Nat, j ≤ n ∧ i = .int .i64 j ∧ Below w0.heap.size w0 wr) (fun i _ => n - (intOf i).toNat)
  case atStart => exact ⟨0, Nat.zero_le _, rfl, Below.refl _ _⟩
  case round =>
    obtain ⟨j, hj, rfl, hbw⟩ := hrel
    obtain ⟨x0, x1⟩ := HX.out wr hbw
    by_cases hjl : j < n
    · have hdj : decide ((j : Int) < (n : Int)) = true := decide_eq_true (by omega)
      obtain ⟨b, off, u, rfl, _, c0, c1, c2, c3, hu⟩ := H.out ⟨j, hjl⟩
      obtain ⟨b', off', u', rfl, _, d0, d1, d2, d3, hu'⟩ := H'.out ⟨j, hjl⟩
      have HI := Lib.hid (fun v v' w' h h' => HIH.out ⟨j, hjl⟩ v v' w' h h' (HF.out ⟨j, hjl⟩))
      generalize l ⟨j, hjl⟩ = rj at c0 c1 c2 d0 d1 d2 hu hu' HI
      obtain ⟨kj, ij, tj, nj, lj⟩ := rj
      simp only [Rp.kind, Rp.int, Rp.text] at c0 c1 c2 d0 d1 d2 HI
      have HU := Lib.hid hu
      have HU' := Lib.hid hu'
      obtain ⟨Au, cu, rfl⟩ : ∃ A c, u = .slice A nj c := by obtain ⟨A, c, rfl, _⟩ := HU.out; exact ⟨A, c, rfl⟩
      obtain ⟨Au', cu', rfl⟩ : ∃ A c, u' = .slice A nj c := by obtain ⟨A, c, rfl, _⟩ := HU'.out; exact ⟨A, c, rfl⟩
      obtain ⟨W0, hW0⟩ : ∃ W0, W0 = wr.drew := ⟨_, rfl⟩
      have hb1 : Below w0.heap.size w0 W0 := by rw [hW0]; exact hbw.drew
      have HS0 := Lib.hid (fun (w' : World) (hb : Below W0.heap.size W0 w') => show w'.cell? ⟨w.heap.size, 3, none⟩ = some (.slice (some ⟨b, off, none⟩) n c) ∧ w'.cell? ⟨w.heap.size + 1, 3, none⟩ = some (.slice (some ⟨b', off', none⟩) n c') ∧ w'.cell? ⟨b, off + j * 4, none⟩ = some (.int .i64 kj) ∧ w'.cell? ⟨b, off + j * 4 + 1, none⟩ = some (.int .i64 ij) ∧ w'.cell? ⟨b, off + j * 4 + 2, none⟩ = some (.string tj) ∧ w'.cell? ⟨b, off + j * 4 + 3, none⟩ = some (.slice Au nj cu) ∧ w'.cell? ⟨b', off' + j * 4, none⟩ = some (.int .i64 kj) ∧ w'.cell? ⟨b', off' + j * 4 + 1, none⟩ = some (.int .i64 ij) ∧ w'.cell? ⟨b', off' + j * 4 + 2, none⟩ = some (.string tj) ∧ w'.cell? ⟨b', off' + j * 4 + 3, none⟩ = some (.slice Au' nj cu') from by
        have hb2 := hb1.trans (hb.mono hb1.size)
        have hbb := HB0.out.trans (hb2.mono HB0.out.size)
        have hlt := World.block_lt_of_cell? _ _ c0
        have hlt' := World.block_lt_of_cell? _ _ d0
        exact ⟨(HX.out w' hb2).1, (HX.out w' hb2).2, (hbb.cell (p := ⟨b, off + j * 4, none⟩) hlt).trans c0, (hbb.cell (p := ⟨b, off + j * 4 + 1, none⟩) hlt).trans c1, (hbb.cell (p := ⟨b, off + j * 4 + 2, none⟩) hlt).trans c2, (hbb.cell (p := ⟨b, off + j * 4 + 3, none⟩) hlt).trans c3,
          (hbb.cell (p := ⟨b', off' + j * 4, none⟩) hlt').trans d0, (hbb.cell (p := ⟨b', off' + j * 4 + 1, none⟩) hlt').trans d1, (hbb.cell (p := ⟨b', off' + j * 4 + 2, none⟩) hlt').trans d2, (hbb.cell (p := ⟨b', off' + j * 4 + 3, none⟩) hlt').trans d3⟩)
      have HC := Lib.hid (fun (w' : World) (hb : Below W0.heap.size W0 w') => HI.out (.slice Au nj cu) (.slice Au' nj cu') w' (HU.out.keep (.of_below (HB0.out.trans ((hb1.trans (hb.mono hb1.size)).mono HB0.out.size)) _)) (HU'.out.keep (.of_below (HB0.out.trans ((hb1.trans (hb.mono hb1.size)).mono HB0.out.size)) _)))
      have HW1 := Lib.hid hW0
      have HB1 := Lib.hid hb1
      have HW0 := HW1
      have hi0 : (0 : Int) ≤ (j : Int) := by omega
      have hi1 : (j : Int) < (n : Int) := by omega
      clear hW0 hb1 c0 c1 c2 c3 d0 d1 d2 d3 hu hu' hbw
      go_wp2_with fail
      clear x0 x1
      refine start_ (n := 12) (S := fun w' => w'.cell? ⟨w.heap.size, 3, none⟩ = some (.slice (some ⟨b, off, none⟩) n c) ∧ w'.cell? ⟨w.heap.size + 1, 3, none⟩ = some (.slice (some ⟨b', off', none⟩) n c') ∧ w'.cell? ⟨b, off + j * 4, none⟩ = some (.int .i64 kj) ∧ w'.cell? ⟨b, off + j * 4 + 1, none⟩ = some (.int .i64 ij) ∧ w'.cell? ⟨b, off + j * 4 + 2, none⟩ = some (.string tj) ∧ w'.cell? ⟨b, off + j * 4 + 3, none⟩ = some (.slice Au nj cu) ∧ w'.cell? ⟨b', off' + j * 4, none⟩ = some (.int .i64 kj) ∧ w'.cell? ⟨b', off' + j * 4 + 1, none⟩ = some (.int .i64 ij) ∧ w'.cell? ⟨b', off' + j * 4 + 2, none⟩ = some (.string tj) ∧ w'.cell? ⟨b', off' + j * 4 + 3, none⟩ = some (.slice Au' nj cu')) (ds := []) #[false, false, false, false, false, false, false, false, false, false, false, false] (by kernel_rfl) rfl rfl (by rw [← HW0.out]; exact HS0.out W0 (Below.refl _ _)) (fun hHeld => ?_)
      rw [← HW0.out] at hHeld ⊢
      refine pure_ (i := 0) (N := some 41) (v := ?_) (a' := ?_) #[true, false, false, false, false, false, false, false, false, false, false, false] rfl rfl (by kernel_rfl) (fun _ _ _ h => h) (Or.inl ⟨by rfl, ?_⟩) ?_ ?_
      rotate_left
      · intro w'
        go_simp
        with_reducible rfl
      rotate_left
      · simp only [Act.put, List.setIfInBounds_toArray, List.set_cons_zero, List.set_cons_succ, i64_w, i32_w]
        rfl
      refine take_ (i := 1) (N := some 42) (v := ?_) (a' := ?_) #[true, true, false, false, false, false, false, false, false, false, false, false] rfl rfl (by kernel_rfl) (fun _ _ _ h => h) (Or.inl ⟨by rfl, ?_⟩) hHeld ?_ ?_
      rotate_left
      · rintro w' ⟨s0, s1, s2, s3, s4, s5, s6, s7, s8, s9⟩
        go_simp
        with_reducible rfl
      rotate_left
      · simp only [Act.put, List.setIfInBounds_toArray, List.set_cons_zero, List.set_cons_succ, i64_w, i32_w]
        rfl
      refine pure_ (i := 2) (N := some 43) (v := ?_) (a' := ?_) #[true, true, true, false, false, false, false, false, false, false, false, false] rfl rfl (by kernel_rfl) (fun _ _ _ h => h) (Or.inl ⟨by rfl, ?_⟩) ?_ ?_
      rotate_left
      · intro w'
        go_simp
        with_reducible rfl
      rotate_left
      · simp only [Act.put, List.setIfInBounds_toArray, List.set_cons_zero, List.set_cons_succ, i64_w, i32_w]
        rfl
      refine pure_ (i := 3) (N := some 44) (v := ?_) (a' := ?_) #[true, true, true, true, false, false, false, false, false, false, false, false] rfl rfl (by kernel_rfl) (fun _ _ _ h => h) (Or.inl ⟨by rfl, ?_⟩) ?_ ?_
      rotate_left
      · intro w'
        go_simp
        with_reducible rfl
      rotate_left
      · simp only [Act.put, List.setIfInBounds_toArray, List.set_cons_zero, List.set_cons_succ, i64_w, i32_w]
        rfl
      refine take_ (i := 4) (N := some 45) (v := ?_) (a' := ?_) #[true, true, true, true, true, false, false, false, false, false, false, false] rfl rfl (by kernel_rfl) (fun _ _ _ h => h) (Or.inl ⟨by rfl, ?_⟩) hHeld ?_ ?_
      rotate_left
      · rintro w' ⟨s0, s1, s2, s3, s4, s5, s6, s7, s8, s9⟩
        go_simp
        with_reducible rfl
      rotate_left
      · simp only [Act.put, List.setIfInBounds_toArray, List.set_cons_zero, List.set_cons_succ, i64_w, i32_w]
        rfl
      refine pure_ (i := 5) (N := some 46) (v := ?_) (a' := ?_) #[true, true, true, true, true, true, false, false, false, false, false, false] rfl rfl (by kernel_rfl) (fun _ _ _ h => h) (Or.inl ⟨by rfl, ?_⟩) ?_ ?_
      rotate_left
      · intro w'
        go_simp
        with_reducible rfl
      rotate_left
      · simp only [Act.put, List.setIfInBounds_toArray, List.set_cons_zero, List.set_cons_succ, i64_w, i32_w]
        rfl
      refine take_ (i := 6) (N := some 47) (v := ?_) (a' := ?_) #[true, true, true, true, true, true, true, false, false, false, false, false] rfl rfl (by kernel_rfl) (fun _ _ _ h => h) (Or.inl ⟨by rfl, ?_⟩) hHeld ?_ ?_
      rotate_left
      · rintro w' ⟨s0, s1, s2, s3, s4, s5, s6, s7, s8, s9⟩
        go_simp
        with_reducible rfl
      rotate_left
      · simp only [Act.put, List.setIfInBounds_toArray, List.set_cons_zero, List.set_cons_succ, i64_w, i32_w]
        rfl
      refine pure_ (i := 7) (N := some 48) (v := ?_) (a' := ?_) #[true, true, true, true, true, true, true, true, false, false, false, false] rfl rfl (by kernel_rfl) (fun _ _ _ h => h) (Or.inl ⟨by rfl, ?_⟩) ?_ ?_
      rotate_left
      · intro w'
        go_simp
        with_reducible rfl
      rotate_left
      · simp only [Act.put, List.setIfInBounds_toArray, List.set_cons_zero, List.set_cons_succ, i64_w, i32_w]
        rfl
      refine pure_ (i := 8) (N := some 49) (v := ?_) (a' := ?_) #[true, true, true, true, true, true, true, true, true, false, false, false] rfl rfl (by kernel_rfl) (fun _ _ _ h => h) (Or.inl ⟨by rfl, ?_⟩) ?_ ?_
      rotate_left
      · intro w'
        go_simp
        with_reducible rfl
      rotate_left
      · simp only [Act.put, List.setIfInBounds_toArray, List.set_cons_zero, List.set_cons_succ, i64_w, i32_w]
        rfl
      refine take_ (i := 9) (N := some 50) (v := ?_) (a' := ?_) #[true, true, true, true, true, true, true, true, true, true, false, false] rfl rfl (by kernel_rfl) (fun _ _ _ h => h) (Or.inl ⟨by rfl, ?_⟩) hHeld ?_ ?_
      rotate_left
      · rintro w' ⟨s0, s1, s2, s3, s4, s5, s6, s7, s8, s9⟩
        go_simp
        with_reducible rfl
      rotate_left
      · simp only [Act.put, List.setIfInBounds_toArray, List.set_cons_zero, List.set_cons_succ, i64_w, i32_w]
        rfl
      refine one_ (i := 10) (N := some 51) #[true, true, true, true, true, true, true, true, true, true, true, false] rfl rfl (by kernel_rfl) (by decide) (fun K hK => ?_)
      refine goes_ Try.func26 (by kernel_rfl) rfl #[.agg #[.int .i64 kj, .int .i64 ij, .string tj, .slice Au nj cu], .agg #[.int .i64 kj, .int .i64 ij, .string tj, .slice Au' nj cu']] (by rfl) rfl rfl (by (try simp only [List.map_toArray, List.map_cons, List.map_nil]); first | done | rfl) ?_
      refine (HC.out W0 (Below.refl _ _)).mono ?_
      rintro ee w5 ⟨rfl, hb5⟩
      have HB5 := Lib.hid hb5
      clear hb5
      refine ⟨_, rfl, ?_⟩
      refine hK.out _ _ (HS0.out _ HB5.out) (fun hHeld => ?_)
      clear hK K
      refine norm_ (a' := ?_) ?_ ?_
      rotate_left
      · simp only [Act.put, List.setIfInBounds_toArray, List.set_cons_zero, List.set_cons_succ, i64_w, i32_w]
        rfl
      refine pure_ (i := 11) (N := some 52) (v := ?_) (a' := ?_) #[true, true, true, true, true, true, true, true, true, true, true, true] rfl rfl (by kernel_rfl) (fun _ _ _ h => h) (Or.inl ⟨by rfl, ?_⟩) ?_ ?_
      rotate_left
      · intro w'
        go_simp
        with_reducible rfl
      rotate_left
      · simp only [Act.put, List.setIfInBounds_toArray, List.set_cons_zero, List.set_cons_succ, i64_w, i32_w]
        rfl
      refine done_ (by kernel_rfl) ?_
      have HB5' := Lib.hid (HB1.out.trans (HB5.out.mono HB1.out.size))
      clear hHeld HS0
      go_wp2_with fail
      go_roundw
      case rel => exact ⟨j + 1, by omega, by go_num, HB5'.out⟩
      case measure => simp [intOf]; omega
    · have hje : j = n := by omega
      subst hje
      have hdj : decide ((j : Int) < (j : Int)) = false := decide_eq_false (by omega)
      have HB := Lib.hid (HB0.out.trans (hbw.mono HB0.out.size))
      clear hbw
      go_wp2_with fail
      go_ret
      exact ⟨rfl, HB.out⟩

set_option maxHeartbeats 6400000 in
set_option maxRecDepth 100000 in
theorem same15_any (x : Lt) (va vr va' vr' : Value) (w : World) (h1 : StrsAt (Fro 0) w va x.args) (h2 : RpAt (Fro 0) w x.reply vr) (h1' : StrsAt (Fro 0) w va' x.args) (h2' : RpAt (Fro 0) w x.reply vr') (hl : x.args.length ≤ 1000000) (hf : x.reply.Fine 1000000) :
    Calls Try.prog 15 #[letV x va vr, letV x va' vr'] w fun e w' => e = .returned (.bool true) ∧ Below w.heap.size w w' := by
  obtain ⟨kind, number, slot, ends, key, text, args, ⟨rk, ri, rt, rn, rl⟩, good, asking⟩ := x
  have HR := Lib.hid (fun (w' : World) (hb : Below w.heap.size w w') => same26_any _ vr vr' w' (h2.keep (.of_below hb _)) (h2'.keep (.of_below hb _)) hf)
  have HA := Lib.hid (fun (w' : World) (hb : Below w.heap.size w w') => same27_any va va' args w' (h1.keep (.of_below hb _)) (h1'.keep (.of_below hb _)) hl)
  obtain ⟨Aa, na, ca, rfl⟩ : ∃ A n c, va = .slice A n c := by obtain ⟨A, c, e, _⟩ := h1; exact ⟨A, _, c, e⟩
  obtain ⟨Ar, cr, rfl⟩ : ∃ A c, vr = .slice A rn c := by obtain ⟨A, c, e, _⟩ := h2; exact ⟨A, c, e⟩
  obtain ⟨Aa', na', ca', rfl⟩ : ∃ A n c, va' = .slice A n c := by obtain ⟨A, c, e, _⟩ := h1'; exact ⟨A, _, c, e⟩
  obtain ⟨Ar', cr', rfl⟩ : ∃ A c, vr' = .slice A rn c := by obtain ⟨A, c, e, _⟩ := h2'; exact ⟨A, c, e⟩
  simp only [letV, Rp.kind, Rp.int, Rp.text] at *
  clear h1 h2 h1' h2' hl hf
  obtain ⟨w0, hw0⟩ : ∃ w0, w0 = (w.alloc (.cells #[.int .i64 kind, .int .i64 number, .int .i64 slot, .int .i64 ends, .string key, .string text, .slice Aa na ca, .int .i64 rk, .int .i64 ri, .string rt, .slice Ar rn cr, .bool good, .int .i64 asking] 33)).alloc (.cells #[.int .i64 kind, .int .i64 number, .int .i64 slot, .int .i64 ends, .string key, .string text, .slice Aa' na' ca', .int .i64 rk, .int .i64 ri, .string rt, .slice Ar' rn cr', .bool good, .int .i64 asking] 33) := ⟨_, rfl⟩
  have hb0 : Below w.heap.size w w0 := by rw [hw0]; exact ((Below.refl _ _).alloc (Nat.le_refl _) _).alloc (by simp) _
  have hx0 : w0.heap[w.heap.size]? = some (.cells #[.int .i64 kind, .int .i64 number, .int .i64 slot, .int .i64 ends, .string key, .string text, .slice Aa na ca, .int .i64 rk, .int .i64 ri, .string rt, .slice Ar rn cr, .bool good, .int .i64 asking] 33 (0, 0)) := by rw [hw0]; exact (Below.heap_alloc _ _ _ (by simp)).trans (World.alloc_heap_new w _)
  have hy0 : w0.heap[w.heap.size + 1]? = some (.cells #[.int .i64 kind, .int .i64 number, .int .i64 slot, .int .i64 ends, .string key, .string text, .slice Aa' na' ca', .int .i64 rk, .int .i64 ri, .string rt, .slice Ar' rn cr', .bool good, .int .i64 asking] 33 (0, 0)) := by
    have := World.alloc_heap_new (w.alloc (.cells #[.int .i64 kind, .int .i64 number, .int .i64 slot, .int .i64 ends, .string key, .string text, .slice Aa na ca, .int .i64 rk, .int .i64 ri, .string rt, .slice Ar rn cr, .bool good, .int .i64 asking] 33)) (.cells #[.int .i64 kind, .int .i64 number, .int .i64 slot, .int .i64 ends, .string key, .string text, .slice Aa' na' ca', .int .i64 rk, .int .i64 ri, .string rt, .slice Ar' rn cr', .bool good, .int .i64 asking] 33)
    rw [World.size_alloc] at this
    rw [hw0]; exact this
  have HB0 := Lib.hid hb0
  have HW0 := Lib.hid hw0
  have HX := Lib.hid hx0
  have HY := Lib.hid hy0
  clear hw0 hb0 hx0 hy0
  go_enter Try.func15, Try.ntmps15
  go_wp2_with fail
  rw [← HW0.out]
  refine (HR.out w0 HB0.out).mono ?_
  rintro e w1 ⟨rfl, hb1⟩
  have HB1 := Lib.hid hb1
  have HB1' := Lib.hid (HB0.out.trans (hb1.mono HB0.out.size))
  have hX1 := (hb1.block _ (lt_of_heap HX.out)).trans HX.out
  have hY1 := (hb1.block _ (lt_of_heap HY.out)).trans HY.out
  have a6 : w1.cell? ⟨w.heap.size, 6, none⟩ = some (.slice Aa na ca) := by rw [cell_of_row _ _ _ _ _ _ hX1]; rfl
  have b6 : w1.cell? ⟨w.heap.size + 1, 6, none⟩ = some (.slice Aa' na' ca') := by rw [cell_of_row _ _ _ _ _ _ hY1]; rfl
  have HX1 := Lib.hid hX1
  have HY1 := Lib.hid hY1
  clear hb1 hX1 hY1
  go_wp2_with fail
  refine (HA.out w1 HB1'.out).mono ?_
  rintro e w2 ⟨rfl, hb2⟩
  have hX2 := (hb2.block _ (lt_of_heap HX1.out)).trans HX1.out
  have hY2 := (hb2.block _ (lt_of_heap HY1.out)).trans HY1.out
  have a0 : w2.cell? ⟨w.heap.size, 0, none⟩ = some (.int .i64 kind) := by rw [cell_of_row _ _ _ _ _ _ hX2]; rfl
  have b0 : w2.cell? ⟨w.heap.size + 1, 0, none⟩ = some (.int .i64 kind) := by rw [cell_of_row _ _ _ _ _ _ hY2]; rfl
  have a1 : w2.cell? ⟨w.heap.size, 1, none⟩ = some (.int .i64 number) := by rw [cell_of_row _ _ _ _ _ _ hX2]; rfl
  have b1 : w2.cell? ⟨w.heap.size + 1, 1, none⟩ = some (.int .i64 number) := by rw [cell_of_row _ _ _ _ _ _ hY2]; rfl
  have a2 : w2.cell? ⟨w.heap.size, 2, none⟩ = some (.int .i64 slot) := by rw [cell_of_row _ _ _ _ _ _ hX2]; rfl
  have b2 : w2.cell? ⟨w.heap.size + 1, 2, none⟩ = some (.int .i64 slot) := by rw [cell_of_row _ _ _ _ _ _ hY2]; rfl
  have a3 : w2.cell? ⟨w.heap.size, 3, none⟩ = some (.int .i64 ends) := by rw [cell_of_row _ _ _ _ _ _ hX2]; rfl
  have b3 : w2.cell? ⟨w.heap.size + 1, 3, none⟩ = some (.int .i64 ends) := by rw [cell_of_row _ _ _ _ _ _ hY2]; rfl
  have a4 : w2.cell? ⟨w.heap.size, 4, none⟩ = some (.string key) := by rw [cell_of_row _ _ _ _ _ _ hX2]; rfl
  have b4 : w2.cell? ⟨w.heap.size + 1, 4, none⟩ = some (.string key) := by rw [cell_of_row _ _ _ _ _ _ hY2]; rfl
  have a5 : w2.cell? ⟨w.heap.size, 5, none⟩ = some (.string text) := by rw [cell_of_row _ _ _ _ _ _ hX2]; rfl
  have b5 : w2.cell? ⟨w.heap.size + 1, 5, none⟩ = some (.string text) := by rw [cell_of_row _ _ _ _ _ _ hY2]; rfl
  have a11 : w2.cell? ⟨w.heap.size, 11, none⟩ = some (.bool good) := by rw [cell_of_row _ _ _ _ _ _ hX2]; rfl
  have b11 : w2.cell? ⟨w.heap.size + 1, 11, none⟩ = some (.bool good) := by rw [cell_of_row _ _ _ _ _ _ hY2]; rfl
  have a12 : w2.cell? ⟨w.heap.size, 12, none⟩ = some (.int .i64 asking) := by rw [cell_of_row _ _ _ _ _ _ hX2]; rfl
  have b12 : w2.cell? ⟨w.heap.size + 1, 12, none⟩ = some (.int .i64 asking) := by rw [cell_of_row _ _ _ _ _ _ hY2]; rfl
  have HB2 := Lib.hid (HB1'.out.trans (hb2.mono HB1'.out.size))
  clear hb2 hX2 hY2 a6 b6
  go_wp2_with fail
  go_ret
  exact ⟨by simp, HB2.out⟩
end Go.Proofs.Ytjplobfacdcgcaa
