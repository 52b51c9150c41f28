/-
  Clone, walked. Conditions: those that each theorem states.
-/
import Derived.Test.YtflndbgaidhbaaaDoorX12
import Derived.Test.YtflndbgaidhbaaaDoorWLast
namespace Go.Proofs.YtflndbgaidhbaaaDoor
open Go.RowKit Dm Go.Proofs.YtflndbgaidhbaaaDoorW.PrintLast

/-- What copied leaves. -/
def Copied (w : World) (t : List (Room Int)) (w1 : World) (g : Nat) (cur : Array Value) : Prop :=
  TabAt 82 2 80 KI.enc w1 g cur t ∧ Ap cur t.length ∧ (∀ b, In cur t.length b → w.heap.size ≤ b) ∧ w.heap.size ≤ g ∧ Below w.heap.size w w1

theorem Copied.lt {w w1 : World} {t : List (Room Int)} {g : Nat} {cur : Array Value} (h : Copied w t w1 g cur) : g < w1.heap.size := lt_of_heap h.1.1

/-- The clone, where there is an elder table. -/
theorem clone_two {d : D Int} {w w1 w2 : World} {g1 g2 : Nat} {c1 c2 : Array Value} (ho : d.old ≠ []) (h1 : Copied w d.now w1 g1 c1) (h2 : Copied w1 d.old w2 g2 c2) (w3 : World)
    (hw : w3 = w2.alloc (.cells #[.slice (some ⟨g1, 0, none⟩) d.now.length c1.size, .slice (some ⟨g2, 0, none⟩) d.old.length c2.size, .int .i64 d.next, .int .i64 d.many] 74)) :
    DictAt KI w3 ⟨w2.heap.size, g1, g2, c1, c2⟩ d ∧ (∀ b, foot ⟨w2.heap.size, g1, g2, c1, c2⟩ d b → w.heap.size ≤ b) ∧ Below w.heap.size w w3 := by
  subst hw
  have hl1 := h1.lt
  have hl2 := h2.lt
  obtain ⟨a1, a2, a3, a4, a5⟩ := h1
  obtain ⟨b1, b2, b3, b4, b5⟩ := h2
  have hs1 := a5.size
  have hs2 := b5.size
  have kn : TabAt 82 2 80 KI.enc w2 g1 c1 d.now := a1.kept (b5.block g1 hl1) (fun b hb => b5.block b (a1.lt hb).1)
  refine ⟨⟨?_, ?_, fun _ => ?_, a2, b2, fun b hb hb2 => ?_, fun _ => ?_⟩, fun b hb => ?_, ?_⟩
  · show (World.heap _)[w2.heap.size]? = _
    rw [heap_alloc_new]
    unfold oldV
    rw [if_neg ho]
    rfl
  · exact kn.kept (heap_alloc_old w2 _ (by show g1 < _; omega)) (fun b hb => heap_alloc_old w2 _ (kn.lt hb).1)
  · exact b1.kept (heap_alloc_old w2 _ hl2) (fun b hb => heap_alloc_old w2 _ (b1.lt hb).1)
  · have := (a1.lt (show In c1 d.now.length b from hb)).1
    have := b3 b hb2
    omega
  · show g1 ≠ g2
    omega
  · rcases hb with h | h | ⟨_, h⟩ | h | h
    · have h : b = w2.heap.size := h
      omega
    · have h : b = g1 := h
      omega
    · have h : b = g2 := h
      omega
    · exact a3 b h
    · have := b3 b h; omega
  · exact (a5.trans (b5.mono hs1)).alloc (by omega) _

/-- The clone, where there is none. -/
theorem clone_one {d : D Int} {w w1 : World} {g1 : Nat} {c1 : Array Value} (ho : d.old = []) (h1 : Copied w d.now w1 g1 c1) (w3 : World)
    (hw : w3 = w1.alloc (.cells #[.slice (some ⟨g1, 0, none⟩) d.now.length c1.size, .slice none 0 0, .int .i64 d.next, .int .i64 d.many] 74)) :
    DictAt KI w3 ⟨w1.heap.size, g1, 0, c1, #[]⟩ d ∧ (∀ b, foot ⟨w1.heap.size, g1, 0, c1, #[]⟩ d b → w.heap.size ≤ b) ∧ Below w.heap.size w w3 := by
  subst hw
  have hl1 := h1.lt
  obtain ⟨a1, a2, a3, a4, a5⟩ := h1
  have hs1 := a5.size
  have hno : ∀ b, ¬ In (#[] : Array Value) d.old.length b := fun b ⟨i, u, _, hu, _⟩ => by simp at hu
  refine ⟨⟨?_, ?_, fun h => absurd ho h, a2, fun i j u u' b _ _ hu => by simp at hu, fun b _ hb2 => hno b hb2, fun h => absurd ho h⟩, fun b hb => ?_, ?_⟩
  · show (World.heap _)[w1.heap.size]? = _
    rw [heap_alloc_new]
    unfold oldV
    rw [if_pos ho]
    rfl
  · exact a1.kept (heap_alloc_old w1 _ hl1) (fun b hb => heap_alloc_old w1 _ (a1.lt hb).1)
  · rcases hb with h | h | ⟨h, _⟩ | h | h
    · have h : b = w1.heap.size := h
      omega
    · have h : b = g1 := h
      omega
    · exact absurd ho h
    · exact a3 b h
    · exact absurd h (hno b)
  · exact a5.alloc (by omega) _

theorem below_undrewN {w w1 : World} (n : Nat) (h : Below (w.drewN n).heap.size (w.drewN n) w1) : Below w.heap.size w w1 := ⟨h.os, h.tape, h.output, h.size, h.block⟩
theorem copied_drew {w w1 : World} {t : List (Room Int)} {g : Nat} {cur : Array Value} (h : Copied w.drew t w1 g cur) : Copied w t w1 g cur := ⟨h.1, h.2.1, h.2.2.1, h.2.2.2.1, below_undrew h.2.2.2.2⟩

set_option maxHeartbeats 3200000 in
set_option maxRecDepth 100000 in
theorem clone_any (L : Lo) (d : D Int) (T : Nat → Int) (w : World) (hd : DictAt KI w L d) (hfit : Fit T d) :
    Calls Tryd.prog 23 #[.pointer (some ⟨L.bp, 0, none⟩)] w fun e w' => ∃ L', e = .returned (.pointer (some ⟨L'.bp, 0, none⟩)) ∧ DictAt KI w' L' d ∧ (∀ b, foot L' d b → w.heap.size ≤ b) ∧ Below w.heap.size w w' := by
  obtain ⟨hc0, hc1, hc2, hc3⟩ := hd.cells
  have hbp := lt_of_heap hd.blk
  have HNow := Lib.hid (fun w' (hb : Below w.heap.size w w') => copied_any L.gn L.cn.size d.now L.cn w' (hd.below hb).now hfit.inv.pos hfit.now (fun r hr => hfit.room (.inl hr)))
  by_cases ho : d.old = []
  · have e1 : oldV L d = .slice none 0 0 := by unfold oldV; rw [if_pos ho]
    rw [e1] at hc1
    have HO := Lib.hid ho
    have HS := Lib.hid (fun w' (hb1 : Below w.heap.size w w') => show _ ∧ _ ∧ _ ∧ _ from ⟨(hb1.cell (p := ⟨L.bp, 0, none⟩) hbp).trans hc0, (hb1.cell (p := ⟨L.bp, 1, none⟩) hbp).trans hc1, (hb1.cell (p := ⟨L.bp, 2, none⟩) hbp).trans hc2, (hb1.cell (p := ⟨L.bp, 3, none⟩) hbp).trans hc3⟩)
    have HS0 := Lib.hid (HS.out _ (Below.refl _ w).drew)
    clear ho e1 hd hfit hc0 hc1 hc2 hc3
    go_enter Tryd.func23, Tryd.ntmps23
    go_wp2_with fail
    refine start_ (n := 21) (S := fun w' => w'.cell? ⟨L.bp, 0, none⟩ = some (.slice (some ⟨L.gn, 0, none⟩) d.now.length L.cn.size) ∧ w'.cell? ⟨L.bp, 1, none⟩ = some (.slice none 0 0) ∧ w'.cell? ⟨L.bp, 2, none⟩ = some (.int .i64 d.next) ∧ w'.cell? ⟨L.bp, 3, none⟩ = some (.int .i64 d.many)) (ds := []) #[false, false, false, false, false, false, false, false, false, false, false, false, false, false, false, false, false, false, false, false, false] (by kernel_rfl) rfl rfl HS0.out (fun hHeld => ?_)
    refine pure_ (i := 0) (N := some 3) (v := ?_) (a' := ?_) #[true, false, false, false, false, false, false, false, false, false, false, false, false, false, false, false, false, false, false, false, false] rfl rfl (by kernel_rfl) (fun _ _ _ h => h) (Or.inl ⟨by rfl, ?_⟩) ?_ ?_
    rotate_left
    · intro w'
      go_simp
      with_reducible rfl
    rotate_left
    · simp only [Act.put, List.setIfInBounds_toArray, List.set_cons_zero, List.set_cons_succ, i64_w, i32_w]
      rfl
    refine pure_ (i := 1) (N := some 4) (v := ?_) (a' := ?_) #[true, true, false, false, false, false, false, false, false, false, false, false, false, false, false, false, false, false, false, false, false] rfl rfl (by kernel_rfl) (fun _ _ _ h => h) (Or.inl ⟨by rfl, ?_⟩) ?_ ?_
    rotate_left
    · intro w'
      go_simp
      with_reducible rfl
    rotate_left
    · simp only [Act.put, List.setIfInBounds_toArray, List.set_cons_zero, List.set_cons_succ, i64_w, i32_w]
      rfl
    refine pure_ (i := 2) (N := some 5) (v := ?_) (a' := ?_) #[true, true, true, false, false, false, false, false, false, false, false, false, false, false, false, false, false, false, false, false, false] rfl rfl (by kernel_rfl) (fun _ _ _ h => h) (Or.inl ⟨by rfl, ?_⟩) ?_ ?_
    rotate_left
    · intro w'
      go_simp
      with_reducible rfl
    rotate_left
    · simp only [Act.put, List.setIfInBounds_toArray, List.set_cons_zero, List.set_cons_succ, i64_w, i32_w]
      rfl
    refine take_ (i := 3) (N := some 6) (v := ?_) (a' := ?_) #[true, true, true, true, false, false, false, false, false, false, false, false, false, false, false, false, false, false, false, false, false] rfl rfl (by kernel_rfl) (fun _ _ _ h => h) (Or.inl ⟨by rfl, ?_⟩) hHeld ?_ ?_
    rotate_left
    · rintro w' ⟨s0, s1, s2, s3⟩
      go_simp
      with_reducible rfl
    rotate_left
    · simp only [Act.put, List.setIfInBounds_toArray, List.set_cons_zero, List.set_cons_succ, i64_w, i32_w]
      rfl
    refine pure_ (i := 5) (N := some 8) (v := ?_) (a' := ?_) #[true, true, true, true, false, true, false, false, false, false, false, false, false, false, false, false, false, false, false, false, false] rfl rfl (by kernel_rfl) (fun _ _ _ h => h) (Or.inl ⟨by rfl, ?_⟩) ?_ ?_
    rotate_left
    · intro w'
      go_simp
      with_reducible rfl
    rotate_left
    · simp only [Act.put, List.setIfInBounds_toArray, List.set_cons_zero, List.set_cons_succ, i64_w, i32_w]
      rfl
    refine pure_ (i := 6) (N := some 9) (v := ?_) (a' := ?_) #[true, true, true, true, false, true, true, false, false, false, false, false, false, false, false, false, false, false, false, false, false] rfl rfl (by kernel_rfl) (fun _ _ _ h => h) (Or.inl ⟨by rfl, ?_⟩) ?_ ?_
    rotate_left
    · intro w'
      go_simp
      with_reducible rfl
    rotate_left
    · simp only [Act.put, List.setIfInBounds_toArray, List.set_cons_zero, List.set_cons_succ, i64_w, i32_w]
      rfl
    refine pure_ (i := 7) (N := some 10) (v := ?_) (a' := ?_) #[true, true, true, true, false, true, true, true, false, false, false, false, false, false, false, false, false, false, false, false, false] rfl rfl (by kernel_rfl) (fun _ _ _ h => h) (Or.inl ⟨by rfl, ?_⟩) ?_ ?_
    rotate_left
    · intro w'
      go_simp
      with_reducible rfl
    rotate_left
    · simp only [Act.put, List.setIfInBounds_toArray, List.set_cons_zero, List.set_cons_succ, i64_w, i32_w]
      rfl
    refine take_ (i := 8) (N := some 11) (v := ?_) (a' := ?_) #[true, true, true, true, false, true, true, true, true, false, false, false, false, false, false, false, false, false, false, false, false] rfl rfl (by kernel_rfl) (fun _ _ _ h => h) (Or.inl ⟨by rfl, ?_⟩) hHeld ?_ ?_
    rotate_left
    · rintro w' ⟨s0, s1, s2, s3⟩
      go_simp
      with_reducible rfl
    rotate_left
    · simp only [Act.put, List.setIfInBounds_toArray, List.set_cons_zero, List.set_cons_succ, i64_w, i32_w]
      rfl
    refine pure_ (i := 10) (N := some 13) (v := ?_) (a' := ?_) #[true, true, true, true, false, true, true, true, true, false, true, false, false, false, false, false, false, false, false, false, false] rfl rfl (by kernel_rfl) (fun _ _ _ h => h) (Or.inl ⟨by rfl, ?_⟩) ?_ ?_
    rotate_left
    · intro w'
      go_simp
      with_reducible rfl
    rotate_left
    · simp only [Act.put, List.setIfInBounds_toArray, List.set_cons_zero, List.set_cons_succ, i64_w, i32_w]
      rfl
    refine pure_ (i := 11) (N := some 14) (v := ?_) (a' := ?_) #[true, true, true, true, false, true, true, true, true, false, true, true, false, false, false, false, false, false, false, false, false] rfl rfl (by kernel_rfl) (fun _ _ _ h => h) (Or.inl ⟨by rfl, ?_⟩) ?_ ?_
    rotate_left
    · intro w'
      go_simp
      with_reducible rfl
    rotate_left
    · simp only [Act.put, List.setIfInBounds_toArray, List.set_cons_zero, List.set_cons_succ, i64_w, i32_w]
      rfl
    refine pure_ (i := 12) (N := some 15) (v := ?_) (a' := ?_) #[true, true, true, true, false, true, true, true, true, false, true, true, true, false, false, false, false, false, false, false, false] rfl rfl (by kernel_rfl) (fun _ _ _ h => h) (Or.inl ⟨by rfl, ?_⟩) ?_ ?_
    rotate_left
    · intro w'
      go_simp
      with_reducible rfl
    rotate_left
    · simp only [Act.put, List.setIfInBounds_toArray, List.set_cons_zero, List.set_cons_succ, i64_w, i32_w]
      rfl
    refine take_ (i := 13) (N := some 16) (v := ?_) (a' := ?_) #[true, true, true, true, false, true, true, true, true, false, true, true, true, true, false, false, false, false, false, false, false] rfl rfl (by kernel_rfl) (fun _ _ _ h => h) (Or.inl ⟨by rfl, ?_⟩) hHeld ?_ ?_
    rotate_left
    · rintro w' ⟨s0, s1, s2, s3⟩
      go_simp
      with_reducible rfl
    rotate_left
    · simp only [Act.put, List.setIfInBounds_toArray, List.set_cons_zero, List.set_cons_succ, i64_w, i32_w]
      rfl
    refine pure_ (i := 14) (N := some 17) (v := ?_) (a' := ?_) #[true, true, true, true, false, true, true, true, true, false, true, true, true, true, true, false, false, false, false, false, false] rfl rfl (by kernel_rfl) (fun _ _ _ h => h) (Or.inl ⟨by rfl, ?_⟩) ?_ ?_
    rotate_left
    · intro w'
      go_simp
      with_reducible rfl
    rotate_left
    · simp only [Act.put, List.setIfInBounds_toArray, List.set_cons_zero, List.set_cons_succ, i64_w, i32_w]
      rfl
    refine pure_ (i := 15) (N := some 18) (v := ?_) (a' := ?_) #[true, true, true, true, false, true, true, true, true, false, true, true, true, true, true, true, false, false, false, false, false] rfl rfl (by kernel_rfl) (fun _ _ _ h => h) (Or.inl ⟨by rfl, ?_⟩) ?_ ?_
    rotate_left
    · intro w'
      go_simp
      with_reducible rfl
    rotate_left
    · simp only [Act.put, List.setIfInBounds_toArray, List.set_cons_zero, List.set_cons_succ, i64_w, i32_w]
      rfl
    refine pure_ (i := 16) (N := some 19) (v := ?_) (a' := ?_) #[true, true, true, true, false, true, true, true, true, false, true, true, true, true, true, true, true, false, false, false, false] rfl rfl (by kernel_rfl) (fun _ _ _ h => h) (Or.inl ⟨by rfl, ?_⟩) ?_ ?_
    rotate_left
    · intro w'
      go_simp
      with_reducible rfl
    rotate_left
    · simp only [Act.put, List.setIfInBounds_toArray, List.set_cons_zero, List.set_cons_succ, i64_w, i32_w]
      rfl
    refine take_ (i := 17) (N := some 20) (v := ?_) (a' := ?_) #[true, true, true, true, false, true, true, true, true, false, true, true, true, true, true, true, true, true, false, false, false] rfl rfl (by kernel_rfl) (fun _ _ _ h => h) (Or.inl ⟨by rfl, ?_⟩) hHeld ?_ ?_
    rotate_left
    · rintro w' ⟨s0, s1, s2, s3⟩
      go_simp
      with_reducible rfl
    rotate_left
    · simp only [Act.put, List.setIfInBounds_toArray, List.set_cons_zero, List.set_cons_succ, i64_w, i32_w]
      rfl
    refine one_ (i := 4) (N := some 7) #[true, true, true, true, true, true, true, true, true, false, true, true, true, true, true, true, true, true, false, false, false] rfl rfl (by kernel_rfl) (by decide) (fun K hK => ?_)
    refine goes_ Tryd.func38 (by kernel_rfl) rfl #[.slice (some ⟨L.gn, 0, none⟩) d.now.length L.cn.size] (by rfl) rfl rfl (by (try simp only [List.map_toArray, List.map_cons, List.map_nil]); first | done | rfl) ?_
    refine (HNow.out _ (Below.refl _ w).drew).mono ?_
    rintro e w1 ⟨g1, c1, rfl, h1, h2, h3, h4, h5⟩
    have HC1 := Lib.hid (copied_drew (w := w) ⟨h1, h2, h3, h4, h5⟩)
    clear h1 h2 h3 h4 h5
    refine ⟨_, rfl, ?_⟩
    refine hK.out _ _ (HS.out w1 HC1.out.2.2.2.2) (fun hHeld => ?_)
    clear hK K
    refine norm_ (a' := ?_) ?_ ?_
    rotate_left
    · simp only [Act.put, List.setIfInBounds_toArray, List.set_cons_zero, List.set_cons_succ, i64_w, i32_w]
      rfl
    refine one_ (i := 9) (N := some 12) #[true, true, true, true, true, true, true, true, true, true, true, true, true, true, true, true, true, true, false, false, false] rfl rfl (by kernel_rfl) (by decide) (fun K hK => ?_)
    refine goes_ Tryd.func38 (by kernel_rfl) rfl #[.slice none 0 0] (by rfl) rfl rfl (by (try simp only [List.map_toArray, List.map_cons, List.map_nil]); first | done | rfl) ?_
    refine (copied_nil 0 _).mono ?_
    rintro e w2 ⟨rfl, rfl⟩
    refine ⟨_, rfl, ?_⟩
    refine hK.out _ _ (HS.out w1 HC1.out.2.2.2.2) (fun hHeld => ?_)
    clear hK K
    refine norm_ (a' := ?_) ?_ ?_
    rotate_left
    · simp only [Act.put, List.setIfInBounds_toArray, List.set_cons_zero, List.set_cons_succ, i64_w, i32_w]
      rfl
    refine pure_ (i := 18) (N := some 21) (v := ?_) (a' := ?_) #[true, true, true, true, true, true, true, true, true, true, true, true, true, true, true, true, true, true, true, false, false] rfl rfl (by kernel_rfl) (fun _ _ _ h => h) (Or.inl ⟨by rfl, ?_⟩) ?_ ?_
    rotate_left
    · intro w'
      go_simp
      with_reducible rfl
    rotate_left
    · simp only [Act.put, List.setIfInBounds_toArray, List.set_cons_zero, List.set_cons_succ, i64_w, i32_w]
      rfl
    refine one_ (i := 19) (N := some 22) #[true, true, true, true, true, true, true, true, true, true, true, true, true, true, true, true, true, true, true, true, false] rfl rfl (by kernel_rfl) (by decide) (fun K hK => ?_)
    refine value_ (v := .pointer (some ⟨w1.heap.size, 0, none⟩)) (w1 := w1.alloc (.cells #[.slice (some ⟨g1, 0, none⟩) d.now.length c1.size, .slice none 0 0, .int .i64 d.next, .int .i64 d.many] 74)) (by rfl) rfl (by go_simp) ?_
    have HE := Lib.hid (clone_one HO.out HC1.out _ rfl)
    refine hK.out _ _ (HS.out _ HE.out.2.2) (fun hHeld => ?_)
    clear hK K
    refine norm_ (a' := ?_) ?_ ?_
    rotate_left
    · simp only [Act.put, List.setIfInBounds_toArray, List.set_cons_zero, List.set_cons_succ, i64_w, i32_w]
      rfl
    refine pure_ (i := 20) (N := some 2) (v := ?_) (a' := ?_) #[true, true, true, true, true, true, true, true, true, true, true, true, true, true, true, true, true, true, true, true, true] rfl rfl (by kernel_rfl) (fun _ _ _ h => h) (Or.inl ⟨by rfl, ?_⟩) ?_ ?_
    rotate_left
    · intro w'
      go_simp
      with_reducible rfl
    rotate_left
    · simp only [Act.put, List.setIfInBounds_toArray, List.set_cons_zero, List.set_cons_succ, i64_w, i32_w]
      rfl
    refine done_ (by kernel_rfl) ?_
    go_wp2_with fail
    go_ret
    exact ⟨_, rfl, HE.out⟩
  · have e1 : oldV L d = .slice (some ⟨L.go, 0, none⟩) d.old.length L.co.size := by unfold oldV; rw [if_neg ho]
    rw [e1] at hc1
    have HO := Lib.hid ho
    have HOld := Lib.hid (fun w' (hb : Below w.heap.size w w') => copied_any L.go L.co.size d.old L.co w' ((hd.below hb).old ho) (List.length_pos_iff.2 ho) hfit.old (fun r hr => hfit.room (.inr hr)))
    have HS := Lib.hid (fun w' (hb1 : Below w.heap.size w w') => show _ ∧ _ ∧ _ ∧ _ from ⟨(hb1.cell (p := ⟨L.bp, 0, none⟩) hbp).trans hc0, (hb1.cell (p := ⟨L.bp, 1, none⟩) hbp).trans hc1, (hb1.cell (p := ⟨L.bp, 2, none⟩) hbp).trans hc2, (hb1.cell (p := ⟨L.bp, 3, none⟩) hbp).trans hc3⟩)
    have HS0 := Lib.hid (HS.out _ (Below.refl _ w).drew)
    clear ho e1 hd hfit hc0 hc1 hc2 hc3
    go_enter Tryd.func23, Tryd.ntmps23
    go_wp2_with fail
    refine start_ (n := 21) (S := fun w' => w'.cell? ⟨L.bp, 0, none⟩ = some (.slice (some ⟨L.gn, 0, none⟩) d.now.length L.cn.size) ∧ w'.cell? ⟨L.bp, 1, none⟩ = some (.slice (some ⟨L.go, 0, none⟩) d.old.length L.co.size) ∧ w'.cell? ⟨L.bp, 2, none⟩ = some (.int .i64 d.next) ∧ w'.cell? ⟨L.bp, 3, none⟩ = some (.int .i64 d.many)) (ds := []) #[false, false, false, false, false, false, false, false, false, false, false, false, false, false, false, false, false, false, false, false, false] (by kernel_rfl) rfl rfl HS0.out (fun hHeld => ?_)
    refine pure_ (i := 0) (N := some 3) (v := ?_) (a' := ?_) #[true, false, false, false, false, false, false, false, false, false, false, false, false, false, false, false, false, false, false, false, false] rfl rfl (by kernel_rfl) (fun _ _ _ h => h) (Or.inl ⟨by rfl, ?_⟩) ?_ ?_
    rotate_left
    · intro w'
      go_simp
      with_reducible rfl
    rotate_left
    · simp only [Act.put, List.setIfInBounds_toArray, List.set_cons_zero, List.set_cons_succ, i64_w, i32_w]
      rfl
    refine pure_ (i := 1) (N := some 4) (v := ?_) (a' := ?_) #[true, true, false, false, false, false, false, false, false, false, false, false, false, false, false, false, false, false, false, false, false] rfl rfl (by kernel_rfl) (fun _ _ _ h => h) (Or.inl ⟨by rfl, ?_⟩) ?_ ?_
    rotate_left
    · intro w'
      go_simp
      with_reducible rfl
    rotate_left
    · simp only [Act.put, List.setIfInBounds_toArray, List.set_cons_zero, List.set_cons_succ, i64_w, i32_w]
      rfl
    refine pure_ (i := 2) (N := some 5) (v := ?_) (a' := ?_) #[true, true, true, false, false, false, false, false, false, false, false, false, false, false, false, false, false, false, false, false, false] rfl rfl (by kernel_rfl) (fun _ _ _ h => h) (Or.inl ⟨by rfl, ?_⟩) ?_ ?_
    rotate_left
    · intro w'
      go_simp
      with_reducible rfl
    rotate_left
    · simp only [Act.put, List.setIfInBounds_toArray, List.set_cons_zero, List.set_cons_succ, i64_w, i32_w]
      rfl
    refine take_ (i := 3) (N := some 6) (v := ?_) (a' := ?_) #[true, true, true, true, false, false, false, false, false, false, false, false, false, false, false, false, false, false, false, false, false] rfl rfl (by kernel_rfl) (fun _ _ _ h => h) (Or.inl ⟨by rfl, ?_⟩) hHeld ?_ ?_
    rotate_left
    · rintro w' ⟨s0, s1, s2, s3⟩
      go_simp
      with_reducible rfl
    rotate_left
    · simp only [Act.put, List.setIfInBounds_toArray, List.set_cons_zero, List.set_cons_succ, i64_w, i32_w]
      rfl
    refine pure_ (i := 5) (N := some 8) (v := ?_) (a' := ?_) #[true, true, true, true, false, true, false, false, false, false, false, false, false, false, false, false, false, false, false, false, false] rfl rfl (by kernel_rfl) (fun _ _ _ h => h) (Or.inl ⟨by rfl, ?_⟩) ?_ ?_
    rotate_left
    · intro w'
      go_simp
      with_reducible rfl
    rotate_left
    · simp only [Act.put, List.setIfInBounds_toArray, List.set_cons_zero, List.set_cons_succ, i64_w, i32_w]
      rfl
    refine pure_ (i := 6) (N := some 9) (v := ?_) (a' := ?_) #[true, true, true, true, false, true, true, false, false, false, false, false, false, false, false, false, false, false, false, false, false] rfl rfl (by kernel_rfl) (fun _ _ _ h => h) (Or.inl ⟨by rfl, ?_⟩) ?_ ?_
    rotate_left
    · intro w'
      go_simp
      with_reducible rfl
    rotate_left
    · simp only [Act.put, List.setIfInBounds_toArray, List.set_cons_zero, List.set_cons_succ, i64_w, i32_w]
      rfl
    refine pure_ (i := 7) (N := some 10) (v := ?_) (a' := ?_) #[true, true, true, true, false, true, true, true, false, false, false, false, false, false, false, false, false, false, false, false, false] rfl rfl (by kernel_rfl) (fun _ _ _ h => h) (Or.inl ⟨by rfl, ?_⟩) ?_ ?_
    rotate_left
    · intro w'
      go_simp
      with_reducible rfl
    rotate_left
    · simp only [Act.put, List.setIfInBounds_toArray, List.set_cons_zero, List.set_cons_succ, i64_w, i32_w]
      rfl
    refine take_ (i := 8) (N := some 11) (v := ?_) (a' := ?_) #[true, true, true, true, false, true, true, true, true, false, false, false, false, false, false, false, false, false, false, false, false] rfl rfl (by kernel_rfl) (fun _ _ _ h => h) (Or.inl ⟨by rfl, ?_⟩) hHeld ?_ ?_
    rotate_left
    · rintro w' ⟨s0, s1, s2, s3⟩
      go_simp
      with_reducible rfl
    rotate_left
    · simp only [Act.put, List.setIfInBounds_toArray, List.set_cons_zero, List.set_cons_succ, i64_w, i32_w]
      rfl
    refine pure_ (i := 10) (N := some 13) (v := ?_) (a' := ?_) #[true, true, true, true, false, true, true, true, true, false, true, false, false, false, false, false, false, false, false, false, false] rfl rfl (by kernel_rfl) (fun _ _ _ h => h) (Or.inl ⟨by rfl, ?_⟩) ?_ ?_
    rotate_left
    · intro w'
      go_simp
      with_reducible rfl
    rotate_left
    · simp only [Act.put, List.setIfInBounds_toArray, List.set_cons_zero, List.set_cons_succ, i64_w, i32_w]
      rfl
    refine pure_ (i := 11) (N := some 14) (v := ?_) (a' := ?_) #[true, true, true, true, false, true, true, true, true, false, true, true, false, false, false, false, false, false, false, false, false] rfl rfl (by kernel_rfl) (fun _ _ _ h => h) (Or.inl ⟨by rfl, ?_⟩) ?_ ?_
    rotate_left
    · intro w'
      go_simp
      with_reducible rfl
    rotate_left
    · simp only [Act.put, List.setIfInBounds_toArray, List.set_cons_zero, List.set_cons_succ, i64_w, i32_w]
      rfl
    refine pure_ (i := 12) (N := some 15) (v := ?_) (a' := ?_) #[true, true, true, true, false, true, true, true, true, false, true, true, true, false, false, false, false, false, false, false, false] rfl rfl (by kernel_rfl) (fun _ _ _ h => h) (Or.inl ⟨by rfl, ?_⟩) ?_ ?_
    rotate_left
    · intro w'
      go_simp
      with_reducible rfl
    rotate_left
    · simp only [Act.put, List.setIfInBounds_toArray, List.set_cons_zero, List.set_cons_succ, i64_w, i32_w]
      rfl
    refine take_ (i := 13) (N := some 16) (v := ?_) (a' := ?_) #[true, true, true, true, false, true, true, true, true, false, true, true, true, true, false, false, false, false, false, false, false] rfl rfl (by kernel_rfl) (fun _ _ _ h => h) (Or.inl ⟨by rfl, ?_⟩) hHeld ?_ ?_
    rotate_left
    · rintro w' ⟨s0, s1, s2, s3⟩
      go_simp
      with_reducible rfl
    rotate_left
    · simp only [Act.put, List.setIfInBounds_toArray, List.set_cons_zero, List.set_cons_succ, i64_w, i32_w]
      rfl
    refine pure_ (i := 14) (N := some 17) (v := ?_) (a' := ?_) #[true, true, true, true, false, true, true, true, true, false, true, true, true, true, true, false, false, false, false, false, false] rfl rfl (by kernel_rfl) (fun _ _ _ h => h) (Or.inl ⟨by rfl, ?_⟩) ?_ ?_
    rotate_left
    · intro w'
      go_simp
      with_reducible rfl
    rotate_left
    · simp only [Act.put, List.setIfInBounds_toArray, List.set_cons_zero, List.set_cons_succ, i64_w, i32_w]
      rfl
    refine pure_ (i := 15) (N := some 18) (v := ?_) (a' := ?_) #[true, true, true, true, false, true, true, true, true, false, true, true, true, true, true, true, false, false, false, false, false] rfl rfl (by kernel_rfl) (fun _ _ _ h => h) (Or.inl ⟨by rfl, ?_⟩) ?_ ?_
    rotate_left
    · intro w'
      go_simp
      with_reducible rfl
    rotate_left
    · simp only [Act.put, List.setIfInBounds_toArray, List.set_cons_zero, List.set_cons_succ, i64_w, i32_w]
      rfl
    refine pure_ (i := 16) (N := some 19) (v := ?_) (a' := ?_) #[true, true, true, true, false, true, true, true, true, false, true, true, true, true, true, true, true, false, false, false, false] rfl rfl (by kernel_rfl) (fun _ _ _ h => h) (Or.inl ⟨by rfl, ?_⟩) ?_ ?_
    rotate_left
    · intro w'
      go_simp
      with_reducible rfl
    rotate_left
    · simp only [Act.put, List.setIfInBounds_toArray, List.set_cons_zero, List.set_cons_succ, i64_w, i32_w]
      rfl
    refine take_ (i := 17) (N := some 20) (v := ?_) (a' := ?_) #[true, true, true, true, false, true, true, true, true, false, true, true, true, true, true, true, true, true, false, false, false] rfl rfl (by kernel_rfl) (fun _ _ _ h => h) (Or.inl ⟨by rfl, ?_⟩) hHeld ?_ ?_
    rotate_left
    · rintro w' ⟨s0, s1, s2, s3⟩
      go_simp
      with_reducible rfl
    rotate_left
    · simp only [Act.put, List.setIfInBounds_toArray, List.set_cons_zero, List.set_cons_succ, i64_w, i32_w]
      rfl
    refine one_ (i := 4) (N := some 7) #[true, true, true, true, true, true, true, true, true, false, true, true, true, true, true, true, true, true, false, false, false] rfl rfl (by kernel_rfl) (by decide) (fun K hK => ?_)
    refine goes_ Tryd.func38 (by kernel_rfl) rfl #[.slice (some ⟨L.gn, 0, none⟩) d.now.length L.cn.size] (by rfl) rfl rfl (by (try simp only [List.map_toArray, List.map_cons, List.map_nil]); first | done | rfl) ?_
    refine (HNow.out _ (Below.refl _ w).drew).mono ?_
    rintro e w1 ⟨g1, c1, rfl, h1, h2, h3, h4, h5⟩
    have HC1 := Lib.hid (copied_drew (w := w) ⟨h1, h2, h3, h4, h5⟩)
    clear h1 h2 h3 h4 h5
    refine ⟨_, rfl, ?_⟩
    refine hK.out _ _ (HS.out w1 HC1.out.2.2.2.2) (fun hHeld => ?_)
    clear hK K
    refine norm_ (a' := ?_) ?_ ?_
    rotate_left
    · simp only [Act.put, List.setIfInBounds_toArray, List.set_cons_zero, List.set_cons_succ, i64_w, i32_w]
      rfl
    refine one_ (i := 9) (N := some 12) #[true, true, true, true, true, true, true, true, true, true, true, true, true, true, true, true, true, true, false, false, false] rfl rfl (by kernel_rfl) (by decide) (fun K hK => ?_)
    refine goes_ Tryd.func38 (by kernel_rfl) rfl #[.slice (some ⟨L.go, 0, none⟩) d.old.length L.co.size] (by rfl) rfl rfl (by (try simp only [List.map_toArray, List.map_cons, List.map_nil]); first | done | rfl) ?_
    refine (HOld.out _ HC1.out.2.2.2.2).mono ?_
    rintro e w2 ⟨g2, c2, rfl, h1, h2, h3, h4, h5⟩
    have HC2 := Lib.hid (show Copied w1 d.old w2 g2 c2 from ⟨h1, h2, h3, h4, h5⟩)
    clear h1 h2 h3 h4 h5
    refine ⟨_, rfl, ?_⟩
    refine hK.out _ _ (HS.out w2 (HC1.out.2.2.2.2.trans (HC2.out.2.2.2.2.mono HC1.out.2.2.2.2.size))) (fun hHeld => ?_)
    clear hK K
    refine norm_ (a' := ?_) ?_ ?_
    rotate_left
    · simp only [Act.put, List.setIfInBounds_toArray, List.set_cons_zero, List.set_cons_succ, i64_w, i32_w]
      rfl
    refine pure_ (i := 18) (N := some 21) (v := ?_) (a' := ?_) #[true, true, true, true, true, true, true, true, true, true, true, true, true, true, true, true, true, true, true, false, false] rfl rfl (by kernel_rfl) (fun _ _ _ h => h) (Or.inl ⟨by rfl, ?_⟩) ?_ ?_
    rotate_left
    · intro w'
      go_simp
      with_reducible rfl
    rotate_left
    · simp only [Act.put, List.setIfInBounds_toArray, List.set_cons_zero, List.set_cons_succ, i64_w, i32_w]
      rfl
    refine one_ (i := 19) (N := some 22) #[true, true, true, true, true, true, true, true, true, true, true, true, true, true, true, true, true, true, true, true, false] rfl rfl (by kernel_rfl) (by decide) (fun K hK => ?_)
    refine value_ (v := .pointer (some ⟨w2.heap.size, 0, none⟩)) (w1 := w2.alloc (.cells #[.slice (some ⟨g1, 0, none⟩) d.now.length c1.size, .slice (some ⟨g2, 0, none⟩) d.old.length c2.size, .int .i64 d.next, .int .i64 d.many] 74)) (by rfl) rfl (by go_simp) ?_
    have HE := Lib.hid (clone_two HO.out HC1.out HC2.out _ rfl)
    refine hK.out _ _ (HS.out _ HE.out.2.2) (fun hHeld => ?_)
    clear hK K
    refine norm_ (a' := ?_) ?_ ?_
    rotate_left
    · simp only [Act.put, List.setIfInBounds_toArray, List.set_cons_zero, List.set_cons_succ, i64_w, i32_w]
      rfl
    refine pure_ (i := 20) (N := some 2) (v := ?_) (a' := ?_) #[true, true, true, true, true, true, true, true, true, true, true, true, true, true, true, true, true, true, true, true, true] rfl rfl (by kernel_rfl) (fun _ _ _ h => h) (Or.inl ⟨by rfl, ?_⟩) ?_ ?_
    rotate_left
    · intro w'
      go_simp
      with_reducible rfl
    rotate_left
    · simp only [Act.put, List.setIfInBounds_toArray, List.set_cons_zero, List.set_cons_succ, i64_w, i32_w]
      rfl
    refine done_ (by kernel_rfl) ?_
    go_wp2_with fail
    go_ret
    exact ⟨_, rfl, HE.out⟩
end Go.Proofs.YtflndbgaidhbaaaDoor
