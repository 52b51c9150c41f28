/-
  How two pairs are compared, walked: cmp.Compare, slices.Compare, the closure of Pairs. Conditions: those that each theorem states.
-/
import Derived.Test.YtjplobfacdcgcaaX4
import Derived.Test.YtjplobfacdcgcaaSh
import Derived.Outline
namespace Go.Proofs.Ytjplobfacdcgcaa
open Go.RowKit Go.Proofs.YtjplobfacdcgcaaW.PrintLast

def cmpI (a b : Int) : Int := if a < b then -1 else if b < a then 1 else 0
def cmp2 (p q : Pr) : Int := if cmpI p.1 q.1 = 0 then cmpI p.2 q.2 else cmpI p.1 q.1
theorem cmpI_zero {a b : Int} : cmpI a b = 0 ↔ a = b := by
  unfold cmpI
  by_cases h : a < b
  · rw [if_pos h]; constructor <;> intro h' <;> omega
  · rw [if_neg h]
    by_cases k : b < a
    · rw [if_pos k]; constructor <;> intro h' <;> omega
    · rw [if_neg k]; constructor <;> intro h' <;> omega
theorem cmpI_neg {a b : Int} : cmpI a b < 0 ↔ a < b := by
  unfold cmpI
  by_cases h : a < b
  · rw [if_pos h]; constructor <;> intro h' <;> omega
  · rw [if_neg h]
    by_cases k : b < a
    · rw [if_pos k]; constructor <;> intro h' <;> omega
    · rw [if_neg k]; constructor <;> intro h' <;> omega
theorem cmp2_lt (p q : Pr) : decide (cmp2 p q < 0) = lt2 p q := by
  rw [Bool.eq_iff_iff, decide_eq_true_eq, lt2_iff]
  unfold cmp2
  by_cases h : cmpI p.1 q.1 = 0
  · rw [if_pos h, cmpI_neg]
    have := cmpI_zero.1 h
    constructor
    · intro h'; exact .inr ⟨this, h'⟩
    · rintro (h' | ⟨_, h'⟩)
      · omega
      · exact h'
  · rw [if_neg h, cmpI_neg]
    have : ¬ p.1 = q.1 := fun e => h (cmpI_zero.2 e)
    constructor
    · intro h'; exact .inl h'
    · rintro (h' | ⟨h', _⟩)
      · exact h'
      · exact absurd h' this

set_option maxHeartbeats 800000 in
theorem isNaN_any (a : Int) (w : World) : Calls Try.prog 43 #[.int .i64 a] w fun e w' => e = .returned (.bool false) ∧ w = w' := by
  have ha : (a != a) = false := by simp
  go_enter Try.func43, Try.ntmps43
  go_wp2
  go_ret
  exact ⟨by simp, rfl⟩

set_option maxHeartbeats 800000 in
theorem compare_any (a b : Int) (w : World) : Calls Try.prog 38 #[.int .i64 a, .int .i64 b] w fun e w' => e = .returned (.int .i64 (cmpI a b)) ∧ w = w' := by
  unfold cmpI
  rcases Int.lt_trichotomy a b with h | h | h
  · have HC := Lib.hid (show (if a < b then (-1 : Int) else if b < a then 1 else 0) = -1 by rw [if_pos h])
    go_enter Try.func38, Try.ntmps38
    go_wp2_with (go_at_call 43; refine (isNaN_any _ _).mono ?_; rintro e w' ⟨rfl, rfl⟩)
    go_ret
    exact ⟨rfl, rfl⟩
  · subst h
    have h1 : ¬ a < a := by omega
    go_enter Try.func38, Try.ntmps38
    go_wp2_with (go_at_call 43; refine (isNaN_any _ _).mono ?_; rintro e w' ⟨rfl, rfl⟩)
    go_ret
    exact ⟨rfl, rfl⟩
  · have HC := Lib.hid (show (if a < b then (-1 : Int) else if b < a then 1 else 0) = 1 by rw [if_neg (by omega), if_pos h])
    have h1 : ¬ a < b := by omega
    go_enter Try.func38, Try.ntmps38
    go_wp2_with (go_at_call 43; refine (isNaN_any _ _).mono ?_; rintro e w' ⟨rfl, rfl⟩)
    go_ret
    exact ⟨rfl, rfl⟩

set_option maxHeartbeats 3200000 in
theorem scompare_any (b1 b2 : Nat) (p q : Pr) (w : World) (h1 : w.cell? ⟨b1, 0, none⟩ = some (.int .i64 p.1)) (h2 : w.cell? ⟨b1, 1, none⟩ = some (.int .i64 p.2)) (h3 : w.cell? ⟨b2, 0, none⟩ = some (.int .i64 q.1)) (h4 : w.cell? ⟨b2, 1, none⟩ = some (.int .i64 q.2)) :
    Calls Try.prog 31 #[.slice (some ⟨b1, 0, none⟩) 2 2, .slice (some ⟨b2, 0, none⟩) 2 2] w fun e w' => e = .returned (.int .i64 (cmp2 p q)) ∧ w = w' := by
  obtain ⟨p1, p2⟩ := p
  obtain ⟨q1, q2⟩ := q
  simp only at h1 h2 h3 h4
  have HC := Lib.hid (show cmp2 (p1, p2) (q1, q2) = if cmpI p1 q1 = 0 then cmpI p2 q2 else cmpI p1 q1 from rfl)
  generalize cmp2 (p1, p2) (q1, q2) = r at HC ⊢
  have C1 := Lib.hid (compare_any p1 q1)
  have C2 := Lib.hid (compare_any p2 q2)
  generalize cmpI p1 q1 = x1 at HC C1
  generalize cmpI p2 q2 = x2 at HC C2
  go_enter Try.func31, Try.ntmps31
  go_wp2
  go_loop [11] (fun i => i = .int .i64 0 ∨ (i = .int .i64 1 ∧ x1 = 0) ∨ (i = .int .i64 2 ∧ x1 = 0 ∧ x2 = 0)) (fun i => 2 - (intOf i).toNat)
  case atStart => exact .inl rfl
  case round =>
    rcases hrel with rfl | ⟨rfl, rfl⟩ | ⟨rfl, rfl, rfl⟩
    · by_cases hx : x1 = 0
      · have HX := Lib.hid hx
        have hxb : (x1 != 0) = false := by simp [hx]
        clear hx
        go_wp2_with (go_at_call 38; refine (C1.out _).mono ?_; rintro e w' ⟨rfl, rfl⟩)
        go_round
        case rel => exact .inr (.inl ⟨rfl, HX.out⟩)
        case measure => simp [intOf]
      · have HX := Lib.hid hx
        have hxb : (x1 != 0) = true := by simp [hx]
        clear hx
        go_wp2_with (go_at_call 38; refine (C1.out _).mono ?_; rintro e w' ⟨rfl, rfl⟩)
        go_ret
        exact ⟨by rw [HC.out, if_neg HX.out]; rfl, rfl⟩
    · by_cases hx : x2 = 0
      · have HX := Lib.hid hx
        have hxb : (x2 != 0) = false := by simp [hx]
        clear hx
        go_wp2_with (go_at_call 38; refine (C2.out _).mono ?_; rintro e w' ⟨rfl, rfl⟩)
        go_round
        case rel => exact .inr (.inr (by simp [HX.out]))
        case measure => simp [intOf]
      · have HX := Lib.hid hx
        have hxb : (x2 != 0) = true := by simp [hx]
        clear hx
        go_wp2_with (go_at_call 38; refine (C2.out _).mono ?_; rintro e w' ⟨rfl, rfl⟩)
        go_ret
        exact ⟨by have h := HC.out; simp at h; rw [h]; rfl, rfl⟩
    · go_wp2
      go_ret
      exact ⟨by have h := HC.out; simp at h; rw [h]; rfl, rfl⟩

set_option maxHeartbeats 3200000 in
theorem closure_any (p q : Pr) (w : World) : Calls Try.prog 30 #[.agg #[.int .i64 p.1, .int .i64 p.2], .agg #[.int .i64 q.1, .int .i64 q.2]] w fun e w' =>
    e = .returned (.int .i64 (cmp2 p q)) ∧ ∃ n, w' = ((w.alloc (.cells #[.int .i64 p.1, .int .i64 p.2] 40)).alloc (.cells #[.int .i64 q.1, .int .i64 q.2] 40)).drewN n := by
  obtain ⟨p1, p2⟩ := p
  obtain ⟨q1, q2⟩ := q
  have hx : ((w.alloc (.cells #[.int .i64 p1, .int .i64 p2] 40)).alloc (.cells #[.int .i64 q1, .int .i64 q2] 40)).heap[w.heap.size]? = some (.cells #[.int .i64 p1, .int .i64 p2] 40 (0, 0)) := (Below.heap_alloc _ _ _ (by simp)).trans (World.alloc_heap_new w _)
  have hy : ((w.alloc (.cells #[.int .i64 p1, .int .i64 p2] 40)).alloc (.cells #[.int .i64 q1, .int .i64 q2] 40)).heap[w.heap.size + 1]? = some (.cells #[.int .i64 q1, .int .i64 q2] 40 (0, 0)) := by
    have := World.alloc_heap_new (w.alloc (.cells #[.int .i64 p1, .int .i64 p2] 40)) (.cells #[.int .i64 q1, .int .i64 q2] 40)
    rwa [World.size_alloc] at this
  have HC := Lib.hid (fun (w' : World) (hw : w'.heap = ((w.alloc (.cells #[.int .i64 p1, .int .i64 p2] 40)).alloc (.cells #[.int .i64 q1, .int .i64 q2] 40)).heap) =>
    scompare_any w.heap.size (w.heap.size + 1) (p1, p2) (q1, q2) w' (by rw [cell_of_row w' _ _ _ _ _ (by rw [hw]; exact hx)]; rfl) (by rw [cell_of_row w' _ _ _ _ _ (by rw [hw]; exact hx)]; rfl) (by rw [cell_of_row w' _ _ _ _ _ (by rw [hw]; exact hy)]; rfl) (by rw [cell_of_row w' _ _ _ _ _ (by rw [hw]; exact hy)]; rfl))
  clear hx hy
  go_enter Try.func30, Try.ntmps30
  go_wp2
  obtain ⟨W, hW⟩ : ∃ W, W = ((w.alloc (.cells #[.int .i64 p1, .int .i64 p2] 40)).alloc (.cells #[.int .i64 q1, .int .i64 q2] 40)).drew := ⟨_, rfl⟩
  have HW := Lib.hid hW
  clear hW
  refine start_ (n := 4) (S := fun w' => w'.heap = W.heap) (ds := []) #[false, false, false, false] (by kernel_rfl) rfl rfl (by rw [← HW.out]) (fun hHeld => ?_)
  rw [← HW.out] at hHeld ⊢
  refine pure_ (i := 0) (N := some 5) (v := ?_) (a' := ?_) #[true, false, false, false] rfl rfl (by kernel_rfl) (fun _ _ _ h => h) (Or.inl ⟨by rfl, ?_⟩) ?_ ?_
  rotate_left
  · intro w'
    go_simp
    with_reducible rfl
  rotate_left
  · simp only [Act.put, List.setIfInBounds_toArray, List.set_cons_zero, List.set_cons_succ, i64_w, i32_w]
    rfl
  refine pure_ (i := 1) (N := some 6) (v := ?_) (a' := ?_) #[true, true, false, false] rfl rfl (by kernel_rfl) (fun _ _ _ h => h) (Or.inl ⟨by rfl, ?_⟩) ?_ ?_
  rotate_left
  · intro w'
    go_simp
    with_reducible rfl
  rotate_left
  · simp only [Act.put, List.setIfInBounds_toArray, List.set_cons_zero, List.set_cons_succ, i64_w, i32_w]
    rfl
  refine one_ (i := 2) (N := some 7) #[true, true, true, false] rfl rfl (by kernel_rfl) (by decide) (fun K hK => ?_)
  refine goes_ Try.func31 (by kernel_rfl) rfl #[.slice (some ⟨w.heap.size, 0, none⟩) 2 2, .slice (some ⟨w.heap.size + 1, 0, none⟩) 2 2] (by rfl) rfl rfl (by (try simp only [List.map_toArray, List.map_cons, List.map_nil]); first | done | rfl) ?_
  refine (HC.out W (by rw [HW.out]; rfl)).mono ?_
  rintro ee w7 ⟨rfl, rfl⟩
  refine ⟨_, rfl, ?_⟩
  refine hK.out _ _ rfl (fun hHeld => ?_)
  clear hK K
  refine norm_ (a' := ?_) ?_ ?_
  rotate_left
  · simp only [Act.put, List.setIfInBounds_toArray, List.set_cons_zero, List.set_cons_succ, i64_w, i32_w]
    rfl
  refine pure_ (i := 3) (N := some 4) (v := ?_) (a' := ?_) #[true, true, true, true] rfl rfl (by kernel_rfl) (fun _ _ _ h => h) (Or.inl ⟨by rfl, ?_⟩) ?_ ?_
  rotate_left
  · intro w'
    go_simp
    with_reducible rfl
  rotate_left
  · simp only [Act.put, List.setIfInBounds_toArray, List.set_cons_zero, List.set_cons_succ, i64_w, i32_w]
    rfl
  refine done_ (by kernel_rfl) ?_
  go_wp2
  go_ret
  exact ⟨rfl, 1, HW.out⟩
end Go.Proofs.Ytjplobfacdcgcaa
