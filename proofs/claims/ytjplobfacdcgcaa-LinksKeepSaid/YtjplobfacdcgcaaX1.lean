/-
  Slices.Clone at texts and at replies, and copied, walked. Conditions: those that each theorem states.
-/
import Derived.Test.YtjplobfacdcgcaaM1
import Derived.Test.YtjplobfacdcgcaaWLast
import Derived.Lib.Walk
import Derived.Lib.SliceRun
import Derived.Deep.OwnRows
namespace Go.Proofs.Ytjplobfacdcgcaa
open Go.RowKit

theorem info9 : (Try.prog.info? 9).map (fun i => (i.zero, i.size, i.bytes)) = some (some (.string ⟨#[]⟩), 1, 16) := by kernel_rfl
theorem info31 : (Try.prog.info? 31).map (fun i => (i.zero, i.size, i.bytes)) = some (some (.agg #[.int .i64 0, .int .i64 0, .string ⟨#[]⟩, .slice none 0 0]), 4, 56) := by kernel_rfl

/-- A row of the call's own: nil, or a block of cells. -/
theorem own_cases {w : World} {base e sz n : Nat} {v : Value} {xs : List Value} (h : w.ownsRow base e sz v n xs) : (v = .slice none 0 0 ∧ n = 0) ∨
    ∃ (g cap : Nat) (cur : Array Value), v = .slice (some ⟨g, 0, none⟩) n cap ∧ base ≤ g ∧ n ≤ cap ∧ cap ≤ maxLen ∧ cur.size = cap * sz ∧ w.heap[g]? = some (.cells cur e (0, 0)) ∧ (∀ (j : Nat) (u : Value), xs[j]? = some u → cur[j]? = some u) ∧ ∀ (j : Nat) (u : Value), xs[j]? = some u → w.cell? ⟨g, j, none⟩ = some u := by
  have hc := fun g => h.cells (g := g)
  rcases h.2 with h0 | ⟨g, cap, cur, rfl, hb, hg, h1, h2, h3, h4⟩
  · exact .inl h0
  · have hx : ∀ (j : Nat) (u : Value), xs[j]? = some u → w.cell? ⟨g, j, none⟩ = some u := fun j u hj => by have := hc g rfl j u hj; rwa [Addr.add_lit, Nat.zero_add] at this
    refine .inr ⟨g, cap, cur, rfl, hb, h1, h2, h3, hg, fun j u hj => ?_, hx⟩
    have := hx j u hj
    rwa [cell_of_row w g j cur e (0, 0) hg] at this

set_option maxHeartbeats 3200000 in
set_option maxRecDepth 100000 in
theorem clone23_own (a : Addr) (n c : Nat) (cells : List Value) (w : World) (hl : cells.length = n * 1) (hn : n ≤ 1000000) (hc : ∀ j u, cells[j]? = some u → w.cell? (a.add j) = some u) (h1 : ∀ u ∈ cells, u.oneCell' = true) :
    Calls Try.prog 23 #[.slice (some a) n c] w fun e w' => ∃ v', e = .returned v' ∧ w'.ownsRow w.heap.size 9 1 v' n cells ∧ Below w.heap.size w w' := by
  obtain ⟨i0, hi, hz0, hz1, hz2⟩ := info_parts info9
  have HC := Lib.hid hc
  have HL := Lib.hid hl
  have H1 := Lib.hid h1
  clear hc hl h1
  have q : ∀ (w : World) (a : Option Addr) (n c n' c' : Nat), (binOp .eql 28 (.slice a n c) (.slice none n' c')).run Try.prog w = .ok (.bool a.isNone) w := fun w a n c n' c' => Lib.run_eql_slice_nil w _ _ a n c n' c' Try.underlying28
  go_enter Try.func23, Try.ntmps23
  go_wp2_with (at_builtin; refine wpList_append_own _ rfl _ _ 28 rfl w.heap.size 9 i0 _ 1 16 Try.underlying28 hi hz0 hz1 hz2 rfl (by decide) _ _ _ rfl (World.ownsRow_made w #[] 0 (Nat.le_refl _) (Nat.zero_le _) rfl) a n c cells rfl ?qc1 ?qc2 ?qc3 ?qc4 ?qc5 ?qc6 ?_)
  case qc1 => exact HL.out
  case qc2 =>
    intro j u hj
    exact Lib.cell?_alloc_some _ (HC.out j u hj)
  case qc3 => exact H1.out
  case qc4 => unfold maxLen; omega
  case qc5 => omega
  case qc6 => simp
  intro v' w1 hown hgrow hnil
  go_wp2
  go_ret
  refine ⟨v', rfl, by simpa using hown, ?_⟩
  exact ((Below.refl _ w).alloc (Nat.le_refl _) _).grown hgrow (by simp) (by intro k hk; simp [Value.ownBlock] at hk; omega)
set_option maxHeartbeats 3200000 in
set_option maxRecDepth 100000 in
theorem clone23_nil (n c : Nat) (w : World) : Calls Try.prog 23 #[.slice none n c] w fun e w' => e = .returned (.slice none 0 0) ∧ w' = w := by
  have q : ∀ (w : World) (a : Option Addr) (n c n' c' : Nat), (binOp .eql 28 (.slice a n c) (.slice none n' c')).run Try.prog w = .ok (.bool a.isNone) w := fun w a n c n' c' => Lib.run_eql_slice_nil w _ _ a n c n' c' Try.underlying28
  go_enter Try.func23, Try.ntmps23
  go_wp2
  go_ret
  exact ⟨rfl, rfl⟩
/-- slices.Clone of texts. -/
theorem clone23_any {S : Nat → Prop} (v : Value) (l : List ByteArray) (w : World) (h : StrsAt S w v l) (hl : l.length ≤ 1000000) :
    Calls Try.prog 23 #[v] w fun e w' => ∃ v', e = .returned v' ∧ StrsAt (Fro w.heap.size) w' v' l ∧ Below w.heap.size w w' := by
  obtain ⟨A, c, rfl, h⟩ := h
  cases A with
  | none =>
    refine (clone23_nil l.length c w).mono ?_
    rintro e w' ⟨rfl, rfl⟩
    refine ⟨_, rfl, ?_, Below.refl _ _⟩
    cases l with
    | nil => exact StrsAt.nil _ _ _ _
    | cons s l => obtain ⟨b, off, hA, _⟩ := h 0 s rfl; cases hA
  | some a =>
    refine (clone23_own a l.length c (l.map .string) w (by simp) hl (fun j u hj => ?_) (fun u hu => ?_)).mono ?_
    · rw [List.getElem?_map] at hj
      obtain ⟨s, hs, rfl⟩ := Option.map_eq_some_iff.1 hj
      obtain ⟨b, off, hA, _, hc⟩ := h j s hs
      cases hA
      rw [Addr.add_lit]; exact hc
    · obtain ⟨s, _, rfl⟩ := List.mem_map.1 hu; rfl
    · rintro e w' ⟨v', rfl, ho, hb⟩
      refine ⟨v', rfl, ?_, hb⟩
      rcases own_cases ho with ⟨rfl, h0⟩ | ⟨g, cap, cur, rfl, hg, _, _, _, _, _, hx⟩
      · obtain rfl := List.eq_nil_of_length_eq_zero h0
        exact StrsAt.nil _ _ _ _
      · exact ⟨_, _, rfl, fun j s hj => ⟨g, 0, rfl, hg, by rw [Nat.zero_add]; exact hx j _ (by rw [List.getElem?_map, hj]; rfl)⟩⟩

set_option maxHeartbeats 3200000 in
set_option maxRecDepth 100000 in
theorem clone34_own (a : Addr) (n c : Nat) (cells : List Value) (w : World) (hl : cells.length = n * 4) (hn : n ≤ 1000000) (hc : ∀ j u, cells[j]? = some u → w.cell? (a.add j) = some u) (h1 : ∀ u ∈ cells, u.oneCell' = true) :
    Calls Try.prog 34 #[.slice (some a) n c] w fun e w' => ∃ v', e = .returned v' ∧ w'.ownsRow w.heap.size 31 4 v' n cells ∧ Below w.heap.size w w' := by
  obtain ⟨i0, hi, hz0, hz1, hz2⟩ := info_parts info31
  have HC := Lib.hid hc
  have HL := Lib.hid hl
  have H1 := Lib.hid h1
  clear hc hl h1
  have q : ∀ (w : World) (a : Option Addr) (n c n' c' : Nat), (binOp .eql 29 (.slice a n c) (.slice none n' c')).run Try.prog w = .ok (.bool a.isNone) w := fun w a n c n' c' => Lib.run_eql_slice_nil w _ _ a n c n' c' Try.underlying29
  go_enter Try.func34, Try.ntmps34
  go_wp2_with (at_builtin; refine wpList_append_own _ rfl _ _ 29 rfl w.heap.size 31 i0 _ 4 56 Try.underlying29 hi hz0 hz1 hz2 rfl (by decide) _ _ _ rfl (World.ownsRow_made w #[] 0 (Nat.le_refl _) (Nat.zero_le _) rfl) a n c cells rfl ?qc1 ?qc2 ?qc3 ?qc4 ?qc5 ?qc6 ?_)
  case qc1 => exact HL.out
  case qc2 =>
    intro j u hj
    exact Lib.cell?_alloc_some _ (HC.out j u hj)
  case qc3 => exact H1.out
  case qc4 => unfold maxLen; omega
  case qc5 => omega
  case qc6 => simp
  intro v' w1 hown hgrow hnil
  go_wp2
  go_ret
  refine ⟨v', rfl, by simpa using hown, ?_⟩
  exact ((Below.refl _ w).alloc (Nat.le_refl _) _).grown hgrow (by simp) (by intro k hk; simp [Value.ownBlock] at hk; omega)
set_option maxHeartbeats 3200000 in
set_option maxRecDepth 100000 in
theorem clone34_nil (n c : Nat) (w : World) : Calls Try.prog 34 #[.slice none n c] w fun e w' => e = .returned (.slice none 0 0) ∧ w' = w := by
  have q : ∀ (w : World) (a : Option Addr) (n c n' c' : Nat), (binOp .eql 29 (.slice a n c) (.slice none n' c')).run Try.prog w = .ok (.bool a.isNone) w := fun w a n c n' c' => Lib.run_eql_slice_nil w _ _ a n c n' c' Try.underlying29
  go_enter Try.func34, Try.ntmps34
  go_wp2
  go_ret
  exact ⟨rfl, rfl⟩
end Go.Proofs.Ytjplobfacdcgcaa
