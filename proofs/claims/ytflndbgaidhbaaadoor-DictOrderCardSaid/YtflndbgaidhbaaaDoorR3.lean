/-
  The reference's Delete, walked. Conditions: those that each theorem states.
-/
import Derived.Test.YtflndbgaidhbaaaDoorR2
namespace Go.Proofs.YtflndbgaidhbaaaDoor
open Go.RowKit Dm

/-- The reference's rows without a name. -/
def rdel (n : Nm) (l : Room Int) : Room Int := l.filter fun x => !(x.1 == n)
def rshrink (m rooms left : Nat) : Nat × Nat := if left = 0 ∧ 4 < rooms ∧ 4 * m < rooms then (rooms / 2, rooms) else (rooms, left)
theorem rdel_next {l : Room Int} {j : Nat} {x : Nm × Int} (h : l.take (j + 1) = l.take j ++ [x]) (n : Nm) : rdel n (l.take (j + 1)) = if x.1 = n then rdel n (l.take j) else rdel n (l.take j) ++ [x] := by
  rw [h]
  unfold rdel
  rw [List.filter_append]
  by_cases hx : x.1 = n <;> simp [hx]
theorem rdel_len (n : Nm) (l : Room Int) : (rdel n l).length ≤ l.length := List.length_filter_le _ _

set_option maxHeartbeats 6400000 in
set_option maxRecDepth 100000 in
theorem rdel_any (v0 : Value) (l : Room Int) (rooms left : Nat) (s : ByteArray) (w : World) (hr : RowR w v0 l) (hl : l.length ≤ 400000) (hro : rooms ≤ 1000000) (hlf : left ≤ 1000000) :
    Calls Tryd.prog 33 #[refV v0 rooms left, .string s] w fun e w' => ∃ v', e = .returned (.tuple #[refV v' (rshrink (rdel s.data.toList l).length rooms (left - 1)).1 (rshrink (rdel s.data.toList l).length rooms (left - 1)).2, .bool (decide ((rdel s.data.toList l).length < l.length))]) ∧
      RowR w' v' (rdel s.data.toList l) ∧ (∀ b, rb v' = some b → w.heap.size ≤ b) ∧ Below w.heap.size w w' := by
  unfold refV
  obtain ⟨A, c, rfl, _, _⟩ := hr.shape
  have HR := Lib.hid hr
  clear hr
  have HS := Lib.hid (fun w' => rstep_any A l.length c rooms left w' hlf)
  have hlf1 : left - 1 ≤ 1000000 := by omega
  generalize left - 1 = lf at HS hlf1 ⊢
  unfold refV at HS
  go_enter Tryd.func33, Tryd.ntmps33
  go_wp2_with fail
  refine (HS.out _).mono ?_
  rintro e w1 ⟨rfl, hb1⟩
  have hx3 := (hb1.block w.heap.size (by simp; omega)).trans ((heap_alloc_old _ _ (by simp)).trans (heap_alloc_new w (.cells #[.slice A l.length c, .int .i64 rooms, .int .i64 left] 38)))
  have hx6 := (hb1.block (w.heap.size + 1) (by simp)).trans (heap_alloc2_new w (.cells #[.slice A l.length c, .int .i64 rooms, .int .i64 left] 38) (.cells #[.slice none 0 0, .int .i64 0, .int .i64 0] 38))
  have hbw : Below w.heap.size w w1 := (((Below.refl _ w).alloc (Nat.le_refl _) _).alloc (by simp) _).trans (hb1.mono (by simp; omega))
  clear HS hb1
  have c0 : w1.cell? ⟨w.heap.size, 0, none⟩ = some (.slice A l.length c) := by rw [cell_of_row w1 _ 0 _ _ (0, 0) hx3]; rfl
  have c1 : w1.cell? ⟨w.heap.size, 1, none⟩ = some (.int .i64 rooms) := by rw [cell_of_row w1 _ 1 _ _ (0, 0) hx3]; rfl
  have c2 : w1.cell? ⟨w.heap.size, 2, none⟩ = some (.int .i64 left) := by rw [cell_of_row w1 _ 2 _ _ (0, 0) hx3]; rfl
  have f3 : ∀ i, w1.frozen? ⟨w.heap.size, i, none⟩ = false := fun i => by simp [World.frozen?, hx3]
  have HX3 := Lib.hid hx3
  have HX6 := Lib.hid hx6
  have HBW := Lib.hid hbw
  clear hx3 hx6 hbw
  go_wp2_with fail
  obtain ⟨W, hW⟩ : ∃ W, W = ((w1.setCell ⟨w.heap.size, 0, none⟩ (.slice A l.length c)).setCell ⟨w.heap.size, 1, none⟩ (.int .i64 rooms)).setCell ⟨w.heap.size, 2, none⟩ (.int .i64 lf) := ⟨_, rfl⟩
  rw [← hW]
  have hx3 : W.heap[w.heap.size]? = some (.cells #[.slice A l.length c, .int .i64 rooms, .int .i64 lf] 38 (0, 0)) := by rw [hW, setCell_blk (setCell_blk (setCell_blk HX3.out _) _) _]; rfl
  have hx6 : W.heap[w.heap.size + 1]? = some (.cells #[.slice none 0 0, .int .i64 0, .int .i64 0] 38 (0, 0)) := by rw [hW, setCell_far _ (by omega), setCell_far _ (by omega), setCell_far _ (by omega)]; exact HX6.out
  have HBW2 := Lib.hid (show Below w.heap.size w W by rw [hW]; exact ((HBW.out.setCell (p := ⟨w.heap.size, 0, none⟩) (Nat.le_refl _) _).setCell (p := ⟨w.heap.size, 1, none⟩) (Nat.le_refl _) _).setCell (p := ⟨w.heap.size, 2, none⟩) (Nat.le_refl _) _)
  have HX3W := Lib.hid hx3
  have HX6W := Lib.hid hx6
  have hlt6 := lt_of_heap hx6
  clear hW HX3 HX6 HBW c0 c1 c2 f3 hx3 hx6
  go_loopw [6, 7] (fun a i wr => ∃ (j : Nat), j ≤ l.length ∧ i = .int .i64 (j : Int) ∧ RowN W wr a (rdel s.data.toList (l.take j))) (fun _ i _ => l.length - (intOf i).toNat)
  case atStart => exact ⟨0, Nat.zero_le _, rfl, by simpa [rdel] using RowN.start W⟩
  case round =>
    obtain ⟨j, hj, rfl, hN⟩ := hrel
    have hx3 := (hN.2.2.block w.heap.size (by omega)).trans HX3W.out
    have c0 : wr.cell? ⟨w.heap.size, 0, none⟩ = some (.slice A l.length c) := by rw [cell_of_row wr _ 0 _ _ (0, 0) hx3]; rfl
    obtain ⟨Aa, ca, rfl, _, _⟩ := hN.1.shape
    have hal : (rdel s.data.toList (l.take j)).length ≤ j := by have := rdel_len s.data.toList (l.take j); rw [List.length_take] at this; omega
    by_cases hjl : j < l.length
    · have hx : l[j]? = some l[j] := List.getElem?_eq_getElem hjl
      obtain ⟨g2, cap2, he, hrb, hit⟩ := (HR.out.kept fun b hb => (HBW2.out.trans (hN.2.2.mono HBW2.out.size)).block b (HR.out.lt hb).1).item KI.hs hx
      injection he with he1 he2 he3
      subst he1
      clear he2 he3
      have hcx0 := (hit 0 _ rfl).1
      have hcx1 := (hit 1 _ rfl).1
      have HX := Lib.hid (rdel_next (take_next1 hx) s.data.toList)
      generalize l[j] = x at hcx0 hcx1 HX
      obtain ⟨m, vx⟩ := x
      simp only [encStr] at hcx0
      simp only [Nat.add_zero] at hcx0
      have HN := Lib.hid hN
      obtain ⟨i0, hi0_, hz0_, hz1_, hz2_⟩ := info_parts info71
      clear hN hx hit hrb hx3
      by_cases hm : m = s.data.toList
      · have hd : (m == s.toList) = true := by rw [ByteArray.toList_eq]; simpa using hm
        have HX2 := Lib.hid (HX.out.trans (if_pos hm))
        clear hm HX
        go_wp2_with fail
        go_roundw
        case rel => exact ⟨j + 1, by omega, by go_num, by rw [HX2.out]; exact HN.out⟩
        case measure => simp [intOf]; omega
      · have hd : (m == s.toList) = false := by rw [ByteArray.toList_eq]; simpa using hm
        have HX2 := Lib.hid (HX.out.trans (if_neg hm))
        clear hm HX
        generalize rdel s.data.toList (l.take j) = acc at HX2 HN hal ⊢
        go_wp2_with (at_builtin; refine wpList_append_room_ KI.hs KI.h1 rfl (.tmp 29) (.tmp 35) 36 rfl _ i0 _ 24 Tryd.underlying36 hi0_ hz0_ hz1_ hz2_ rfl (.slice Aa acc.length ca) acc ?q1 ?q2 (m, vx) ⟨wr.heap.size, 0, none⟩ 1 ?q3 ?q4 ?q5 ?q6 ?_)
        try (case q1 => rfl)
        try (case q3 => rfl)
        case q2 => exact (HN.out.alloc _).1
        case q4 => first | (intro i u h; exact h) | exact World.news_of_block (heap_alloc_new _ _)
        case q5 => omega
        case q6 => unfold maxLen; omega
        intro g3 cap3 w5 hr5 hg5 hat5
        have HN5 := Lib.hid ((HN.out.alloc (.cells #[.string ⟨m.toArray⟩, .int .i64 vx] 71)).next hr5 hg5 (fun b hb => by
          obtain rfl : g3 = b := by simpa [rb] using hb
          rcases hat5 with h | h
          · exact .inl h
          · exact .inr (by simpa using h)))
        clear hr5 hg5 hat5 hcx0 hcx1 HN
        go_wp2_with fail
        go_roundw
        case rel => exact ⟨j + 1, by omega, by go_num, by rw [HX2.out]; exact HN5.out⟩
        case measure => simp [intOf]; omega
    · have hje : j = l.length := by omega
      have hjl2 : decide ((j : Int) < (l.length : Int)) = false := decide_eq_false (by omega)
      have hx6 := (hN.2.2.block (w.heap.size + 1) hlt6).trans HX6W.out
      rw [hje, List.take_length] at hN
      obtain ⟨acc, hacc⟩ : ∃ acc, acc = rdel s.data.toList l := ⟨_, rfl⟩
      have hal2 : acc.length ≤ l.length := by rw [hacc]; exact rdel_len _ _
      have hlen : (rdel s.data.toList (l.take j)).length = acc.length := by rw [hje, List.take_length, hacc]
      have HI2 := Lib.hid hacc.symm
      rw [hlen]
      rw [← hacc] at hN
      have HNf := Lib.hid hN
      have hwas : decide ((acc.length : Int) < (l.length : Int)) = decide (acc.length < l.length) := by simp
      have HW := Lib.hid (show decide (acc.length < l.length) = decide ((acc.length : Int) < (l.length : Int)) from hwas.symm)
      clear hje hN hacc hlen hwas hal
      have c1 : wr.cell? ⟨w.heap.size, 1, none⟩ = some (.int .i64 rooms) := by rw [cell_of_row wr _ 1 _ _ (0, 0) hx3]; rfl
      have c2 : wr.cell? ⟨w.heap.size, 2, none⟩ = some (.int .i64 lf) := by rw [cell_of_row wr _ 2 _ _ (0, 0) hx3]; rfl
      have f3 : ∀ i, wr.frozen? ⟨w.heap.size, i, none⟩ = false := fun i => by simp [World.frozen?, hx3]
      have d0 : wr.cell? ⟨w.heap.size + 1, 0, none⟩ = some (.slice none 0 0) := by rw [cell_of_row wr _ 0 _ _ (0, 0) hx6]; rfl
      have d1 : wr.cell? ⟨w.heap.size + 1, 1, none⟩ = some (.int .i64 0) := by rw [cell_of_row wr _ 1 _ _ (0, 0) hx6]; rfl
      have d2 : wr.cell? ⟨w.heap.size + 1, 2, none⟩ = some (.int .i64 0) := by rw [cell_of_row wr _ 2 _ _ (0, 0) hx6]; rfl
      have f6 : ∀ i, wr.frozen? ⟨w.heap.size + 1, i, none⟩ = false := fun i => by simp [World.frozen?, hx6]
      have hh : Int.tdiv (rooms : Int) 2 = ((rooms / 2 : Nat) : Int) := by rw [Int.tdiv_eq_ediv_of_nonneg (by omega)]; omega
      by_cases hz : lf = 0
      · have hz1 : ((lf : Int) == 0) = true := by rw [beq_iff_eq]; omega
        by_cases h4 : 4 < rooms
        · have hg1 : decide ((rooms : Int) > 4) = true := decide_eq_true (by omega)
          have hg2 : decide (4 < (rooms : Int)) = true := decide_eq_true (by omega)
          have hg3 : decide (4 < rooms) = true := decide_eq_true (by omega)
          by_cases hq : 4 * acc.length < rooms
          · have hq1 : decide (4 * (acc.length : Int) < (rooms : Int)) = true := decide_eq_true (by omega)
            have HGr := Lib.hid (show rshrink acc.length rooms lf = (rooms / 2, rooms) by unfold rshrink; rw [if_pos ⟨hz, h4, hq⟩])
            clear hz h4 hq
            go_wp2_with fail
            have hxF : ((((((wr.setCell ⟨w.heap.size, 0, none⟩ (.slice Aa acc.length ca)).setCell ⟨w.heap.size, 2, none⟩ (.int .i64 rooms)).setCell ⟨w.heap.size, 1, none⟩ (.int .i64 ((rooms / 2 : Nat) : Int))).setCell ⟨w.heap.size + 1, 0, none⟩ (.slice Aa acc.length ca)).setCell ⟨w.heap.size + 1, 1, none⟩ (.int .i64 ((rooms / 2 : Nat) : Int))).setCell ⟨w.heap.size + 1, 2, none⟩ (.int .i64 rooms)).heap[w.heap.size + 1]? = some (.cells #[(.slice Aa acc.length ca), .int .i64 ((rooms / 2 : Nat) : Int), .int .i64 rooms] 38 (0, 0)) := by
              refine setCell_blk (setCell_blk (setCell_blk (w := (((wr.setCell ⟨w.heap.size, 0, none⟩ (.slice Aa acc.length ca)).setCell ⟨w.heap.size, 2, none⟩ (.int .i64 rooms)).setCell ⟨w.heap.size, 1, none⟩ (.int .i64 ((rooms / 2 : Nat) : Int)))) (cs := #[.slice none 0 0, .int .i64 0, .int .i64 0]) ?_ _) _) _
              rw [setCell_far _ (by omega), setCell_far _ (by omega), setCell_far _ (by omega)]
              exact hx6
            refine bodyPost_ret (results_row_tmp rfl _ _ (w.heap.size + 1) 38 #[(.slice Aa acc.length ca), .int .i64 ((rooms / 2 : Nat) : Int), .int .i64 rooms] (0, 0) _ rfl hxF Tryd.underlying38 rfl (by kernel_rfl)) rfl ?_
            have hE := rfin hlt6 HBW2.out HNf.out ((((((wr.setCell ⟨w.heap.size, 0, none⟩ (.slice Aa acc.length ca)).setCell ⟨w.heap.size, 2, none⟩ (.int .i64 rooms)).setCell ⟨w.heap.size, 1, none⟩ (.int .i64 ((rooms / 2 : Nat) : Int))).setCell ⟨w.heap.size + 1, 0, none⟩ (.slice Aa acc.length ca)).setCell ⟨w.heap.size + 1, 1, none⟩ (.int .i64 ((rooms / 2 : Nat) : Int))).setCell ⟨w.heap.size + 1, 2, none⟩ (.int .i64 rooms)) (((((((Fr.refl (fun k => k = w.heap.size ∨ k = w.heap.size + 1) wr).setCell (p := ⟨w.heap.size, 0, none⟩) (.inl (.inl rfl)) (.slice Aa acc.length ca)).setCell (p := ⟨w.heap.size, 2, none⟩) (.inl (.inl rfl)) (.int .i64 rooms)).setCell (p := ⟨w.heap.size, 1, none⟩) (.inl (.inl rfl)) (.int .i64 ((rooms / 2 : Nat) : Int))).setCell (p := ⟨w.heap.size + 1, 0, none⟩) (.inl (.inr rfl)) (.slice Aa acc.length ca)).setCell (p := ⟨w.heap.size + 1, 1, none⟩) (.inl (.inr rfl)) (.int .i64 ((rooms / 2 : Nat) : Int))).setCell (p := ⟨w.heap.size + 1, 2, none⟩) (.inl (.inr rfl)) (.int .i64 rooms))
            rw [HI2.out, HW.out, HGr.out]
            exact ⟨_, rfl, hE⟩
          · have hq1 : decide (4 * (acc.length : Int) < (rooms : Int)) = false := decide_eq_false (by omega)
            have HGr := Lib.hid (show rshrink acc.length rooms lf = (rooms, lf) by unfold rshrink; rw [if_neg (fun h => hq h.2.2)])
            clear hz h4 hq
            go_wp2_with fail
            have hxF : ((((wr.setCell ⟨w.heap.size, 0, none⟩ (.slice Aa acc.length ca)).setCell ⟨w.heap.size + 1, 0, none⟩ (.slice Aa acc.length ca)).setCell ⟨w.heap.size + 1, 1, none⟩ (.int .i64 rooms)).setCell ⟨w.heap.size + 1, 2, none⟩ (.int .i64 lf)).heap[w.heap.size + 1]? = some (.cells #[(.slice Aa acc.length ca), .int .i64 rooms, .int .i64 lf] 38 (0, 0)) := by
              refine setCell_blk (setCell_blk (setCell_blk (w := (wr.setCell ⟨w.heap.size, 0, none⟩ (.slice Aa acc.length ca))) (cs := #[.slice none 0 0, .int .i64 0, .int .i64 0]) ?_ _) _) _
              rw [setCell_far _ (by omega)]
              exact hx6
            refine bodyPost_ret (results_row_tmp rfl _ _ (w.heap.size + 1) 38 #[(.slice Aa acc.length ca), .int .i64 rooms, .int .i64 lf] (0, 0) _ rfl hxF Tryd.underlying38 rfl (by kernel_rfl)) rfl ?_
            have hE := rfin hlt6 HBW2.out HNf.out ((((wr.setCell ⟨w.heap.size, 0, none⟩ (.slice Aa acc.length ca)).setCell ⟨w.heap.size + 1, 0, none⟩ (.slice Aa acc.length ca)).setCell ⟨w.heap.size + 1, 1, none⟩ (.int .i64 rooms)).setCell ⟨w.heap.size + 1, 2, none⟩ (.int .i64 lf)) (((((Fr.refl (fun k => k = w.heap.size ∨ k = w.heap.size + 1) wr).setCell (p := ⟨w.heap.size, 0, none⟩) (.inl (.inl rfl)) (.slice Aa acc.length ca)).setCell (p := ⟨w.heap.size + 1, 0, none⟩) (.inl (.inr rfl)) (.slice Aa acc.length ca)).setCell (p := ⟨w.heap.size + 1, 1, none⟩) (.inl (.inr rfl)) (.int .i64 rooms)).setCell (p := ⟨w.heap.size + 1, 2, none⟩) (.inl (.inr rfl)) (.int .i64 lf))
            rw [HI2.out, HW.out, HGr.out]
            exact ⟨_, rfl, hE⟩
        · have hg1 : decide ((rooms : Int) > 4) = false := decide_eq_false (by omega)
          have hg2 : decide (4 < (rooms : Int)) = false := decide_eq_false (by omega)
          have hg3 : decide (4 < rooms) = false := decide_eq_false (by omega)
          have HGr := Lib.hid (show rshrink acc.length rooms lf = (rooms, lf) by unfold rshrink; rw [if_neg (fun h => h4 h.2.1)])
          clear hz h4
          go_wp2_with fail
          have hxF : ((((wr.setCell ⟨w.heap.size, 0, none⟩ (.slice Aa acc.length ca)).setCell ⟨w.heap.size + 1, 0, none⟩ (.slice Aa acc.length ca)).setCell ⟨w.heap.size + 1, 1, none⟩ (.int .i64 rooms)).setCell ⟨w.heap.size + 1, 2, none⟩ (.int .i64 lf)).heap[w.heap.size + 1]? = some (.cells #[(.slice Aa acc.length ca), .int .i64 rooms, .int .i64 lf] 38 (0, 0)) := by
            refine setCell_blk (setCell_blk (setCell_blk (w := (wr.setCell ⟨w.heap.size, 0, none⟩ (.slice Aa acc.length ca))) (cs := #[.slice none 0 0, .int .i64 0, .int .i64 0]) ?_ _) _) _
            rw [setCell_far _ (by omega)]
            exact hx6
          refine bodyPost_ret (results_row_tmp rfl _ _ (w.heap.size + 1) 38 #[(.slice Aa acc.length ca), .int .i64 rooms, .int .i64 lf] (0, 0) _ rfl hxF Tryd.underlying38 rfl (by kernel_rfl)) rfl ?_
          have hE := rfin hlt6 HBW2.out HNf.out ((((wr.setCell ⟨w.heap.size, 0, none⟩ (.slice Aa acc.length ca)).setCell ⟨w.heap.size + 1, 0, none⟩ (.slice Aa acc.length ca)).setCell ⟨w.heap.size + 1, 1, none⟩ (.int .i64 rooms)).setCell ⟨w.heap.size + 1, 2, none⟩ (.int .i64 lf)) (((((Fr.refl (fun k => k = w.heap.size ∨ k = w.heap.size + 1) wr).setCell (p := ⟨w.heap.size, 0, none⟩) (.inl (.inl rfl)) (.slice Aa acc.length ca)).setCell (p := ⟨w.heap.size + 1, 0, none⟩) (.inl (.inr rfl)) (.slice Aa acc.length ca)).setCell (p := ⟨w.heap.size + 1, 1, none⟩) (.inl (.inr rfl)) (.int .i64 rooms)).setCell (p := ⟨w.heap.size + 1, 2, none⟩) (.inl (.inr rfl)) (.int .i64 lf))
          rw [HI2.out, HW.out, HGr.out]
          exact ⟨_, rfl, hE⟩
      · have hz1 : ((lf : Int) == 0) = false := by rw [beq_eq_false_iff_ne]; omega
        have HGr := Lib.hid (show rshrink acc.length rooms lf = (rooms, lf) by unfold rshrink; rw [if_neg (fun h => hz h.1)])
        clear hz
        go_wp2_with fail
        have hxF : ((((wr.setCell ⟨w.heap.size, 0, none⟩ (.slice Aa acc.length ca)).setCell ⟨w.heap.size + 1, 0, none⟩ (.slice Aa acc.length ca)).setCell ⟨w.heap.size + 1, 1, none⟩ (.int .i64 rooms)).setCell ⟨w.heap.size + 1, 2, none⟩ (.int .i64 lf)).heap[w.heap.size + 1]? = some (.cells #[(.slice Aa acc.length ca), .int .i64 rooms, .int .i64 lf] 38 (0, 0)) := by
          refine setCell_blk (setCell_blk (setCell_blk (w := (wr.setCell ⟨w.heap.size, 0, none⟩ (.slice Aa acc.length ca))) (cs := #[.slice none 0 0, .int .i64 0, .int .i64 0]) ?_ _) _) _
          rw [setCell_far _ (by omega)]
          exact hx6
        refine bodyPost_ret (results_row_tmp rfl _ _ (w.heap.size + 1) 38 #[(.slice Aa acc.length ca), .int .i64 rooms, .int .i64 lf] (0, 0) _ rfl hxF Tryd.underlying38 rfl (by kernel_rfl)) rfl ?_
        have hE := rfin hlt6 HBW2.out HNf.out ((((wr.setCell ⟨w.heap.size, 0, none⟩ (.slice Aa acc.length ca)).setCell ⟨w.heap.size + 1, 0, none⟩ (.slice Aa acc.length ca)).setCell ⟨w.heap.size + 1, 1, none⟩ (.int .i64 rooms)).setCell ⟨w.heap.size + 1, 2, none⟩ (.int .i64 lf)) (((((Fr.refl (fun k => k = w.heap.size ∨ k = w.heap.size + 1) wr).setCell (p := ⟨w.heap.size, 0, none⟩) (.inl (.inl rfl)) (.slice Aa acc.length ca)).setCell (p := ⟨w.heap.size + 1, 0, none⟩) (.inl (.inr rfl)) (.slice Aa acc.length ca)).setCell (p := ⟨w.heap.size + 1, 1, none⟩) (.inl (.inr rfl)) (.int .i64 rooms)).setCell (p := ⟨w.heap.size + 1, 2, none⟩) (.inl (.inr rfl)) (.int .i64 lf))
        rw [HI2.out, HW.out, HGr.out]
        exact ⟨_, rfl, hE⟩
end Go.Proofs.YtflndbgaidhbaaaDoor
