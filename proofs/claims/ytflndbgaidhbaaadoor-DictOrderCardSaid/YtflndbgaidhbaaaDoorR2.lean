/-
  The reference's Put, walked. Conditions: those that each theorem states.
-/
import Derived.Test.YtflndbgaidhbaaaDoorR1
import Derived.Sort.Walk0
namespace Go.Proofs.YtflndbgaidhbaaaDoor
open Go.RowKit Dm

/-- The reference's loop that puts: what it has still to add. -/
def rins (n : Nm) (v : Int) : Bool → Room Int → Room Int
  | d, [] => if d = true then [] else [(n, v)]
  | d, x :: l => if x.1 = n then rins n v d l else if d = false ∧ n < x.1 then (n, v) :: x :: rins n v true l else x :: rins n v d l
def rhas (l : Room Int) (n : Nm) : Bool := l.any fun x => x.1 == n
/-- What Put makes of the tables. -/
def rgrow (m rooms left : Nat) : Nat × Nat := if left = 0 ∧ rooms < m then (2 * rooms, rooms) else (rooms, left)
theorem rins_eq {n : Nm} {v : Int} {d : Bool} {x : Nm × Int} {l : Room Int} (h : x.1 = n) : rins n v d (x :: l) = rins n v d l := by rw [rins, if_pos h]
theorem rins_lt {n : Nm} {v : Int} {x : Nm × Int} {l : Room Int} (h : ¬ x.1 = n) (h2 : n < x.1) : rins n v false (x :: l) = (n, v) :: x :: rins n v true l := by rw [rins, if_neg h, if_pos ⟨rfl, h2⟩]
theorem rins_ge {n : Nm} {v : Int} {d : Bool} {x : Nm × Int} {l : Room Int} (h : ¬ x.1 = n) (h2 : ¬ (d = false ∧ n < x.1)) : rins n v d (x :: l) = x :: rins n v d l := by rw [rins, if_neg h, if_neg h2]
theorem rins_len (n : Nm) (v : Int) : ∀ (l : Room Int) (d : Bool), (rins n v d l).length ≤ l.length + 1
  | [], d => by unfold rins; split <;> simp
  | x :: l, d => by
    have h1 := rins_len n v l d
    have h2 := rins_len n v l true
    unfold rins
    split
    · simp; omega
    · split
      · simp only [List.length_cons]
        have h3 : (rins n v true l).length ≤ l.length := by
          clear h1 h2
          induction l with
          | nil => simp [rins]
          | cons y l ih =>
            unfold rins
            split
            · simp; omega
            · simp only [Bool.true_eq_false, false_and, if_false, List.length_cons]; omega
        omega
      · simp only [List.length_cons]; omega
theorem rhas_next {l : Room Int} {j : Nat} {x : Nm × Int} (h : l.take (j + 1) = l.take j ++ [x]) (n : Nm) : rhas (l.take (j + 1)) n = (rhas (l.take j) n || (x.1 == n)) := by
  rw [h]; simp [rhas]

/-- A row of the call's own behind a base. -/
def RowN (W wr : World) (v : Value) (l : Room Int) : Prop := RowR wr v l ∧ (∀ b, rb v = some b → W.heap.size ≤ b) ∧ Below W.heap.size W wr
theorem RowN.start (W : World) : RowN W W (.slice none 0 0) [] := ⟨room_nil _, fun b hb => by simp [rb] at hb, Below.refl _ _⟩
theorem RowN.alloc {W wr : World} {v : Value} {l : Room Int} (h : RowN W wr v l) (o : Obj) : RowN W (wr.alloc o) v l := ⟨h.1.kept fun b hb => heap_alloc_old wr o (h.1.lt hb).1, h.2.1, h.2.2.alloc h.2.2.size o⟩
theorem RowN.next {W wr w' : World} {v v' : Value} {l : Room Int} {x : Nm × Int} (h : RowN W wr v l) (hr : RowR w' v' (l ++ [x])) (hg : wr.grownBy w' (rb v)) (hat : ∀ b, rb v' = some b → rb v = some b ∨ b = wr.heap.size) : RowN W w' v' (l ++ [x]) :=
  ⟨hr, fun b hb => by rcases hat b hb with e | e; exact h.2.1 b e; have := h.2.2.size; omega, h.2.2.grown hg h.2.2.size fun k hk => h.2.1 k hk⟩
theorem rb_lit {g n c : Nat} : rb (.slice (some ⟨g, 0, none⟩) n (c + 1)) = some g := rfl

theorem rfin {w W wr : World} {u : Value} {l : Room Int} (hlt : w.heap.size + 1 < W.heap.size) (hb : Below w.heap.size w W) (hN : RowN W wr u l)
    (F : World) (hF : Fr (fun k => k = w.heap.size ∨ k = w.heap.size + 1) wr F) :
    RowR F u l ∧ (∀ b, rb u = some b → w.heap.size ≤ b) ∧ Below w.heap.size w F := by
  have hs := hb.size
  refine ⟨hN.1.kept fun b hb' => hF.block b (hN.1.lt hb').1 (fun e => ?_), fun b hb' => ?_, (hb.trans (hN.2.2.mono hs)).trans (hF.below (fun i e => by rcases e with rfl | rfl <;> omega) (by have := hN.2.2.size; omega))⟩
  · have := hN.2.1 b hb'
    rcases e with rfl | rfl <;> omega
  · have := hN.2.1 b hb'
    omega

set_option maxHeartbeats 6400000 in
set_option maxRecDepth 100000 in
theorem rput_any (v0 : Value) (l : Room Int) (rooms left : Nat) (s : ByteArray) (v : Int) (w : World) (hr : RowR w v0 l) (hl : l.length ≤ 400000) (hro : rooms ≤ 1000000) (hlf : left ≤ 1000000) :
    Calls Tryd.prog 32 #[refV v0 rooms left, .string s, .int .i64 v] w fun e w' => ∃ v', e = .returned (.tuple #[refV v' (rgrow (rins s.data.toList v false l).length rooms (left - 1)).1 (rgrow (rins s.data.toList v false l).length rooms (left - 1)).2, .bool (rhas l s.data.toList)]) ∧
      RowR w' v' (rins s.data.toList v false l) ∧ (∀ b, rb v' = some b → w.heap.size ≤ b) ∧ Below w.heap.size w w' := by
  unfold refV
  obtain ⟨A, c, rfl, _, _⟩ := hr.shape
  have HR := Lib.hid hr
  clear hr
  have HS := Lib.hid (fun w' => rstep_any A l.length c rooms left w' hlf)
  have hlf1 : left - 1 ≤ 1000000 := by omega
  generalize left - 1 = lf at HS hlf1 ⊢
  unfold refV at HS
  go_enter Tryd.func32, Tryd.ntmps32
  go_wp2_with fail
  refine (HS.out _).mono ?_
  rintro e w1 ⟨rfl, hb1⟩
  have hx3 := (hb1.block w.heap.size (by simp; omega)).trans ((heap_alloc_old _ _ (by simp)).trans (heap_alloc_new w (.cells #[.slice A l.length c, .int .i64 rooms, .int .i64 left] 38)))
  have hx6 := (hb1.block (w.heap.size + 1) (by simp)).trans (heap_alloc2_new w (.cells #[.slice A l.length c, .int .i64 rooms, .int .i64 left] 38) (.cells #[.slice none 0 0, .int .i64 0, .int .i64 0] 38))
  have hbw : Below w.heap.size w w1 := (((Below.refl _ w).alloc (Nat.le_refl _) _).alloc (by simp) _).trans (hb1.mono (by simp; omega))
  clear HS hb1
  have c0 : w1.cell? ⟨w.heap.size, 0, none⟩ = some (.slice A l.length c) := by rw [cell_of_row w1 _ 0 _ _ (0, 0) hx3]; rfl
  have c1 : w1.cell? ⟨w.heap.size, 1, none⟩ = some (.int .i64 rooms) := by rw [cell_of_row w1 _ 1 _ _ (0, 0) hx3]; rfl
  have c2 : w1.cell? ⟨w.heap.size, 2, none⟩ = some (.int .i64 left) := by rw [cell_of_row w1 _ 2 _ _ (0, 0) hx3]; rfl
  have f3 : ∀ i, w1.frozen? ⟨w.heap.size, i, none⟩ = false := fun i => by simp [World.frozen?, hx3]
  have HX3 := Lib.hid hx3
  have HX6 := Lib.hid hx6
  have HBW := Lib.hid hbw
  clear hx3 hx6 hbw
  go_wp2_with fail
  obtain ⟨W, hW⟩ : ∃ W, W = ((w1.setCell ⟨w.heap.size, 0, none⟩ (.slice A l.length c)).setCell ⟨w.heap.size, 1, none⟩ (.int .i64 rooms)).setCell ⟨w.heap.size, 2, none⟩ (.int .i64 lf) := ⟨_, rfl⟩
  rw [← hW]
  have hx3 : W.heap[w.heap.size]? = some (.cells #[.slice A l.length c, .int .i64 rooms, .int .i64 lf] 38 (0, 0)) := by rw [hW, setCell_blk (setCell_blk (setCell_blk HX3.out _) _) _]; rfl
  have hx6 : W.heap[w.heap.size + 1]? = some (.cells #[.slice none 0 0, .int .i64 0, .int .i64 0] 38 (0, 0)) := by rw [hW, setCell_far _ (by omega), setCell_far _ (by omega), setCell_far _ (by omega)]; exact HX6.out
  have HBW2 := Lib.hid (show Below w.heap.size w W by rw [hW]; exact ((HBW.out.setCell (p := ⟨w.heap.size, 0, none⟩) (Nat.le_refl _) _).setCell (p := ⟨w.heap.size, 1, none⟩) (Nat.le_refl _) _).setCell (p := ⟨w.heap.size, 2, none⟩) (Nat.le_refl _) _)
  have HX3W := Lib.hid hx3
  have HX6W := Lib.hid hx6
  have hlt6 := lt_of_heap hx6
  clear hW HX3 HX6 HBW c0 c1 c2 f3 hx3 hx6
  go_loopw [8, 9, 10, 11] (fun a was dn i wr => ∃ (j : Nat) (acc : Room Int) (d : Bool), j ≤ l.length ∧ i = .int .i64 (j : Int) ∧ was = .bool (rhas (l.take j) s.data.toList) ∧ dn = .bool d ∧ acc.length ≤ 2 * j ∧ RowN W wr a acc ∧ rins s.data.toList v false l = acc ++ rins s.data.toList v d (l.drop j)) (fun _ _ _ i _ => l.length - (intOf i).toNat)
  case atStart => exact ⟨0, [], false, Nat.zero_le _, rfl, rfl, rfl, by simp, RowN.start W, rfl⟩
  case round =>
    obtain ⟨j, acc, d, hj, rfl, rfl, rfl, hal, hN, hins⟩ := hrel
    have hx3 := (hN.2.2.block w.heap.size (by omega)).trans HX3W.out
    have c0 : wr.cell? ⟨w.heap.size, 0, none⟩ = some (.slice A l.length c) := by rw [cell_of_row wr _ 0 _ _ (0, 0) hx3]; rfl
    obtain ⟨Aa, ca, rfl, _, _⟩ := hN.1.shape
    by_cases hjl : j < l.length
    · have hx : l[j]? = some l[j] := List.getElem?_eq_getElem hjl
      obtain ⟨g2, cap2, he, hrb, hit⟩ := (HR.out.kept fun b hb => (HBW2.out.trans (hN.2.2.mono HBW2.out.size)).block b (HR.out.lt hb).1).item KI.hs hx
      injection he with he1 he2 he3
      subst he1
      clear he2 he3
      have hcx0 := (hit 0 _ rfl).1
      have hcx1 := (hit 1 _ rfl).1
      have HX := Lib.hid (take_next1 hx)
      have HD := Lib.hid (List.drop_eq_getElem_cons hjl)
      generalize l[j] = x at hcx0 hcx1 HX HD
      obtain ⟨m, vx⟩ := x
      simp only [encStr] at hcx0
      simp only [Nat.add_zero] at hcx0
      rw [HD.out] at hins
      have HH := Lib.hid (rhas_next HX.out s.data.toList)
      have HI := Lib.hid hins
      have HN := Lib.hid hN
      obtain ⟨i0, hi0_, hz0_, hz1_, hz2_⟩ := info_parts info71
      clear hins hN hx hit hrb hx3
      by_cases hm : m = s.data.toList
      · have hd : (m == s.toList) = true := by rw [ByteArray.toList_eq]; simpa using hm
        have HI2 := Lib.hid (show rins s.data.toList v false l = acc ++ rins s.data.toList v d (l.drop (j + 1)) by rw [HI.out, rins_eq hm])
        have HH2 := Lib.hid (show rhas (l.take (j + 1)) s.data.toList = true by rw [HH.out]; simp [hm])
        clear hm HI HH
        go_wp2_with fail
        go_roundw
        case rel => exact ⟨j + 1, acc, d, by omega, by go_num, by rw [HH2.out], rfl, by omega, HN.out.alloc _, HI2.out⟩
        case measure => simp [intOf]; omega
      · have hd : (m == s.toList) = false := by rw [ByteArray.toList_eq]; simpa using hm
        have HH2 := Lib.hid (show rhas (l.take (j + 1)) s.data.toList = rhas (l.take j) s.data.toList by rw [HH.out]; simp [hm])
        have hbl1 : Op.bytesLess s.toList m = decide (s.data.toList < m) := by rw [bytesLess_eq, ByteArray.toList_eq]
        have hbl2 : Op.bytesLess m s.toList = decide (m < s.data.toList) := by rw [bytesLess_eq, ByteArray.toList_eq]
        by_cases hlt : d = false ∧ s.data.toList < m
        · obtain ⟨rfl, hlt'⟩ := hlt
          have HI2 := Lib.hid (show rins s.data.toList v false l = (acc ++ [(s.data.toList, v)] ++ [(m, vx)]) ++ rins s.data.toList v true (l.drop (j + 1)) by rw [HI.out, rins_lt hm hlt']; simp)
          rw [decide_eq_true hlt'] at hbl1
          rw [decide_eq_false (fun h => List.lt_irrefl _ (List.lt_trans h hlt'))] at hbl2
          clear hm HI HH hlt'
          go_wp2_with (at_builtin; refine wpList_append_room_ KI.hs KI.h1 rfl (.tmp 42) (.tmp 46) 36 rfl _ i0 _ 24 Tryd.underlying36 hi0_ hz0_ hz1_ hz2_ rfl (.slice Aa acc.length ca) acc ?q1 ?q2 (s.data.toList, v) ⟨wr.heap.size + 1, 0, none⟩ 1 ?q3 ?q4 ?q5 ?q6 ?_)
          try (case q1 => rfl)
          try (case q3 => rfl)
          case q2 => exact ((HN.out.alloc _).alloc _).1
          case q4 => first | (intro i u h; exact h) | exact World.news_of_block (heap_alloc_new _ _)
          case q5 => first | omega | (simp only [List.length_append, List.length_singleton]; omega)
          case q6 => first | (unfold maxLen; omega) | (simp only [List.length_append, List.length_singleton]; unfold maxLen; omega)
          intro g3 cap3 w5 hr5 hg5 hat5
          have hx12 : w5.heap[wr.heap.size]? = some (.cells #[.string ⟨m.toArray⟩, .int .i64 vx] 71 (0, 0)) := (hg5.block _ (by simp; omega) (fun e => by have := (HN.out.1.lt e.symm).1; omega)).trans ((heap_alloc_old _ _ (by simp)).trans (heap_alloc_new wr _))
          have cx0 : w5.cell? ⟨wr.heap.size, 0, none⟩ = some (.string ⟨m.toArray⟩) := by rw [cell_of_row w5 _ 0 _ _ (0, 0) hx12]; rfl
          have cx1 : w5.cell? ⟨wr.heap.size, 1, none⟩ = some (.int .i64 vx) := by rw [cell_of_row w5 _ 1 _ _ (0, 0) hx12]; rfl
          have HN5 := Lib.hid (((HN.out.alloc (.cells #[.string ⟨m.toArray⟩, .int .i64 vx] 71)).alloc (.cells #[.string s, .int .i64 v] 71)).next hr5 hg5 (fun b hb => by
            obtain rfl : g3 = b := by simpa [rb] using hb
            rcases hat5 with h | h
            · exact .inl h
            · exact .inr (by simpa using h)))
          clear hr5 hg5 hat5 hx12 hcx0 hcx1 HN
          go_wp2_with (at_builtin; refine wpList_append_room_ KI.hs KI.h1 rfl (.tmp 48) (.tmp 50) 36 rfl _ i0 _ 24 Tryd.underlying36 hi0_ hz0_ hz1_ hz2_ rfl (.slice (some ⟨g3, 0, none⟩) (acc.length + 1) (cap3 + 1)) (acc ++ [(s.data.toList, v)]) ?p1 ?p2 (m, vx) ⟨w5.heap.size, 0, none⟩ 1 ?p3 ?p4 ?p5 ?p6 ?_)
          try (case p1 => rfl)
          try (case p3 => rfl)
          case p2 => exact (HN5.out.alloc _).1
          case p4 => first | (intro i u h; exact h) | exact World.news_of_block (heap_alloc_new _ _)
          case p5 => first | omega | (simp only [List.length_append, List.length_singleton]; omega)
          case p6 => first | (unfold maxLen; omega) | (simp only [List.length_append, List.length_singleton]; unfold maxLen; omega)
          intro g4 cap4 w6 hr6 hg6 hat6
          have HN6 := Lib.hid ((HN5.out.alloc (.cells #[.string ⟨m.toArray⟩, .int .i64 vx] 71)).next (show RowR w6 (.slice (some ⟨g4, 0, none⟩) (acc.length + 1 + 1) (cap4 + 1)) (acc ++ [(s.data.toList, v)] ++ [(m, vx)]) by rw [List.append_assoc]; exact hr6) hg6 (fun b hb => by
            obtain rfl : g4 = b := by simpa [rb] using hb
            rcases hat6 with h | h
            · exact .inl h
            · exact .inr (by simpa using h)))
          clear hr6 hg6 hat6 HN5 cx0 cx1
          go_wp2_with fail
          go_roundw
          case rel => exact ⟨j + 1, _, true, by omega, by go_num, by rw [HH2.out], rfl, by simp; omega, HN6.out, HI2.out⟩
          case measure => simp [intOf]; omega
        · have HI2 := Lib.hid (show rins s.data.toList v false l = (acc ++ [(m, vx)]) ++ rins s.data.toList v d (l.drop (j + 1)) by rw [HI.out, rins_ge hm hlt]; simp)
          cases d with
          | false =>
            have hnl : ¬ s.data.toList < m := fun h => hlt ⟨rfl, h⟩
            have hlm : m < s.data.toList := Classical.byContradiction fun h => hm (List.le_antisymm hnl h)
            rw [decide_eq_false hnl] at hbl1
            rw [decide_eq_true hlm] at hbl2
            clear hm HI HH hlt hnl hlm
            go_wp2_with (at_builtin; refine wpList_append_room_ KI.hs KI.h1 rfl (.tmp 48) (.tmp 50) 36 rfl _ i0 _ 24 Tryd.underlying36 hi0_ hz0_ hz1_ hz2_ rfl (.slice Aa acc.length ca) acc ?t1 ?t2 (m, vx) ⟨wr.heap.size + 1, 0, none⟩ 1 ?t3 ?t4 ?t5 ?t6 ?_)
            try (case t1 => rfl)
            try (case t3 => rfl)
            case t2 => exact ((HN.out.alloc _).alloc _).1
            case t4 => first | (intro i u h; exact h) | exact World.news_of_block (heap_alloc_new _ _)
            case t5 => first | omega | (simp only [List.length_append, List.length_singleton]; omega)
            case t6 => first | (unfold maxLen; omega) | (simp only [List.length_append, List.length_singleton]; unfold maxLen; omega)
            intro g3 cap3 w5 hr5 hg5 hat5
            have HN5 := Lib.hid (((HN.out.alloc (.cells #[.string ⟨m.toArray⟩, .int .i64 vx] 71)).alloc (.cells #[.string ⟨m.toArray⟩, .int .i64 vx] 71)).next hr5 hg5 (fun b hb => by
              obtain rfl : g3 = b := by simpa [rb] using hb
              rcases hat5 with h | h
              · exact .inl h
              · exact .inr (by simpa using h)))
            clear hr5 hg5 hat5 hcx0 hcx1 HN
            go_wp2_with fail
            go_roundw
            case rel => exact ⟨j + 1, _, false, by omega, by go_num, by rw [HH2.out], rfl, by simp; omega, HN5.out, HI2.out⟩
            case measure => simp [intOf]; omega
          | true =>
            clear hm HI HH hlt hbl1 hbl2
            go_wp2_with (at_builtin; refine wpList_append_room_ KI.hs KI.h1 rfl (.tmp 48) (.tmp 50) 36 rfl _ i0 _ 24 Tryd.underlying36 hi0_ hz0_ hz1_ hz2_ rfl (.slice Aa acc.length ca) acc ?u1 ?u2 (m, vx) ⟨wr.heap.size + 1, 0, none⟩ 1 ?u3 ?u4 ?u5 ?u6 ?_)
            try (case u1 => rfl)
            try (case u3 => rfl)
            case u2 => exact ((HN.out.alloc _).alloc _).1
            case u4 => first | (intro i u h; exact h) | exact World.news_of_block (heap_alloc_new _ _)
            case u5 => first | omega | (simp only [List.length_append, List.length_singleton]; omega)
            case u6 => first | (unfold maxLen; omega) | (simp only [List.length_append, List.length_singleton]; unfold maxLen; omega)
            intro g3 cap3 w5 hr5 hg5 hat5
            have HN5 := Lib.hid (((HN.out.alloc (.cells #[.string ⟨m.toArray⟩, .int .i64 vx] 71)).alloc (.cells #[.string ⟨m.toArray⟩, .int .i64 vx] 71)).next hr5 hg5 (fun b hb => by
              obtain rfl : g3 = b := by simpa [rb] using hb
              rcases hat5 with h | h
              · exact .inl h
              · exact .inr (by simpa using h)))
            clear hr5 hg5 hat5 hcx0 hcx1 HN
            go_wp2_with fail
            go_roundw
            case rel => exact ⟨j + 1, _, true, by omega, by go_num, by rw [HH2.out], rfl, by simp; omega, HN5.out, HI2.out⟩
            case measure => simp [intOf]; omega
    · have hje : j = l.length := by omega
      have HI := Lib.hid (show rins s.data.toList v false l = acc ++ rins s.data.toList v d [] by rw [hins, hje, List.drop_length])
      have HH := Lib.hid (show rhas (l.take j) s.data.toList = rhas l s.data.toList by rw [hje, List.take_length])
      have hjl2 : decide ((j : Int) < (l.length : Int)) = false := decide_eq_false (by omega)
      have hx6 := (hN.2.2.block (w.heap.size + 1) hlt6).trans HX6W.out
      rw [HH.out]
      clear hins hje
      cases d with
      | true =>
        have HI2 := Lib.hid (show rins s.data.toList v false l = acc by rw [HI.out]; simp [rins])
        clear HI
        have HNf := Lib.hid hN
        clear hN
        have c1 : wr.cell? ⟨w.heap.size, 1, none⟩ = some (.int .i64 rooms) := by rw [cell_of_row wr _ 1 _ _ (0, 0) hx3]; rfl
        have c2 : wr.cell? ⟨w.heap.size, 2, none⟩ = some (.int .i64 lf) := by rw [cell_of_row wr _ 2 _ _ (0, 0) hx3]; rfl
        have f3 : ∀ i, wr.frozen? ⟨w.heap.size, i, none⟩ = false := fun i => by simp [World.frozen?, hx3]
        have d0 : wr.cell? ⟨w.heap.size + 1, 0, none⟩ = some (.slice none 0 0) := by rw [cell_of_row wr _ 0 _ _ (0, 0) hx6]; rfl
        have d1 : wr.cell? ⟨w.heap.size + 1, 1, none⟩ = some (.int .i64 0) := by rw [cell_of_row wr _ 1 _ _ (0, 0) hx6]; rfl
        have d2 : wr.cell? ⟨w.heap.size + 1, 2, none⟩ = some (.int .i64 0) := by rw [cell_of_row wr _ 2 _ _ (0, 0) hx6]; rfl
        have f6 : ∀ i, wr.frozen? ⟨w.heap.size + 1, i, none⟩ = false := fun i => by simp [World.frozen?, hx6]
        by_cases hz : lf = 0
        · have hz1 : ((lf : Int) == 0) = true := by rw [beq_iff_eq]; omega
          by_cases hg : rooms < acc.length
          · have hg1 : decide (((acc.length : Nat) : Int) > (rooms : Int)) = true := decide_eq_true (by omega)
            have hg2 : decide ((rooms : Int) < ((acc.length : Nat) : Int)) = true := decide_eq_true (by omega)
            have hg3 : decide (rooms < acc.length) = true := decide_eq_true (by omega)
            have HGr := Lib.hid (show rgrow (acc.length) rooms lf = (2 * rooms, rooms) by unfold rgrow; rw [if_pos ⟨hz, hg⟩])
            clear hz hg
            go_wp2_with fail
            have hxF : ((((((wr.setCell ⟨w.heap.size, 0, none⟩ (.slice Aa acc.length ca)).setCell ⟨w.heap.size, 2, none⟩ (.int .i64 rooms)).setCell ⟨w.heap.size, 1, none⟩ (.int .i64 (2 * (rooms : Int)))).setCell ⟨w.heap.size + 1, 0, none⟩ (.slice Aa acc.length ca)).setCell ⟨w.heap.size + 1, 1, none⟩ (.int .i64 (2 * (rooms : Int)))).setCell ⟨w.heap.size + 1, 2, none⟩ (.int .i64 rooms)).heap[w.heap.size + 1]? = some (.cells #[(.slice Aa acc.length ca), .int .i64 (2 * (rooms : Int)), .int .i64 rooms] 38 (0, 0)) := by
              refine setCell_blk (setCell_blk (setCell_blk (w := (((wr.setCell ⟨w.heap.size, 0, none⟩ (.slice Aa acc.length ca)).setCell ⟨w.heap.size, 2, none⟩ (.int .i64 rooms)).setCell ⟨w.heap.size, 1, none⟩ (.int .i64 (2 * (rooms : Int))))) (cs := #[.slice none 0 0, .int .i64 0, .int .i64 0]) ?_ _) _) _
              rw [setCell_far _ (by omega), setCell_far _ (by omega), setCell_far _ (by omega)]
              exact hx6
            refine bodyPost_ret (results_row_tmp rfl _ _ (w.heap.size + 1) 38 #[(.slice Aa acc.length ca), .int .i64 (2 * (rooms : Int)), .int .i64 rooms] (0, 0) _ rfl hxF Tryd.underlying38 rfl (by kernel_rfl)) rfl ?_
            have hE := rfin hlt6 HBW2.out HNf.out ((((((wr.setCell ⟨w.heap.size, 0, none⟩ (.slice Aa acc.length ca)).setCell ⟨w.heap.size, 2, none⟩ (.int .i64 rooms)).setCell ⟨w.heap.size, 1, none⟩ (.int .i64 (2 * (rooms : Int)))).setCell ⟨w.heap.size + 1, 0, none⟩ (.slice Aa acc.length ca)).setCell ⟨w.heap.size + 1, 1, none⟩ (.int .i64 (2 * (rooms : Int)))).setCell ⟨w.heap.size + 1, 2, none⟩ (.int .i64 rooms)) (((((((Fr.refl (fun k => k = w.heap.size ∨ k = w.heap.size + 1) wr).setCell (p := ⟨w.heap.size, 0, none⟩) (.inl (.inl rfl)) (.slice Aa acc.length ca)).setCell (p := ⟨w.heap.size, 2, none⟩) (.inl (.inl rfl)) (.int .i64 rooms)).setCell (p := ⟨w.heap.size, 1, none⟩) (.inl (.inl rfl)) (.int .i64 (2 * (rooms : Int)))).setCell (p := ⟨w.heap.size + 1, 0, none⟩) (.inl (.inr rfl)) (.slice Aa acc.length ca)).setCell (p := ⟨w.heap.size + 1, 1, none⟩) (.inl (.inr rfl)) (.int .i64 (2 * (rooms : Int)))).setCell (p := ⟨w.heap.size + 1, 2, none⟩) (.inl (.inr rfl)) (.int .i64 rooms))
            rw [HI2.out, HGr.out]
            exact ⟨_, rfl, hE⟩
          · have hg1 : decide (((acc.length : Nat) : Int) > (rooms : Int)) = false := decide_eq_false (by omega)
            have hg2 : decide ((rooms : Int) < ((acc.length : Nat) : Int)) = false := decide_eq_false (by omega)
            have hg3 : decide (rooms < acc.length) = false := decide_eq_false (by omega)
            have HGr := Lib.hid (show rgrow (acc.length) rooms lf = (rooms, lf) by unfold rgrow; rw [if_neg (fun h => hg h.2)])
            clear hz hg
            go_wp2_with fail
            have hxF : ((((wr.setCell ⟨w.heap.size, 0, none⟩ (.slice Aa acc.length ca)).setCell ⟨w.heap.size + 1, 0, none⟩ (.slice Aa acc.length ca)).setCell ⟨w.heap.size + 1, 1, none⟩ (.int .i64 rooms)).setCell ⟨w.heap.size + 1, 2, none⟩ (.int .i64 lf)).heap[w.heap.size + 1]? = some (.cells #[(.slice Aa acc.length ca), .int .i64 rooms, .int .i64 lf] 38 (0, 0)) := by
              refine setCell_blk (setCell_blk (setCell_blk (w := (wr.setCell ⟨w.heap.size, 0, none⟩ (.slice Aa acc.length ca))) (cs := #[.slice none 0 0, .int .i64 0, .int .i64 0]) ?_ _) _) _
              rw [setCell_far _ (by omega)]
              exact hx6
            refine bodyPost_ret (results_row_tmp rfl _ _ (w.heap.size + 1) 38 #[(.slice Aa acc.length ca), .int .i64 rooms, .int .i64 lf] (0, 0) _ rfl hxF Tryd.underlying38 rfl (by kernel_rfl)) rfl ?_
            have hE := rfin hlt6 HBW2.out HNf.out ((((wr.setCell ⟨w.heap.size, 0, none⟩ (.slice Aa acc.length ca)).setCell ⟨w.heap.size + 1, 0, none⟩ (.slice Aa acc.length ca)).setCell ⟨w.heap.size + 1, 1, none⟩ (.int .i64 rooms)).setCell ⟨w.heap.size + 1, 2, none⟩ (.int .i64 lf)) (((((Fr.refl (fun k => k = w.heap.size ∨ k = w.heap.size + 1) wr).setCell (p := ⟨w.heap.size, 0, none⟩) (.inl (.inl rfl)) (.slice Aa acc.length ca)).setCell (p := ⟨w.heap.size + 1, 0, none⟩) (.inl (.inr rfl)) (.slice Aa acc.length ca)).setCell (p := ⟨w.heap.size + 1, 1, none⟩) (.inl (.inr rfl)) (.int .i64 rooms)).setCell (p := ⟨w.heap.size + 1, 2, none⟩) (.inl (.inr rfl)) (.int .i64 lf))
            rw [HI2.out, HGr.out]
            exact ⟨_, rfl, hE⟩
        · have hz1 : ((lf : Int) == 0) = false := by rw [beq_eq_false_iff_ne]; omega
          have HGr := Lib.hid (show rgrow (acc.length) rooms lf = (rooms, lf) by unfold rgrow; rw [if_neg (fun h => hz h.1)])
          clear hz
          go_wp2_with fail
          have hxF : ((((wr.setCell ⟨w.heap.size, 0, none⟩ (.slice Aa acc.length ca)).setCell ⟨w.heap.size + 1, 0, none⟩ (.slice Aa acc.length ca)).setCell ⟨w.heap.size + 1, 1, none⟩ (.int .i64 rooms)).setCell ⟨w.heap.size + 1, 2, none⟩ (.int .i64 lf)).heap[w.heap.size + 1]? = some (.cells #[(.slice Aa acc.length ca), .int .i64 rooms, .int .i64 lf] 38 (0, 0)) := by
            refine setCell_blk (setCell_blk (setCell_blk (w := (wr.setCell ⟨w.heap.size, 0, none⟩ (.slice Aa acc.length ca))) (cs := #[.slice none 0 0, .int .i64 0, .int .i64 0]) ?_ _) _) _
            rw [setCell_far _ (by omega)]
            exact hx6
          refine bodyPost_ret (results_row_tmp rfl _ _ (w.heap.size + 1) 38 #[(.slice Aa acc.length ca), .int .i64 rooms, .int .i64 lf] (0, 0) _ rfl hxF Tryd.underlying38 rfl (by kernel_rfl)) rfl ?_
          have hE := rfin hlt6 HBW2.out HNf.out ((((wr.setCell ⟨w.heap.size, 0, none⟩ (.slice Aa acc.length ca)).setCell ⟨w.heap.size + 1, 0, none⟩ (.slice Aa acc.length ca)).setCell ⟨w.heap.size + 1, 1, none⟩ (.int .i64 rooms)).setCell ⟨w.heap.size + 1, 2, none⟩ (.int .i64 lf)) (((((Fr.refl (fun k => k = w.heap.size ∨ k = w.heap.size + 1) wr).setCell (p := ⟨w.heap.size, 0, none⟩) (.inl (.inl rfl)) (.slice Aa acc.length ca)).setCell (p := ⟨w.heap.size + 1, 0, none⟩) (.inl (.inr rfl)) (.slice Aa acc.length ca)).setCell (p := ⟨w.heap.size + 1, 1, none⟩) (.inl (.inr rfl)) (.int .i64 rooms)).setCell (p := ⟨w.heap.size + 1, 2, none⟩) (.inl (.inr rfl)) (.int .i64 lf))
          rw [HI2.out, HGr.out]
          exact ⟨_, rfl, hE⟩
      | false =>
        have HI2 := Lib.hid (show rins s.data.toList v false l = acc ++ [(s.data.toList, v)] by rw [HI.out]; simp [rins])
        have HIL := Lib.hid (show (acc ++ [(s.data.toList, v)]).length = acc.length + 1 by simp)
        have HN := Lib.hid hN
        have hxs3 := hx3
        obtain ⟨i0, hi0_, hz0_, hz1_, hz2_⟩ := info_parts info71
        clear HI hN hx3
        go_wp2_with (at_builtin; refine wpList_append_room_ KI.hs KI.h1 rfl (.tmp 54) (.tmp 58) 36 rfl _ i0 _ 24 Tryd.underlying36 hi0_ hz0_ hz1_ hz2_ rfl (.slice Aa acc.length ca) acc ?r1 ?r2 (s.data.toList, v) ⟨wr.heap.size, 0, none⟩ 1 ?r3 ?r4 ?r5 ?r6 ?_)
        try (case r1 => rfl)
        try (case r3 => rfl)
        case r2 => exact (HN.out.alloc _).1
        case r4 => first | (intro i u h; exact h) | exact World.news_of_block (heap_alloc_new _ _)
        case r5 => first | omega | (simp only [List.length_append, List.length_singleton]; omega)
        case r6 => first | (unfold maxLen; omega) | (simp only [List.length_append, List.length_singleton]; unfold maxLen; omega)
        intro g3 cap3 w5 hr5 hg5 hat5
        have hb5 : ∀ b, b < W.heap.size → w5.heap[b]? = wr.heap[b]? := fun b hb => (hg5.block b (by have := HN.out.2.2.size; simp; omega) (fun e => by have := HN.out.2.1 b e.symm; omega)).trans (heap_alloc_old _ _ (by have := HN.out.2.2.size; omega))
        have hx3 := (hb5 w.heap.size (by omega)).trans hxs3
        have hx6' := (hb5 (w.heap.size + 1) hlt6).trans hx6
        clear hx6 hxs3 hb5 c0
        have hx6 := hx6'
        clear hx6'
        have c0 : w5.cell? ⟨w.heap.size, 0, none⟩ = some (.slice A l.length c) := by rw [cell_of_row w5 _ 0 _ _ (0, 0) hx3]; rfl
        have HNf := Lib.hid ((HN.out.alloc (.cells #[.string s, .int .i64 v] 71)).next hr5 hg5 (fun b hb => by
          obtain rfl : g3 = b := by simpa [rb] using hb
          rcases hat5 with h | h
          · exact .inl h
          · exact .inr (by simpa using h)))
        clear hr5 hg5 hat5 HN
        obtain ⟨n8, hn8⟩ : ∃ n, n = acc.length + 1 := ⟨_, rfl⟩
        rw [← hn8] at HNf HIL ⊢
        have hn8' : n8 ≤ 1000000 := by omega
        clear hn8
        have c1 : w5.cell? ⟨w.heap.size, 1, none⟩ = some (.int .i64 rooms) := by rw [cell_of_row w5 _ 1 _ _ (0, 0) hx3]; rfl
        have c2 : w5.cell? ⟨w.heap.size, 2, none⟩ = some (.int .i64 lf) := by rw [cell_of_row w5 _ 2 _ _ (0, 0) hx3]; rfl
        have f3 : ∀ i, w5.frozen? ⟨w.heap.size, i, none⟩ = false := fun i => by simp [World.frozen?, hx3]
        have d0 : w5.cell? ⟨w.heap.size + 1, 0, none⟩ = some (.slice none 0 0) := by rw [cell_of_row w5 _ 0 _ _ (0, 0) hx6]; rfl
        have d1 : w5.cell? ⟨w.heap.size + 1, 1, none⟩ = some (.int .i64 0) := by rw [cell_of_row w5 _ 1 _ _ (0, 0) hx6]; rfl
        have d2 : w5.cell? ⟨w.heap.size + 1, 2, none⟩ = some (.int .i64 0) := by rw [cell_of_row w5 _ 2 _ _ (0, 0) hx6]; rfl
        have f6 : ∀ i, w5.frozen? ⟨w.heap.size + 1, i, none⟩ = false := fun i => by simp [World.frozen?, hx6]
        by_cases hz : lf = 0
        · have hz1 : ((lf : Int) == 0) = true := by rw [beq_iff_eq]; omega
          by_cases hg : rooms < n8
          · have hg1 : decide (((n8 : Nat) : Int) > (rooms : Int)) = true := decide_eq_true (by omega)
            have hg2 : decide ((rooms : Int) < ((n8 : Nat) : Int)) = true := decide_eq_true (by omega)
            have hg3 : decide (rooms < n8) = true := decide_eq_true (by omega)
            have HGr := Lib.hid (show rgrow (n8) rooms lf = (2 * rooms, rooms) by unfold rgrow; rw [if_pos ⟨hz, hg⟩])
            clear hz hg
            go_wp2_with fail
            have hxF : ((((((w5.setCell ⟨w.heap.size, 0, none⟩ (.slice (some ⟨g3, 0, none⟩) n8 (cap3 + 1))).setCell ⟨w.heap.size, 2, none⟩ (.int .i64 rooms)).setCell ⟨w.heap.size, 1, none⟩ (.int .i64 (2 * (rooms : Int)))).setCell ⟨w.heap.size + 1, 0, none⟩ (.slice (some ⟨g3, 0, none⟩) n8 (cap3 + 1))).setCell ⟨w.heap.size + 1, 1, none⟩ (.int .i64 (2 * (rooms : Int)))).setCell ⟨w.heap.size + 1, 2, none⟩ (.int .i64 rooms)).heap[w.heap.size + 1]? = some (.cells #[(.slice (some ⟨g3, 0, none⟩) n8 (cap3 + 1)), .int .i64 (2 * (rooms : Int)), .int .i64 rooms] 38 (0, 0)) := by
              refine setCell_blk (setCell_blk (setCell_blk (w := (((w5.setCell ⟨w.heap.size, 0, none⟩ (.slice (some ⟨g3, 0, none⟩) n8 (cap3 + 1))).setCell ⟨w.heap.size, 2, none⟩ (.int .i64 rooms)).setCell ⟨w.heap.size, 1, none⟩ (.int .i64 (2 * (rooms : Int))))) (cs := #[.slice none 0 0, .int .i64 0, .int .i64 0]) ?_ _) _) _
              rw [setCell_far _ (by omega), setCell_far _ (by omega), setCell_far _ (by omega)]
              exact hx6
            refine bodyPost_ret (results_row_tmp rfl _ _ (w.heap.size + 1) 38 #[(.slice (some ⟨g3, 0, none⟩) n8 (cap3 + 1)), .int .i64 (2 * (rooms : Int)), .int .i64 rooms] (0, 0) _ rfl hxF Tryd.underlying38 rfl (by kernel_rfl)) rfl ?_
            have hE := rfin hlt6 HBW2.out HNf.out ((((((w5.setCell ⟨w.heap.size, 0, none⟩ (.slice (some ⟨g3, 0, none⟩) n8 (cap3 + 1))).setCell ⟨w.heap.size, 2, none⟩ (.int .i64 rooms)).setCell ⟨w.heap.size, 1, none⟩ (.int .i64 (2 * (rooms : Int)))).setCell ⟨w.heap.size + 1, 0, none⟩ (.slice (some ⟨g3, 0, none⟩) n8 (cap3 + 1))).setCell ⟨w.heap.size + 1, 1, none⟩ (.int .i64 (2 * (rooms : Int)))).setCell ⟨w.heap.size + 1, 2, none⟩ (.int .i64 rooms)) (((((((Fr.refl (fun k => k = w.heap.size ∨ k = w.heap.size + 1) w5).setCell (p := ⟨w.heap.size, 0, none⟩) (.inl (.inl rfl)) (.slice (some ⟨g3, 0, none⟩) n8 (cap3 + 1))).setCell (p := ⟨w.heap.size, 2, none⟩) (.inl (.inl rfl)) (.int .i64 rooms)).setCell (p := ⟨w.heap.size, 1, none⟩) (.inl (.inl rfl)) (.int .i64 (2 * (rooms : Int)))).setCell (p := ⟨w.heap.size + 1, 0, none⟩) (.inl (.inr rfl)) (.slice (some ⟨g3, 0, none⟩) n8 (cap3 + 1))).setCell (p := ⟨w.heap.size + 1, 1, none⟩) (.inl (.inr rfl)) (.int .i64 (2 * (rooms : Int)))).setCell (p := ⟨w.heap.size + 1, 2, none⟩) (.inl (.inr rfl)) (.int .i64 rooms))
            rw [HI2.out, HIL.out, HGr.out]
            exact ⟨_, rfl, hE⟩
          · have hg1 : decide (((n8 : Nat) : Int) > (rooms : Int)) = false := decide_eq_false (by omega)
            have hg2 : decide ((rooms : Int) < ((n8 : Nat) : Int)) = false := decide_eq_false (by omega)
            have hg3 : decide (rooms < n8) = false := decide_eq_false (by omega)
            have HGr := Lib.hid (show rgrow (n8) rooms lf = (rooms, lf) by unfold rgrow; rw [if_neg (fun h => hg h.2)])
            clear hz hg
            go_wp2_with fail
            have hxF : ((((w5.setCell ⟨w.heap.size, 0, none⟩ (.slice (some ⟨g3, 0, none⟩) n8 (cap3 + 1))).setCell ⟨w.heap.size + 1, 0, none⟩ (.slice (some ⟨g3, 0, none⟩) n8 (cap3 + 1))).setCell ⟨w.heap.size + 1, 1, none⟩ (.int .i64 rooms)).setCell ⟨w.heap.size + 1, 2, none⟩ (.int .i64 lf)).heap[w.heap.size + 1]? = some (.cells #[(.slice (some ⟨g3, 0, none⟩) n8 (cap3 + 1)), .int .i64 rooms, .int .i64 lf] 38 (0, 0)) := by
              refine setCell_blk (setCell_blk (setCell_blk (w := (w5.setCell ⟨w.heap.size, 0, none⟩ (.slice (some ⟨g3, 0, none⟩) n8 (cap3 + 1)))) (cs := #[.slice none 0 0, .int .i64 0, .int .i64 0]) ?_ _) _) _
              rw [setCell_far _ (by omega)]
              exact hx6
            refine bodyPost_ret (results_row_tmp rfl _ _ (w.heap.size + 1) 38 #[(.slice (some ⟨g3, 0, none⟩) n8 (cap3 + 1)), .int .i64 rooms, .int .i64 lf] (0, 0) _ rfl hxF Tryd.underlying38 rfl (by kernel_rfl)) rfl ?_
            have hE := rfin hlt6 HBW2.out HNf.out ((((w5.setCell ⟨w.heap.size, 0, none⟩ (.slice (some ⟨g3, 0, none⟩) n8 (cap3 + 1))).setCell ⟨w.heap.size + 1, 0, none⟩ (.slice (some ⟨g3, 0, none⟩) n8 (cap3 + 1))).setCell ⟨w.heap.size + 1, 1, none⟩ (.int .i64 rooms)).setCell ⟨w.heap.size + 1, 2, none⟩ (.int .i64 lf)) (((((Fr.refl (fun k => k = w.heap.size ∨ k = w.heap.size + 1) w5).setCell (p := ⟨w.heap.size, 0, none⟩) (.inl (.inl rfl)) (.slice (some ⟨g3, 0, none⟩) n8 (cap3 + 1))).setCell (p := ⟨w.heap.size + 1, 0, none⟩) (.inl (.inr rfl)) (.slice (some ⟨g3, 0, none⟩) n8 (cap3 + 1))).setCell (p := ⟨w.heap.size + 1, 1, none⟩) (.inl (.inr rfl)) (.int .i64 rooms)).setCell (p := ⟨w.heap.size + 1, 2, none⟩) (.inl (.inr rfl)) (.int .i64 lf))
            rw [HI2.out, HIL.out, HGr.out]
            exact ⟨_, rfl, hE⟩
        · have hz1 : ((lf : Int) == 0) = false := by rw [beq_eq_false_iff_ne]; omega
          have HGr := Lib.hid (show rgrow (n8) rooms lf = (rooms, lf) by unfold rgrow; rw [if_neg (fun h => hz h.1)])
          clear hz
          go_wp2_with fail
          have hxF : ((((w5.setCell ⟨w.heap.size, 0, none⟩ (.slice (some ⟨g3, 0, none⟩) n8 (cap3 + 1))).setCell ⟨w.heap.size + 1, 0, none⟩ (.slice (some ⟨g3, 0, none⟩) n8 (cap3 + 1))).setCell ⟨w.heap.size + 1, 1, none⟩ (.int .i64 rooms)).setCell ⟨w.heap.size + 1, 2, none⟩ (.int .i64 lf)).heap[w.heap.size + 1]? = some (.cells #[(.slice (some ⟨g3, 0, none⟩) n8 (cap3 + 1)), .int .i64 rooms, .int .i64 lf] 38 (0, 0)) := by
            refine setCell_blk (setCell_blk (setCell_blk (w := (w5.setCell ⟨w.heap.size, 0, none⟩ (.slice (some ⟨g3, 0, none⟩) n8 (cap3 + 1)))) (cs := #[.slice none 0 0, .int .i64 0, .int .i64 0]) ?_ _) _) _
            rw [setCell_far _ (by omega)]
            exact hx6
          refine bodyPost_ret (results_row_tmp rfl _ _ (w.heap.size + 1) 38 #[(.slice (some ⟨g3, 0, none⟩) n8 (cap3 + 1)), .int .i64 rooms, .int .i64 lf] (0, 0) _ rfl hxF Tryd.underlying38 rfl (by kernel_rfl)) rfl ?_
          have hE := rfin hlt6 HBW2.out HNf.out ((((w5.setCell ⟨w.heap.size, 0, none⟩ (.slice (some ⟨g3, 0, none⟩) n8 (cap3 + 1))).setCell ⟨w.heap.size + 1, 0, none⟩ (.slice (some ⟨g3, 0, none⟩) n8 (cap3 + 1))).setCell ⟨w.heap.size + 1, 1, none⟩ (.int .i64 rooms)).setCell ⟨w.heap.size + 1, 2, none⟩ (.int .i64 lf)) (((((Fr.refl (fun k => k = w.heap.size ∨ k = w.heap.size + 1) w5).setCell (p := ⟨w.heap.size, 0, none⟩) (.inl (.inl rfl)) (.slice (some ⟨g3, 0, none⟩) n8 (cap3 + 1))).setCell (p := ⟨w.heap.size + 1, 0, none⟩) (.inl (.inr rfl)) (.slice (some ⟨g3, 0, none⟩) n8 (cap3 + 1))).setCell (p := ⟨w.heap.size + 1, 1, none⟩) (.inl (.inr rfl)) (.int .i64 rooms)).setCell (p := ⟨w.heap.size + 1, 2, none⟩) (.inl (.inr rfl)) (.int .i64 lf))
          rw [HI2.out, HIL.out, HGr.out]
          exact ⟨_, rfl, hE⟩
end Go.Proofs.YtflndbgaidhbaaaDoor
