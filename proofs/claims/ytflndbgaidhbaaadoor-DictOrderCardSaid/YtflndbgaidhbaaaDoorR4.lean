/-
  The reference's Same and Names, walked. Conditions: those that each theorem states.
-/
import Derived.Test.YtflndbgaidhbaaaDoorR3
namespace Go.Proofs.YtflndbgaidhbaaaDoor
open Go.RowKit Dm

/-- A slice of strings that is read. -/
def StrAt (w : World) (v : Value) (ns : List Nm) : Prop := ∃ A c, v = .slice A ns.length c ∧ ∀ (j : Nat) (s : Nm), ns[j]? = some s → ∃ g, A = some ⟨g, 0, none⟩ ∧ w.cell? ⟨g, j, none⟩ = some (encStr s) ∧ g < w.heap.size
theorem StrAt.of_own {w : World} {B : Nat} {v : Value} {ns : List Nm} (h : w.ownsRow B 9 1 v ns.length (ns.map encStr)) : StrAt w v ns := by
  rcases h.2 with ⟨rfl, h0⟩ | ⟨g, cap, cur, rfl, hb, hg, hl, hm, hc, ht⟩
  · have hn : ns = [] := List.length_eq_zero_iff.1 h0
    subst hn
    exact ⟨none, 0, rfl, fun j s hj => by simp at hj⟩
  · refine ⟨_, cap, rfl, fun j s hj => ⟨g, rfl, ?_, lt_of_heap hg⟩⟩
    have hjl := (List.getElem?_eq_some_iff.1 hj).1
    have e := congrArg (fun l => l[j]?) ht
    simp only [List.getElem?_take, List.getElem?_map, hj, Option.map_some] at e
    rw [if_pos (by omega)] at e
    rw [cell_of_row w g j cur 9 (0, 0) hg]
    simpa using e
theorem StrAt.below {w w' : World} {v : Value} {ns : List Nm} (h : StrAt w v ns) (hb : Below w.heap.size w w') : StrAt w' v ns := by
  obtain ⟨A, c, e, h⟩ := h
  refine ⟨A, c, e, fun j s hj => ?_⟩
  obtain ⟨g, e, hc, hl⟩ := h j s hj
  exact ⟨g, e, (hb.cell (p := ⟨g, j, none⟩) hl).trans hc, Nat.lt_of_lt_of_le hl hb.size⟩

set_option maxHeartbeats 3200000 in
set_option maxRecDepth 100000 in
theorem rsame_any (u v : Value) (l m : List Nm) (w : World) (hu : StrAt w u l) (hv : StrAt w v m) (hl : l.length ≤ 1000000) (hm : m.length ≤ 1000000) :
    Calls Tryd.prog 11 #[u, v] w fun e w' => e = .returned (.bool (decide (l = m))) ∧ Below w.heap.size w w' := by
  obtain ⟨A, c, rfl, hA⟩ := hu
  obtain ⟨A', c', rfl, hA'⟩ := hv
  have HA := Lib.hid hA
  have HA' := Lib.hid hA'
  clear hA hA'
  by_cases hlen : l.length = m.length
  · obtain ⟨n, hn⟩ : ∃ n, n = l.length := ⟨_, rfl⟩
    rw [← hlen, ← hn]
    have HN := Lib.hid hn
    have HM := Lib.hid (hn.trans hlen)
    have hnl : n ≤ 1000000 := by omega
    clear hlen hn
    go_enter Tryd.func11, Tryd.ntmps11
    go_wp2_with fail
    go_loopw [5] (fun i wr => ∃ (j : Nat), j ≤ n ∧ i = .int .i64 (j : Int) ∧ Below w.heap.size w wr ∧ l.take j = m.take j) (fun i _ => n - (intOf i).toNat)
    case atStart => exact ⟨0, Nat.zero_le _, rfl, Below.refl _ _, rfl⟩
    case round =>
      obtain ⟨j, hj, rfl, hb, ht⟩ := hrel
      by_cases hjl : j < n
      · have hx : l[j]? = some l[j] := List.getElem?_eq_getElem (by rw [← HN.out]; exact hjl)
        have hy : m[j]? = some m[j] := List.getElem?_eq_getElem (by rw [← HM.out]; exact hjl)
        have hx1 := List.take_succ_eq_append_getElem (l := l) (i := j) (by rw [← HN.out]; exact hjl)
        have hy1 := List.take_succ_eq_append_getElem (l := m) (i := j) (by rw [← HM.out]; exact hjl)
        generalize l[j] = x at hx hx1
        generalize m[j] = y at hy hy1
        obtain ⟨g, rfl, hcx0, hgl⟩ := HA.out j x hx
        obtain ⟨g', rfl, hcy0, hgl'⟩ := HA'.out j y hy
        have hcx := (hb.cell (p := ⟨g, j, none⟩) hgl).trans hcx0
        have hcy := (hb.cell (p := ⟨g', j, none⟩) hgl').trans hcy0
        simp only [encStr] at hcx hcy
        have HB := Lib.hid hb
        have HX := Lib.hid hx1
        have HY := Lib.hid hy1
        have HT := Lib.hid ht
        have HXj := Lib.hid hx
        have HYj := Lib.hid hy
        clear hcx0 hcy0 hb hx1 hy1 ht hx hy
        by_cases he : x = y
        · have hd : (x == y) = true := by simpa using he
          have HE := Lib.hid he
          clear he
          go_wp2_with fail
          go_quiet (fail)
          go_wp2_with fail
          go_roundw
          case rel => exact ⟨j + 1, by omega, by go_num, below_drewN HB.out _, by rw [HX.out, HY.out, HT.out, HE.out]⟩
          case measure => simp [intOf]; omega
        · have hd : (x == y) = false := by simpa using he
          have HE := Lib.hid (show decide (l = m) = false from decide_eq_false (fun h => he (by have h1 := HXj.out; rw [h, HYj.out] at h1; exact (Option.some.inj h1).symm)))
          clear he
          go_wp2_with fail
          go_quiet (fail)
          go_wp2_with fail
          go_ret
          exact ⟨by rw [HE.out]; rfl, below_drewN HB.out _⟩
      · have hje : j = n := by omega
        have HE := Lib.hid (show decide (l = m) = true from decide_eq_true (by rw [← List.take_length (l := l), ← List.take_length (l := m), ← HN.out, ← HM.out, ← hje]; exact ht))
        have HB := Lib.hid hb
        subst hje
        clear hb ht
        go_wp2_with fail
        go_ret
        exact ⟨by rw [HE.out]; rfl, HB.out⟩
  · have h1 : ((l.length : Int) == (m.length : Int)) = false := by rw [beq_eq_false_iff_ne]; omega
    have h2 : (l.length == m.length) = false := by rw [beq_eq_false_iff_ne]; exact hlen
    have HE := Lib.hid (show decide (l = m) = false from decide_eq_false (fun h => hlen (by rw [h])))
    clear hlen
    go_enter Tryd.func11, Tryd.ntmps11
    go_wp2_with fail
    go_ret
    exact ⟨by rw [HE.out]; rfl, Below.refl _ _⟩

set_option maxHeartbeats 3200000 in
set_option maxRecDepth 100000 in
theorem rnames_any (v : Value) (l : Room Int) (rooms left : Nat) (w : World) (hr : RowR w v l) (hl : l.length ≤ 400000) :
    Calls Tryd.prog 31 #[refV v rooms left] w fun e w' => ∃ v', e = .returned v' ∧ w'.ownsRow w.heap.size 9 1 v' (nms l).length ((nms l).map encStr) ∧ Below w.heap.size w w' := by
  unfold refV
  obtain ⟨A, c, rfl, _, _⟩ := hr.shape
  have HR := Lib.hid hr
  clear hr
  obtain ⟨i0, hi0_, hz0_, hz1_, hz2_⟩ := info_parts info9
  go_enter Tryd.func31, Tryd.ntmps31
  go_wp2_with fail
  have hb0 : Below w.heap.size w (w.alloc (.cells #[.slice A l.length c, .int .i64 rooms, .int .i64 left] 38)) := (Below.refl _ w).alloc (Nat.le_refl _) _
  have hx0 : (w.alloc (.cells #[.slice A l.length c, .int .i64 rooms, .int .i64 left] 38)).heap[w.heap.size]? = some (.cells #[.slice A l.length c, .int .i64 rooms, .int .i64 left] 38 (0, 0)) := heap_alloc_new w _
  generalize w.alloc (.cells #[.slice A l.length c, .int .i64 rooms, .int .i64 left] 38) = W at hb0 hx0 ⊢
  have hc0 : W.cell? ⟨w.heap.size, 0, none⟩ = some (.slice A l.length c) := by rw [cell_of_row W _ 0 _ _ (0, 0) hx0]; rfl
  have hlt0 := lt_of_heap hx0
  clear hx0
  have HB := Lib.hid hb0
  have HC0 := Lib.hid hc0
  clear hb0 hc0
  go_loopw [3, 4] (fun a i wr => ∃ (j : Nat), j ≤ l.length ∧ i = .int .i64 (j : Int) ∧ NM W wr a (nms (l.take j))) (fun _ i _ => l.length - (intOf i).toNat)
  case atStart => exact ⟨0, Nat.zero_le _, rfl, NM.start W⟩
  case round =>
    obtain ⟨j, hj, rfl, hN⟩ := hrel
    have hc0 := (hN.2.cell (p := ⟨w.heap.size, 0, none⟩) hlt0).trans HC0.out
    obtain ⟨Av, cv, rfl⟩ := hN.shape
    by_cases hjl : j < l.length
    · have hx : l[j]? = some l[j] := List.getElem?_eq_getElem hjl
      obtain ⟨g2, cap2, he, hrb, hit⟩ := (HR.out.kept fun b hb => (HB.out.trans (hN.2.mono HB.out.size)).block b (HR.out.lt hb).1).item KI.hs hx
      injection he with he1 he2 he3
      subst he1
      clear he2 he3
      have hcx0 := (hit 0 _ rfl).1
      have HX := Lib.hid (take_next1 hx)
      generalize l[j] = x at hcx0 HX
      obtain ⟨m, vx⟩ := x
      simp only [encStr] at hcx0
      simp only [Nat.add_zero] at hcx0
      have hln : (nms (l.take j)).length ≤ 400000 := by unfold nms; rw [List.length_map, List.length_take]; omega
      have HN := Lib.hid hN
      clear hN hx hit hrb
      generalize hns : nms (l.take j) = ns at HN hln
      have HNs := Lib.hid hns
      clear hns
      go_wp2_with (at_builtin; refine wpList_append_own _ rfl _ _ 22 rfl W.heap.size 9 i0 _ 1 16 Tryd.underlying22 hi0_ hz0_ hz1_ hz2_ rfl (by decide) _ _ _ rfl (HN.out.1.alloc _) ⟨wr.heap.size, 0, none⟩ 1 1 [.string ⟨m.toArray⟩] (by simp [Act.eval, Act.put]) ?qc1 ?qc2 ?qc3 ?qc4 ?qc5 ?qc6 ?_)
      try (case qc1 => rfl)
      try (case qc2 => exact World.news_of_block (heap_alloc_new _ _))
      case qc3 => intro u hu; rw [List.mem_singleton.1 hu]; rfl
      case qc4 => unfold maxLen; omega
      case qc5 => omega
      case qc6 => have := HN.out.2.size; simp; omega
      intro v' w1 hown hgrow hnil
      have hM2 := (HN.out.alloc (.cells #[.string ⟨m.toArray⟩] 9)).next (l := m) (by simpa using hown) hgrow
      have HM2 := Lib.hid (show NM W w1 v' (nms (l.take (j + 1))) by rw [HX.out, nms_app, HNs.out]; exact hM2)
      clear hM2 hown hgrow hnil HN hcx0
      go_wp2_with fail
      go_roundw
      case rel => exact ⟨j + 1, by omega, by go_num, HM2.out⟩
      case measure => simp [intOf]; omega
    · have hje : j = l.length := by omega
      subst hje
      rw [List.take_length] at hN
      have HN := Lib.hid hN
      clear hN
      go_wp2_with fail
      go_ret
      exact ⟨_, rfl, by simpa using Joins.ownsRow_le HN.out.1 HB.out.size, HB.out.trans (HN.out.2.mono HB.out.size)⟩
end Go.Proofs.YtflndbgaidhbaaaDoor
