/-
  Names, walked: the names in order. Conditions: those that each theorem states.
-/
import Derived.Test.YtflndbgaidhbaaaDoorX13
import Derived.Test.YtflndbgaidhbaaaDoorSh
import Derived.Sort.OwnSorted
namespace Go.Proofs.YtflndbgaidhbaaaDoor
open Go.RowKit Dm

theorem info9 : (Tryd.prog.info? 9).map (fun i => (i.zero, i.size, i.bytes)) = some (some (.string ⟨#[]⟩), 1, 16) := by kernel_rfl

/-- The names gathered so far: a row of the call's own. -/
def NM (w wr : World) (v : Value) (ns : List Nm) : Prop := wr.ownsRow w.heap.size 9 1 v ns.length (ns.map encStr) ∧ Below w.heap.size w wr
/-- A table's value. -/
def TabV (w : World) (u : Value) (t : List (Room Int)) : Prop := (t = [] ∧ u = .slice none 0 0) ∨ ∃ g cn c, u = .slice (some ⟨g, 0, none⟩) t.length c ∧ TabAt 82 2 80 KI.enc w g cn t

def nms (r : Room Int) : List Nm := r.map (·.1)

theorem nms_app (a b : Room Int) : nms (a ++ b) = nms a ++ nms b := List.map_append
theorem flat_next {t : List (Room Int)} {j : Nat} {r : Room Int} (h : t[j]? = some r) : (t.take (j + 1)).flatten = (t.take j).flatten ++ r := by
  obtain ⟨hl, rfl⟩ := List.getElem?_eq_some_iff.1 h
  rw [List.take_succ_eq_append_getElem hl, List.flatten_append]
  simp
theorem take_next1 {r : Room Int} {j : Nat} {x : Nm × Int} (h : r[j]? = some x) : r.take (j + 1) = r.take j ++ [x] := by
  obtain ⟨hl, rfl⟩ := List.getElem?_eq_some_iff.1 h
  exact List.take_succ_eq_append_getElem hl

theorem TabV.below {w w' : World} {u : Value} {t : List (Room Int)} (h : TabV w u t) (hb : Below w.heap.size w w') : TabV w' u t := by
  rcases h with h | ⟨g, cn, c, e, ht⟩
  · exact .inl h
  · exact .inr ⟨g, cn, c, e, ht.kept (hb.block g (lt_of_heap ht.1)) (fun b hb' => hb.block b (ht.lt hb').1)⟩
theorem TabV.len {w : World} {A : Option Addr} {n c : Nat} {t : List (Room Int)} (h : TabV w (.slice A n c) t) : n = t.length := by
  rcases h with ⟨rfl, e⟩ | ⟨g, cn, c', e, _⟩
  · injection e
  · injection e
theorem TabV.room {w : World} {A : Option Addr} {n c j : Nat} {t : List (Room Int)} {r : Room Int} (h : TabV w (.slice A n c) t) (hr : t[j]? = some r) :
    ∃ g A' c', A = some ⟨g, 0, none⟩ ∧ w.cell? ⟨g, j, none⟩ = some (.slice A' r.length c') ∧ RoomAt 82 2 KI.enc w (.slice A' r.length c') r := by
  rcases h with ⟨rfl, e⟩ | ⟨g, cn, c', e, ht⟩
  · simp at hr
  · injection e with e1 _ _
    obtain ⟨u, hu, hru, hcu, _⟩ := ht.room hr
    obtain ⟨A', c2, rfl, _, _⟩ := hru.shape
    exact ⟨g, A', c2, e1, hcu, hru⟩

/-- The tables, in the order in which they are gone through, and the names ahead of number k. -/
def pre (d : D Int) (k : Nat) : Room Int := (([d.now, d.old] : List (List (Room Int))).take k).flatten.flatten
theorem pre_next {d : D Int} {k : Nat} {t : List (Room Int)} (h : ([d.now, d.old] : List (List (Room Int)))[k]? = some t) : pre d (k + 1) = pre d k ++ t.flatten := by
  obtain ⟨hl, rfl⟩ := List.getElem?_eq_some_iff.1 h
  unfold pre
  rw [List.take_succ_eq_append_getElem hl, List.flatten_append, List.flatten_append]
  simp
theorem pre_two (d : D Int) : pre d 2 = d.cont := by simp [pre, D.cont]

theorem NM.start (w : World) : NM w w (.slice none 0 0) [] := ⟨World.ownsRow_nil _ _ _ _, Below.refl _ _⟩
theorem NM.alloc {w wr : World} {v : Value} {ns : List Nm} (h : NM w wr v ns) (o : Obj) : NM w (wr.alloc o) v ns := ⟨h.1.alloc o, h.2.alloc h.2.size o⟩
theorem NM.next {w wr w' : World} {v v' : Value} {ns : List Nm} {l : Nm} (h : NM w wr v ns) (ho : w'.ownsRow w.heap.size 9 1 v' (ns.length + 1) (ns.map encStr ++ [encStr l])) (hg : wr.grownBy w' v.ownBlock) : NM w w' v' (ns ++ [l]) := by
  refine ⟨by simpa using ho, h.2.grown hg h.2.size fun k hk => (h.1.lt k hk).1⟩
theorem NM.shape {w wr : World} {v : Value} {ns : List Nm} (h : NM w wr v ns) : ∃ A c, v = .slice A ns.length c := by
  rcases h.1.2 with ⟨rfl, e⟩ | ⟨g, cap, cur, rfl, _⟩
  · exact ⟨none, 0, by rw [e]⟩
  · exact ⟨_, _, rfl⟩

theorem ssort_any (B : Nat) (v : Value) (ns : List Nm) (wr : World) (h : wr.ownsRow B 9 1 v ns.length (ns.map encStr)) (hB : B ≤ wr.heap.size) (hn : ns.length < 4611686018427387904) :
    Calls Tryd.prog 30 #[v] wr fun e w' => e = .returned (.tuple #[]) ∧ w'.ownsRow B 9 1 v ns.length ((ns.mergeSort fun x y => decide (x ≤ y)).map encStr) ∧ Below B wr w' := by
  rcases h.2 with ⟨rfl, h0⟩ | ⟨g, cap, cur, rfl, hb, hg, hl, hm, hc, ht⟩
  · have hns : ns = [] := List.length_eq_zero_iff.1 h0
    subst hns
    refine (Tryd.slices_Sort_string_none none 0 wr).mono ?_
    rintro e w' ⟨rfl, rfl⟩
    exact ⟨rfl, by simpa using World.ownsRow_nil w' B 9 1, Below.refl _ _⟩
  · refine (Tryd.slices_Sort_string g 0 cap ns wr (holds_of_block hg (by simpa using ht)) (lt_of_heap hg) hn).mono ?_
    rintro e w' ⟨rfl, n, os, rfl⟩
    exact ⟨rfl, ownsRow_sorted (by simp) hb hg hl hm hc, (Below.refl B wr).grown (grownBy_sorted _) hB (by rintro k ⟨⟩; exact hb)⟩

set_option maxHeartbeats 6400000 in
set_option maxRecDepth 100000 in
theorem names_any (L : Lo) (d : D Int) (T : Nat → Int) (w : World) (hd : DictAt KI w L d) (hfit : Fit T d) :
    Calls Tryd.prog 20 #[.pointer (some ⟨L.bp, 0, none⟩)] w fun e w' => ∃ v, e = .returned v ∧ w'.ownsRow w.heap.size 9 1 v (nms d.cont).length (((nms d.cont).mergeSort fun x y => decide (x ≤ y)).map encStr) ∧ Below w.heap.size w w' := by
  obtain ⟨hc0, hc1, _, _⟩ := hd.cells
  have hbp := lt_of_heap hd.blk
  have hV1 : TabV w (oldV L d) d.old := by
    by_cases ho : d.old = []
    · exact .inl ⟨ho, by unfold oldV; rw [if_pos ho]⟩
    · exact .inr ⟨L.go, L.co, L.co.size, by unfold oldV; rw [if_neg ho], hd.old ho⟩
  have hV0 : TabV w (.slice (some ⟨L.gn, 0, none⟩) d.now.length L.cn.size) d.now := .inr ⟨L.gn, L.cn, L.cn.size, rfl, hd.now⟩
  have hsl : ∃ A n c, oldV L d = .slice A n c := by unfold oldV; split <;> exact ⟨_, _, _, rfl⟩
  obtain ⟨A1, n1, c1, hov⟩ := hsl
  rw [hov] at hc1 hV1
  have HV0 := Lib.hid hV0
  have HV1 := Lib.hid hV1
  have HFit := Lib.hid hfit
  clear hd hfit hov hV0 hV1
  go_enter Tryd.func20, Tryd.ntmps20
  go_wp2_with fail
  go_region
  have hb0 : Below w.heap.size w (w.alloc (.cells #[.slice (some ⟨L.gn, 0, none⟩) d.now.length L.cn.size, .slice A1 n1 c1] 72)).drew := ((Below.refl _ _).alloc (Nat.le_refl _) _).drew
  have ha : (w.alloc (.cells #[.slice (some ⟨L.gn, 0, none⟩) d.now.length L.cn.size, .slice A1 n1 c1] 72)).drew.heap[w.heap.size]? = some (.cells #[.slice (some ⟨L.gn, 0, none⟩) d.now.length L.cn.size, .slice A1 n1 c1] 72 (0, 0)) := heap_alloc_new w _
  have hz : w.heap.size < (w.alloc (.cells #[.slice (some ⟨L.gn, 0, none⟩) d.now.length L.cn.size, .slice A1 n1 c1] 72)).drew.heap.size := by show _ < (w.alloc _).heap.size; simp
  generalize (w.alloc (.cells #[.slice (some ⟨L.gn, 0, none⟩) d.now.length L.cn.size, .slice A1 n1 c1] 72)).drew = W at hb0 ha hz ⊢
  have hT : ∀ k, k < 2 → ∃ A n c t, ([d.now, d.old] : List (List (Room Int)))[k]? = some t ∧ W.cell? ⟨w.heap.size, k, none⟩ = some (.slice A n c) ∧ TabV W (.slice A n c) t ∧ t.length ≤ 500000 ∧ ∀ r ∈ t, r.length ≤ 400000 := by
    intro k hk
    rcases (show k = 0 ∨ k = 1 by omega) with rfl | rfl
    · exact ⟨_, _, _, d.now, rfl, by rw [cell_of_row W _ 0 _ _ (0, 0) ha]; rfl, HV0.out.below hb0, HFit.out.now, fun r hr => HFit.out.room (.inl hr)⟩
    · exact ⟨_, _, _, d.old, rfl, by rw [cell_of_row W _ 1 _ _ (0, 0) ha]; rfl, HV1.out.below hb0, HFit.out.old, fun r hr => HFit.out.room (.inr hr)⟩
  have hlen : ∀ k, k ≤ 2 → (pre d k).length ≤ 400000 := by
    intro k hk
    have h1 := HFit.out.inv.many
    have h2 := HFit.out.many
    unfold D.cont at h1
    rw [List.length_append] at h1
    rcases (show k = 0 ∨ k = 1 ∨ k = 2 by omega) with rfl | rfl | rfl <;> simp only [pre, List.take_zero, List.take_succ_cons, List.flatten_nil, List.flatten_cons, List.length_nil, List.append_nil, List.flatten_append, List.length_append] <;> omega
  have HT := Lib.hid hT
  have HLen := Lib.hid hlen
  have HB0 := Lib.hid hb0
  clear hT hlen hb0 ha HV0 HV1 HFit hc0 hc1
  go_wp2_with fail
  go_loopw [3, 20] (fun v i wr => ∃ (k : Nat), k ≤ 2 ∧ i = .int .i64 (k : Int) ∧ NM W wr v (nms (pre d k))) (fun _ i _ => 2 - (intOf i).toNat)
  case atStart => exact ⟨0, by omega, rfl, NM.start W⟩
  case round =>
    obtain ⟨k, hk, rfl, hM⟩ := hrel
    by_cases hk2 : k < 2
    · have hdk : decide ((k : Int) < 2) = true := decide_eq_true (by omega)
      obtain ⟨A, n, c, t, ht, hct, htv, hlt, hrt⟩ := HT.out k hk2
      obtain rfl := htv.len
      have hcw := (hM.2.cell (p := ⟨w.heap.size, k, none⟩) hz).trans hct
      have hL0 := HLen.out (k + 1) (by omega)
      rw [pre_next ht] at hL0
      have HN := Lib.hid (show NM W wr _ (nms (pre d k ++ (t.take 0).flatten)) by simpa using hM)
      have HPre := Lib.hid (pre_next ht)
      have HTv := Lib.hid htv
      have HRt := Lib.hid hrt
      have HL0 := Lib.hid hL0
      clear hM ht hct htv hrt HT HLen hL0
      go_wp2_with fail
      clear hcw
      go_loopw [3, 26] (fun v i w2 => ∃ (j : Nat), j ≤ t.length ∧ i = .int .i64 (j : Int) ∧ NM W w2 v (nms (pre d k ++ (t.take j).flatten))) (fun _ i _ => t.length - (intOf i).toNat)
      case atStart => exact ⟨0, by omega, rfl, HN.out⟩
      case round =>
        obtain ⟨j, hj, rfl, hM⟩ := hrel
        obtain ⟨wm, rfl⟩ : ∃ x, x = wr := ⟨wr, rfl⟩
        by_cases hjl : j < t.length
        · have hdj : decide ((j : Int) < (t.length : Int)) = true := decide_eq_true (by omega)
          have hr : t[j]? = some t[j] := List.getElem?_eq_getElem hjl
          generalize t[j] = r at hr
          obtain ⟨g, A', c', rfl, hcu0, hru⟩ := HTv.out.room hr
          have hcu := (hM.2.cell (World.block_lt_of_cell? W _ hcu0)).trans hcu0
          have hlr := HRt.out r (List.mem_of_getElem? hr)
          have hL1 : (nms (pre d k ++ (t.take j).flatten)).length + r.length ≤ 400000 := by
            have h1 := HL0.out
            have h2 := flat_next hr
            have h3 : (t.take (j + 1)).flatten.length ≤ t.flatten.length := by
              conv => rhs; rw [← List.take_append_drop (j + 1) t]
              rw [List.flatten_append, List.length_append]; omega
            rw [h2] at h3
            unfold nms
            simp only [List.length_map, List.length_append] at h1 h3 ⊢
            omega
          have HN := Lib.hid (show NM W wm _ (nms (pre d k ++ (t.take j).flatten) ++ nms (r.take 0)) by simpa [nms] using hM)
          have HNx := Lib.hid (show nms (pre d k ++ (t.take (j + 1)).flatten) = nms (pre d k ++ (t.take j).flatten) ++ nms r by rw [flat_next hr, ← nms_app, List.append_assoc])
          have hb0 := hM.2
          have HRu := Lib.hid hru
          clear hM hr hru hcu0
          generalize nms (pre d k ++ (t.take j).flatten) = ns0 at HN HNx hL1
          go_wp2_with fail
          clear hcu
          go_loopw [3, 32] (fun v i w2 => ∃ (q : Nat), q ≤ r.length ∧ i = .int .i64 (q : Int) ∧ NM W w2 v (ns0 ++ nms (r.take q))) (fun _ i _ => r.length - (intOf i).toNat)
          case atStart => exact ⟨0, by omega, rfl, HN.out⟩
          case round =>
            obtain ⟨q, hq, rfl, hM⟩ := hrel
            by_cases hql : q < r.length
            · have hx : r[q]? = some r[q] := List.getElem?_eq_getElem hql
              obtain ⟨g2, cap2, he, hrb, hit⟩ := (HRu.out.kept fun b hb => hM.2.block b (HRu.out.lt hb).1).item KI.hs hx
              injection he with he1 he2 he3
              subst he1
              clear he2 he3
              have hcx0 := (hit 0 _ rfl).1
              have hcx1 := (hit 1 _ rfl).1
              have HXx := Lib.hid (take_next1 hx)
              generalize r[q] = x at hcx0 hcx1 HXx
              obtain ⟨l, vx⟩ := x
              simp only [encStr] at hcx0
              simp only [Nat.add_zero] at hcx0
              obtain ⟨Av, cv, rfl⟩ := hM.shape
              have HM := Lib.hid hM
              have hln : (ns0 ++ nms (r.take q)).length ≤ 400000 := by
                unfold nms; rw [List.length_append, List.length_map, List.length_take]; omega
              clear hM hx hit hrb
              generalize hns : ns0 ++ nms (r.take q) = ns at HM hln
              have HNs := Lib.hid hns
              clear hns
              obtain ⟨i0, hi0_, hz0_, hz1_, hz2_⟩ := info_parts info9
              go_wp2_with (at_builtin; refine wpList_append_own _ rfl _ _ 22 rfl W.heap.size 9 i0 _ 1 16 Tryd.underlying22 hi0_ hz0_ hz1_ hz2_ rfl (by decide) _ _ _ rfl ((HM.out.1.alloc _).alloc _) ⟨wr.heap.size + 1, 0, none⟩ 1 1 [.string ⟨l.toArray⟩] (by simp [Act.eval, Act.put]) ?qc1 ?qc2 ?qc3 ?qc4 ?qc5 ?qc6 ?_)
              case qc3 => rfl
              case qc4 => unfold maxLen; omega
              case qc5 => omega
              case qc6 => have := HM.out.2.size; simp; omega
              intro v' w1 hown hgrow hnil
              have hM2 := ((HM.out.alloc (.cells #[.string ⟨l.toArray⟩, .int .i64 vx] 82)).alloc (.cells #[.string ⟨l.toArray⟩] 9)).next (l := l) (by simpa using hown) hgrow
              have HM2 := Lib.hid (show NM W w1 v' (ns0 ++ nms (r.take (q + 1))) by rw [HXx.out, nms_app, ← List.append_assoc, HNs.out]; exact hM2)
              clear hM2 hown hgrow hnil HM hcx0 hcx1
              go_wp2_with fail
              go_roundw
              case rel => exact ⟨q + 1, by omega, by go_num, HM2.out⟩
              case measure => simp [intOf]; omega
            · have hqe : q = r.length := by omega
              subst hqe
              rw [List.take_of_length_le (Nat.le_refl _), ← HNx.out] at hM
              have HM := Lib.hid hM
              clear hM
              go_wp2_with fail
              go_roundw
              case rel => exact ⟨j + 1, by omega, by go_num, HM.out⟩
              case measure => simp [intOf]; omega
        · have hje : j = t.length := by omega
          subst hje
          rw [List.take_of_length_le (Nat.le_refl _), ← HPre.out] at hM
          have HM := Lib.hid hM
          clear hM
          go_wp2_with fail
          go_roundw
          case rel => exact ⟨k + 1, by omega, by go_num, HM.out⟩
          case measure => simp [intOf]; omega
    · have hke : k = 2 := by omega
      subst hke
      rw [pre_two] at hM
      have h400 := HLen.out 2 (by omega)
      rw [pre_two] at h400
      obtain ⟨Av, cv, rfl⟩ := hM.shape
      have HM := Lib.hid hM
      have HS := Lib.hid (ssort_any W.heap.size _ (nms d.cont) wr hM.1 hM.2.size (by unfold nms; rw [List.length_map]; omega))
      clear hM h400 HT HLen
      go_wp2_with fail
      refine HS.out.mono ?_
      rintro e w3 ⟨rfl, ho, hb⟩
      have HO := Lib.hid ho
      have HB := Lib.hid hb
      clear ho hb
      go_wp2_with fail
      go_ret
      exact ⟨_, rfl, Joins.ownsRow_le HO.out HB0.out.size, HB0.out.trans ((HM.out.2.trans HB.out).mono HB0.out.size)⟩
end Go.Proofs.YtflndbgaidhbaaaDoor
