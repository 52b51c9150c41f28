/-
  Delete, walked. Conditions: those that each theorem states.
-/
import Derived.Test.YtflndbgaidhbaaaDoorX9
namespace Go.Proofs.YtflndbgaidhbaaaDoor
open Go.RowKit Dm

set_option maxHeartbeats 3200000 in
set_option maxRecDepth 100000 in
theorem delete_any (s : ByteArray) (L : Lo) (d : D Int) (T : Nat → Int) (w : World) (hd : DictAt KI w L d) (hT : Tab T w) (hfit : Fit T d) (h0 : ¬ foot L d 0) (hmax : s.size ≤ 140737488351232) :
    Calls Tryd.prog 34 #[.pointer (some ⟨L.bp, 0, none⟩), .string s] w fun e w' =>
      e = .returned (.bool (find (hsh T) (Dm.step (hsh T) d) s.data.toList).isSome) ∧ After KI w L d (Dm.del (hsh T) d s.data.toList) w' := by
  have HS := Lib.hid (step_any L d T w hd hT hfit h0)
  have HFit := Lib.hid hfit.step
  have HT := Lib.hid hT
  have H0 := Lib.hid h0
  have HP := Lib.hid (show Dm.del (hsh T) d s.data.toList = shrink (del1 (hsh T) (Dm.step (hsh T) d) s.data.toList) from rfl)
  clear hd hT hfit h0
  generalize Dm.step (hsh T) d = d1 at HS HFit HP ⊢
  rw [HP.out]
  clear HP
  go_enter Tryd.func34, Tryd.ntmps34
  go_wp2_with fail
  refine HS.out.mono ?_
  rintro e w1 ⟨rfl, hA⟩
  obtain ⟨L1, hbp, hD1, hFr1, hft1⟩ := hA
  have HT1 := Lib.hid (tab_fr HT.out hFr1 H0.out)
  have HFa := Lib.hid (fun dF wF (h : After KI w1 L1 d1 dF wF) => After.trans hbp hFr1 hft1 h)
  have HF := Lib.hid (find_any s L1 d1 T w1 hD1 HT1.out HFit.out.inv.pos hmax (by have := HFit.out.now; omega) (by have := HFit.out.old; omega)
    (fun r hr => by have := HFit.out.room (.inl hr); omega) (fun r hr => by have := HFit.out.room (.inr hr); omega))
  have HBP := Lib.hid hbp
  have HD1 := Lib.hid hD1
  rw [hbp] at HF
  clear hD1 hFr1 hft1 HT H0 HS hbp
  cases hf : find (hsh T) d1 s.data.toList with
  | some bk =>
    obtain ⟨b, k⟩ := bk
    obtain ⟨i, r, p, x, q, hi, hie, hr, hl, hx⟩ := find_some (hsh T) hf
    have hrk : r[k]? = some x := by rw [hr, List.getElem?_append_right (by omega), hl]; simp
    have hg : del1 (hsh T) d1 s.data.toList = { edit d1 b i (r.eraseIdx k) with many := d1.many - 1 } := by
      unfold del1; rw [hf]
      simp only
      rw [← hie, List.getD_eq_getElem?_getD, hi]
      rfl
    have hkr : k < r.length := (List.getElem?_eq_some_iff.1 hrk).1
    have hrl : r.length ≤ 400000 := by
      cases b <;> simp only [Bool.false_eq_true, if_true, if_false] at hi
      · exact HFit.out.room (.inl (List.mem_of_getElem? hi))
      · exact HFit.out.room (.inr (List.mem_of_getElem? hi))
    have hm1 : 1 ≤ d1.many := by
      rw [HFit.out.inv.many]
      refine List.length_pos_iff.2 (List.ne_nil_of_mem (a := x) ?_)
      unfold D.cont
      have hxr : x ∈ r := by rw [hr]; simp
      cases b <;> simp only [Bool.false_eq_true, if_true, if_false] at hi
      · exact List.mem_append_left _ (List.mem_flatten.2 ⟨r, List.mem_of_getElem? hi, hxr⟩)
      · exact List.mem_append_right _ (List.mem_flatten.2 ⟨r, List.mem_of_getElem? hi, hxr⟩)
    have room : ∃ u, RoomAt 82 2 KI.enc w1 u r ∧ w1.cell? (fPtr T L1 d1 s.data.toList b) = some u ∧ w1.frozen? (fPtr T L1 d1 s.data.toList b) = false ∧ (tabOf L1 b)[i]? = some u ∧ (fPtr T L1 d1 s.data.toList b).block < w1.heap.size ∧ ∀ c, rb u = some c → (fPtr T L1 d1 s.data.toList b).block ≠ c ∧ c ≠ L.bp := by
      unfold fPtr tabOf
      rw [← hie, ← HBP.out]
      have hil := (List.getElem?_eq_some_iff.1 hi).1
      cases b <;> simp only [Bool.false_eq_true, if_true, if_false] at hi hil ⊢
      · obtain ⟨u, h0, h1, h2, h3⟩ := HD1.out.now.room hi
        exact ⟨u, h1, h2, h3, h0, lt_of_heap HD1.out.now.1, fun c hc => ⟨Ne.symm (HD1.out.in_ne (.inl ⟨i, u, hil, h0, hc⟩)).2.1, (HD1.out.in_ne (.inl ⟨i, u, hil, h0, hc⟩)).1⟩⟩
      · have ho : d1.old ≠ [] := by intro e; rw [e] at hi; simp at hi
        obtain ⟨u, h0, h1, h2, h3⟩ := (HD1.out.old ho).room hi
        exact ⟨u, h1, h2, h3, h0, lt_of_heap (HD1.out.old ho).1, fun c hc => ⟨Ne.symm ((HD1.out.in_ne (.inr ⟨i, u, hil, h0, hc⟩)).2.2 ho), (HD1.out.in_ne (.inr ⟨i, u, hil, h0, hc⟩)).1⟩⟩
    obtain ⟨u, hru, hcu, hfu, htu, hpb, hne⟩ := room
    obtain ⟨g, cap, rfl, hrb, hit⟩ := hru.item KI.hs hrk
    obtain ⟨cap, rfl⟩ : ∃ c, cap = c + 1 := by
      cases cap with
      | zero => simp [rb] at hrb
      | succ c => exact ⟨c, rfl⟩
    have hglt := (hru.lt hrb).1
    have hpe : fPtr T L1 d1 s.data.toList b = ⟨if b then L1.go else L1.gn, i, none⟩ := by unfold fPtr; rw [← hie]
    have hfin : ∀ w2 w3, Below w1.heap.size w1 w2 → Fr (fun b => b = g) w2 w3 → RoomAt 82 2 KI.enc w3 (.slice (some ⟨g, 0, none⟩) (r.length - 1) (cap + 1)) (r.eraseIdx k) →
        After KI w1 L1 d1 (edit d1 b i (r.eraseIdx k)) (w3.setCell (fPtr T L1 d1 s.data.toList b) (.slice (some ⟨g, 0, none⟩) (r.length - 1) (cap + 1))) := by
      intro w2 w3 hb hfr hr3
      rw [hpe]
      exact After.before hb (edit_set (HD1.out.below hb) hi htu (hfr.mono (fun j e => by rw [e]; exact hrb)) hr3 (fun c hc => .inl hc))
    have hno : (edit d1 b i (r.eraseIdx k)).now.length = d1.now.length := edit_now_length d1 b i _
    have hmm : (edit d1 b i (r.eraseIdx k)).many = d1.many := edit_many d1 b i _
    have HFin := Lib.hid hfin
    have HF2 := Lib.hid hf
    have HPut := Lib.hid (congrArg shrink hg)
    have HNE := Lib.hid (hne g hrb)
    have HRu := Lib.hid hru
    have HSD := Lib.hid (fun w2 => sdel_any g r.length cap k r w2 rfl)
    clear hf hg hi hie hr hl hx hrk hit hru hrb htu HD1 HT1 hfin hne hpe
    generalize edit d1 b i (r.eraseIdx k) = d2 at HFin HPut hno hmm
    have hpos := HFit.out.inv.pos
    have hmany := HFit.out.many
    have hnow := HFit.out.now
    go_wp2_with fail
    refine HF.out.mono ?_
    rintro e w2 ⟨p, rfl, hp, hb⟩
    rw [hp b k HF2.out, HF2.out]
    have e1 : fInt (some (b, k)) = (k : Int) := rfl
    rw [e1]
    have hcu2 := (hb.cell hpb).trans hcu
    have hfu2 := (hb.frozen hpb).trans hfu
    have hgl2 : g < w2.heap.size := Nat.lt_of_lt_of_le hglt hb.size
    have hpb2 : (fPtr T L1 d1 s.data.toList b).block < w2.heap.size := Nat.lt_of_lt_of_le hpb hb.size
    have HR2 := Lib.hid (HRu.out.kept fun c hc => hb.block c (HRu.out.lt hc).1)
    have HB := Lib.hid hb
    clear hb e1 hp HF hcu hfu
    go_wp2_with fail
    refine (HSD.out w2 HR2.out hkr hrl).mono ?_
    rintro e w3 ⟨rfl, hr3, hfr3⟩
    have hcu3 := hfr3.cell hcu2 HNE.out.1
    have hfu3 : w3.frozen? (fPtr T L1 d1 s.data.toList b) = false := (World.frozen?_of_block (hfr3.block _ hpb2 HNE.out.1)).trans hfu2
    have HA := Lib.hid (HFin.out w2 w3 HB.out hfr3 hr3)
    clear hr3 hfr3 hcu2 hfu2 HFin HR2 HB HSD
    generalize fPtr T L1 d1 s.data.toList b = pp at hcu3 hfu3 HA hpb2 hpb ⊢
    obtain ⟨wX, hWX⟩ : ∃ wX, wX = w3.setCell pp (.slice (some ⟨g, 0, none⟩) (r.length - 1) (cap + 1)) := ⟨_, rfl⟩
    rw [← hWX] at HA
    obtain ⟨L2, hbp3, hD3, hFr3, hft3⟩ := HA.out
    have HFc := Lib.hid (fun dF wF (h : After KI wX L2 d2 dF wF) => HFa.out _ _ (After.trans hbp3 hFr3 hft3 h))
    have hb20 := hbp3.trans HBP.out
    have HBP2 := Lib.hid hb20
    have hc3 := hD3.cells.2.2.2
    have hf3 := hD3.free 3
    rw [hb20, hWX] at hc3 hf3
    rw [hmm] at hc3
    have HD3 := Lib.hid hD3
    have HWX := Lib.hid hWX
    clear hbp3 hD3 hFr3 hft3 HA HFa hb20 hWX
    go_wp2_with fail
    rw [← HWX.out]
    clear hc3 hf3 hcu3 hfu3
    have hA4 := many_after HD3.out (d1.many - 1) (.int .i64 ((d1.many : Int) - 1)) (by congr 1; omega)
    rw [HBP2.out] at hA4
    generalize wX.setCell ⟨L.bp, 3, none⟩ (.int .i64 ((d1.many : Int) - 1)) = wY at hA4 ⊢
    obtain ⟨d3, hd3⟩ : ∃ d3 : D Int, d3 = { d2 with many := d1.many - 1 } := ⟨_, rfl⟩
    rw [← hd3] at hA4 HPut
    have hn3 : d3.now.length = d1.now.length := by rw [hd3]; exact hno
    have hm3 : d3.many = d1.many - 1 := by rw [hd3]
    obtain ⟨L3, hbp4, hD4, hFr4, hft4⟩ := hA4
    have HFd := Lib.hid (fun dF wF (h : After KI wY L3 d3 dF wF) => HFc.out _ _ (After.trans hbp4 hFr4 hft4 h))
    have HBP3 := Lib.hid (hbp4.trans HBP2.out)
    have HD4 := Lib.hid hD4
    have hpos : 0 < d3.now.length := by omega
    have hmany : d3.many ≤ 400000 := by omega
    have hnow : d3.now.length ≤ 500000 := by omega
    clear hbp4 hD4 hFr4 hft4 HFc HD3 HWX HFit hd3 hn3 hm3 hmm hno
    obtain ⟨hc0, hc1, _, hc3⟩ := HD4.out.cells
    rw [HBP3.out] at hc0 hc1 hc3
    by_cases ho : d3.old = []
    · have e1 : oldV L3 d3 = .slice none 0 0 := by unfold oldV; rw [if_pos ho]
      rw [e1] at hc1
      by_cases hm : 4 < d3.now.length
      · have hg : decide ((d3.now.length : Int) > 4) = true := decide_eq_true (by omega)
        by_cases hq : 4 * d3.many < d3.now.length
        · have hg2 : decide (4 * (d3.many : Int) < (d3.now.length : Int)) = true := decide_eq_true (by omega)
          have HB := Lib.hid (fun n => begin_any L3 d3 (d3.now.length / 2) (wY.drewN n) (HD4.out.below (below_drewN (Below.refl _ wY) n)) hpos (by omega))
          rw [HBP3.out] at HB
          have HPP := Lib.hid (HPut.out.trans (show shrink d3 = begin_ d3 (d3.now.length / 2) by unfold shrink; rw [if_pos ⟨ho, hm, hq⟩]))
          clear HPut ho e1 hm hq
          go_quiet (fail)
          go_wp2_with fail
          refine (HB.out _).mono ?_
          rintro e wE ⟨rfl, hA⟩
          have HA := Lib.hid (HFd.out _ _ (After.before (below_drewN (Below.refl _ wY) _) hA))
          clear hA
          go_wp2_with fail
          go_ret
          refine ⟨by rw [HF2.out]; rfl, ?_⟩
          rw [HPP.out]
          exact HA.out
        · have hg2 : decide (4 * (d3.many : Int) < (d3.now.length : Int)) = false := decide_eq_false (by omega)
          have HPP := Lib.hid (HPut.out.trans (show shrink d3 = d3 by unfold shrink; rw [if_neg (fun h => hq h.2.2)]))
          clear HPut ho e1 hm hq
          go_quiet (fail)
          go_wp2_with fail
          go_ret
          refine ⟨by rw [HF2.out]; rfl, ?_⟩
          rw [HPP.out]
          exact HFd.out _ _ (.refl HD4.out (below_drewN (Below.refl _ wY) _))

      · have hg : decide ((d3.now.length : Int) > 4) = false := decide_eq_false (by omega)
        have HPP := Lib.hid (HPut.out.trans (show shrink d3 = d3 by unfold shrink; rw [if_neg (fun h => hm h.2.1)]))
        clear HPut ho e1 hm
        go_quiet (fail)
        go_wp2_with fail
        go_ret
        refine ⟨by rw [HF2.out]; rfl, ?_⟩
        rw [HPP.out]
        exact HFd.out _ _ (.refl HD4.out (below_drewN (Below.refl _ wY) _))

    · have hlen : ((d3.old.length : Int) == 0) = false := by rw [beq_eq_false_iff_ne]; have := List.length_pos_iff.2 ho; omega
      have hlen2 : (d3.old.length == 0) = false := by rw [beq_eq_false_iff_ne]; have := List.length_pos_iff.2 ho; omega
      have e1 : oldV L3 d3 = .slice (some ⟨L3.go, 0, none⟩) d3.old.length L3.co.size := by unfold oldV; rw [if_neg ho]
      rw [e1] at hc1
      have HPP := Lib.hid (HPut.out.trans (show shrink d3 = d3 by unfold shrink; rw [if_neg (fun h => ho h.1)]))
      clear HPut ho e1
      go_quiet (fail)
      go_wp2_with fail
      go_ret
      refine ⟨by rw [HF2.out]; rfl, ?_⟩
      rw [HPP.out]
      exact HFd.out _ _ (.refl HD4.out (below_drewN (Below.refl _ wY) _))
  | none =>
    have HF2 := Lib.hid hf
    have hg : del1 (hsh T) d1 s.data.toList = d1 := by unfold del1; rw [hf]
    have HPut := Lib.hid (congrArg shrink hg)
    clear hf hg
    go_wp2_with fail
    refine HF.out.mono ?_
    rintro e wY ⟨p, rfl, _, hb⟩
    rw [HF2.out]
    have e1 : fInt none = -1 := rfl
    rw [e1]
    have HD4 := Lib.hid (HD1.out.below hb)
    have HFd := Lib.hid (fun dF wF (h : After KI wY L1 d1 dF wF) => HFa.out _ _ (h.before hb))
    clear hb e1 HF HD1 HT1 HFa
    have hpos := HFit.out.inv.pos
    have hmany := HFit.out.many
    have hnow := HFit.out.now
    clear HFit
    go_wp2_with fail
    obtain ⟨hc0, hc1, _, hc3⟩ := HD4.out.cells
    rw [HBP.out] at hc0 hc1 hc3
    by_cases ho : d1.old = []
    · have e1 : oldV L1 d1 = .slice none 0 0 := by unfold oldV; rw [if_pos ho]
      rw [e1] at hc1
      by_cases hm : 4 < d1.now.length
      · have hg : decide ((d1.now.length : Int) > 4) = true := decide_eq_true (by omega)
        by_cases hq : 4 * d1.many < d1.now.length
        · have hg2 : decide (4 * (d1.many : Int) < (d1.now.length : Int)) = true := decide_eq_true (by omega)
          have HB := Lib.hid (fun n => begin_any L1 d1 (d1.now.length / 2) (wY.drewN n) (HD4.out.below (below_drewN (Below.refl _ wY) n)) hpos (by omega))
          rw [HBP.out] at HB
          have HPP := Lib.hid (HPut.out.trans (show shrink d1 = begin_ d1 (d1.now.length / 2) by unfold shrink; rw [if_pos ⟨ho, hm, hq⟩]))
          clear HPut ho e1 hm hq
          go_quiet (fail)
          go_wp2_with fail
          refine (HB.out _).mono ?_
          rintro e wE ⟨rfl, hA⟩
          have HA := Lib.hid (HFd.out _ _ (After.before (below_drewN (Below.refl _ wY) _) hA))
          clear hA
          go_wp2_with fail
          go_ret
          refine ⟨by rw [HF2.out]; rfl, ?_⟩
          rw [HPP.out]
          exact HA.out
        · have hg2 : decide (4 * (d1.many : Int) < (d1.now.length : Int)) = false := decide_eq_false (by omega)
          have HPP := Lib.hid (HPut.out.trans (show shrink d1 = d1 by unfold shrink; rw [if_neg (fun h => hq h.2.2)]))
          clear HPut ho e1 hm hq
          go_quiet (fail)
          go_wp2_with fail
          go_ret
          refine ⟨by rw [HF2.out]; rfl, ?_⟩
          rw [HPP.out]
          exact HFd.out _ _ (.refl HD4.out (below_drewN (Below.refl _ wY) _))

      · have hg : decide ((d1.now.length : Int) > 4) = false := decide_eq_false (by omega)
        have HPP := Lib.hid (HPut.out.trans (show shrink d1 = d1 by unfold shrink; rw [if_neg (fun h => hm h.2.1)]))
        clear HPut ho e1 hm
        go_quiet (fail)
        go_wp2_with fail
        go_ret
        refine ⟨by rw [HF2.out]; rfl, ?_⟩
        rw [HPP.out]
        exact HFd.out _ _ (.refl HD4.out (below_drewN (Below.refl _ wY) _))

    · have hlen : ((d1.old.length : Int) == 0) = false := by rw [beq_eq_false_iff_ne]; have := List.length_pos_iff.2 ho; omega
      have hlen2 : (d1.old.length == 0) = false := by rw [beq_eq_false_iff_ne]; have := List.length_pos_iff.2 ho; omega
      have e1 : oldV L1 d1 = .slice (some ⟨L1.go, 0, none⟩) d1.old.length L1.co.size := by unfold oldV; rw [if_neg ho]
      rw [e1] at hc1
      have HPP := Lib.hid (HPut.out.trans (show shrink d1 = d1 by unfold shrink; rw [if_neg (fun h => ho h.1)]))
      clear HPut ho e1
      go_quiet (fail)
      go_wp2_with fail
      go_ret
      refine ⟨by rw [HF2.out]; rfl, ?_⟩
      rw [HPP.out]
      exact HFd.out _ _ (.refl HD4.out (below_drewN (Below.refl _ wY) _))
end Go.Proofs.YtflndbgaidhbaaaDoor
