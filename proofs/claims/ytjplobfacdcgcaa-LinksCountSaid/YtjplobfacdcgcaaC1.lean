/-
  LinksCount, walked: it tells true for every script. Conditions: those that each theorem states.
-/
import Derived.Test.YtjplobfacdcgcaaX9
namespace Go.Proofs.Ytjplobfacdcgcaa
open Go.RowKit

/-- Behind j calls: what is on its way is counted. -/
def KMid (w : World) (bp b : Nat) (j : Nat) (mv : Value) (wr : World) : Prop := ∃ m ws, m ≤ j ∧ ws.length ≤ j ∧ LkIn w (Fro w.heap.size) wr bp b m ws ∧ mv = .int .i64 (ws.length : Int)
def sumQ (ws : List Wy) (k : Nat) : Nat := (((pairsL ws).take k).map fun p => (queue ws p).length).sum
theorem sumQ_succ {ws : List Wy} {k : Nat} {p : Pr} (h : (pairsL ws)[k]? = some p) : sumQ ws (k + 1) = sumQ ws k + (queue ws p).length := by
  unfold sumQ
  obtain ⟨hk, rfl⟩ := List.getElem?_eq_some_iff.1 h
  rw [List.take_succ_eq_append_getElem hk, List.map_append, List.sum_append]; simp
theorem sumQ_le (ws : List Wy) (k : Nat) : sumQ ws k ≤ ws.length := by
  have h := sum_pairs ws
  unfold sumQ
  have e : (pairsL ws) = (pairsL ws).take k ++ (pairsL ws).drop k := (List.take_append_drop _ _).symm
  have h2 : ((pairsL ws).map fun p => (queue ws p).length).sum = (((pairsL ws).take k).map fun p => (queue ws p).length).sum + (((pairsL ws).drop k).map fun p => (queue ws p).length).sum := by
    conv => lhs; rw [e]
    rw [List.map_append, List.sum_append]
  omega

set_option maxHeartbeats 6400000 in
set_option maxRecDepth 100000 in
theorem count_any (v0 : Value) (l : List Oq) (w : World) (hv : OpsAt w v0 l) (hmax : l.length ≤ 9223372036854775807) :
    Calls Try.prog 6 #[v0] w fun e w' => e = .returned (.bool true) ∧ Below w.heap.size w w' := by
  have HFew := Lib.hid (fun (w' : World) (hb : Below w.heap.size w w') => few_any v0 l w' (hv.below hb) hmax)
  obtain ⟨A, c, rfl, hv⟩ := hv
  have HV := Lib.hid hv
  obtain ⟨n, hn⟩ : ∃ n, n = l.length := ⟨_, rfl⟩
  rw [← hn] at hmax HFew ⊢
  have HN := Lib.hid hn
  clear hv hn
  go_enter Try.func6, Try.ntmps6
  go_wp2_with fail
  refine (new_any (Fro w.heap.size) w (fun k hk => hk)).mono ?_
  rintro e w1 ⟨bp, b, rfl, hbp, hb, hat, hbel⟩
  have H1 := Lib.hid (LkIn.mk (w0 := w) hat hb hbel (fun k hk => Nat.le_trans hbel.size hk))
  have HAl := Lib.hid (fun (wr : World) (hb : Below w.heap.size w wr) => show Calls Try.prog 10 #[] wr fun e w' => e = .returned (.bool true) ∧ Below w.heap.size w w' from (alive_any wr).mono fun e w' ⟨he, hb'⟩ => ⟨he, hb.trans (hb'.mono hb.size)⟩)
  clear hbp hb hat hbel
  go_wp2_with fail
  refine (HFew.out w1 H1.out.bel).mono ?_
  rintro e w2 ⟨bb, rfl, hbb, hb2⟩
  have H2 := Lib.hid (H1.out.below hb2)
  have HBB := Lib.hid hbb
  clear hb2 hbb H1 HFew
  cases bb with
  | false =>
    have HA2 := Lib.hid (HAl.out w2 H2.out.bel)
    go_wp2_with fail
    refine HA2.out.mono ?_
    rintro e w3 ⟨rfl, hb3⟩
    go_wp2_with fail
    go_ret
    exact ⟨rfl, hb3⟩
  | true =>
    obtain ⟨hn200, hsm⟩ := HBB.out rfl
    have hn200 : n ≤ 200 := by rw [HN.out]; exact hn200
    have HSm := Lib.hid hsm
    have HS1 := Lib.hid (show KMid w bp b 0 (.int .i64 0) w2 from ⟨0, [], by omega, by simp, H2.out, rfl⟩)
    clear H2 HBB hsm
    go_wp2_with fail
    go_loopw [4, 27] (fun mv i wr => ∃ j : Nat, j ≤ n ∧ i = .int .i64 j ∧ KMid w bp b j mv wr) (fun _ i _ => n - (intOf i).toNat)
    case atStart => exact ⟨0, Nat.zero_le _, rfl, HS1.out⟩
    case round =>
      clear HS1
      obtain ⟨j, hj, rfl, m, ws, hm, hws, hL, rfl⟩ := hrel
      by_cases hjl : j < n
      · have hdj : decide ((j : Int) < (n : Int)) = true := decide_eq_true (by omega)
        have ho : l[j]? = some l[j] := List.getElem?_eq_getElem (by rw [← HN.out]; exact hjl)
        obtain ⟨bv, ov, cs, rfl, hp, hcs, hx⟩ := HV.out j _ ho
        obtain ⟨hfi, hal⟩ := HSm.out _ (List.mem_of_getElem? ho)
        generalize l[j] = oj at ho hcs hx hp hfi hal
        obtain ⟨okind, ⟨p1, p2⟩, ⟨kind, number, slot, ends, key, text, args, ⟨rk, ri, rt, rn, rl⟩, good, asking⟩⟩ := oj
        obtain ⟨va, vr, rfl, hva, hvr⟩ := hx
        simp only [opCells, ltCells, Rp.kind, Rp.int, Rp.text] at hcs
        obtain ⟨Aa, na, ca, rfl⟩ : ∃ A n c, va = .slice A n c := by obtain ⟨A, c, e, _⟩ := hva; exact ⟨A, _, c, e⟩
        obtain ⟨Ar, cr, rfl⟩ : ∃ A c, vr = .slice A rn c := by obtain ⟨A, c, e, _⟩ := hvr; exact ⟨A, c, e⟩
        have hlt : bv < w.heap.size := World.block_lt_of_cell? _ _ (hcs 0 _ rfl)
        have hbw := hL.bel
        have m0 : wr.cell? ⟨bv, ov + j * 16, none⟩ = some (.int .i64 okind) := (hbw.cell (p := ⟨bv, ov + j * 16, none⟩) hlt).trans (hcs 0 _ rfl)
        have m1 : wr.cell? ⟨bv, ov + j * 16 + 1, none⟩ = some (.int .i64 p1) := (hbw.cell (p := ⟨bv, ov + j * 16 + 1, none⟩) hlt).trans (hcs 1 _ rfl)
        have m2 : wr.cell? ⟨bv, ov + j * 16 + 2, none⟩ = some (.int .i64 p2) := (hbw.cell (p := ⟨bv, ov + j * 16 + 2, none⟩) hlt).trans (hcs 2 _ rfl)
        have m3 : wr.cell? ⟨bv, ov + j * 16 + 3, none⟩ = some (.int .i64 kind) := (hbw.cell (p := ⟨bv, ov + j * 16 + 3, none⟩) hlt).trans (hcs 3 _ rfl)
        have m4 : wr.cell? ⟨bv, ov + j * 16 + 4, none⟩ = some (.int .i64 number) := (hbw.cell (p := ⟨bv, ov + j * 16 + 4, none⟩) hlt).trans (hcs 4 _ rfl)
        have m5 : wr.cell? ⟨bv, ov + j * 16 + 5, none⟩ = some (.int .i64 slot) := (hbw.cell (p := ⟨bv, ov + j * 16 + 5, none⟩) hlt).trans (hcs 5 _ rfl)
        have m6 : wr.cell? ⟨bv, ov + j * 16 + 6, none⟩ = some (.int .i64 ends) := (hbw.cell (p := ⟨bv, ov + j * 16 + 6, none⟩) hlt).trans (hcs 6 _ rfl)
        have m7 : wr.cell? ⟨bv, ov + j * 16 + 7, none⟩ = some (.string key) := (hbw.cell (p := ⟨bv, ov + j * 16 + 7, none⟩) hlt).trans (hcs 7 _ rfl)
        have m8 : wr.cell? ⟨bv, ov + j * 16 + 8, none⟩ = some (.string text) := (hbw.cell (p := ⟨bv, ov + j * 16 + 8, none⟩) hlt).trans (hcs 8 _ rfl)
        have m9 : wr.cell? ⟨bv, ov + j * 16 + 9, none⟩ = some (.slice Aa na ca) := (hbw.cell (p := ⟨bv, ov + j * 16 + 9, none⟩) hlt).trans (hcs 9 _ rfl)
        have m10 : wr.cell? ⟨bv, ov + j * 16 + 10, none⟩ = some (.int .i64 rk) := (hbw.cell (p := ⟨bv, ov + j * 16 + 10, none⟩) hlt).trans (hcs 10 _ rfl)
        have m11 : wr.cell? ⟨bv, ov + j * 16 + 11, none⟩ = some (.int .i64 ri) := (hbw.cell (p := ⟨bv, ov + j * 16 + 11, none⟩) hlt).trans (hcs 11 _ rfl)
        have m12 : wr.cell? ⟨bv, ov + j * 16 + 12, none⟩ = some (.string rt) := (hbw.cell (p := ⟨bv, ov + j * 16 + 12, none⟩) hlt).trans (hcs 12 _ rfl)
        have m13 : wr.cell? ⟨bv, ov + j * 16 + 13, none⟩ = some (.slice Ar rn cr) := (hbw.cell (p := ⟨bv, ov + j * 16 + 13, none⟩) hlt).trans (hcs 13 _ rfl)
        have m14 : wr.cell? ⟨bv, ov + j * 16 + 14, none⟩ = some (.bool good) := (hbw.cell (p := ⟨bv, ov + j * 16 + 14, none⟩) hlt).trans (hcs 14 _ rfl)
        have m15 : wr.cell? ⟨bv, ov + j * 16 + 15, none⟩ = some (.int .i64 asking) := (hbw.cell (p := ⟨bv, ov + j * 16 + 15, none⟩) hlt).trans (hcs 15 _ rfl)
        have hLx := hL.below ((Below.refl _ wr).alloc (Nat.le_refl _) (.cells #[.int .i64 okind, .int .i64 p1, .int .i64 p2, .int .i64 kind, .int .i64 number, .int .i64 slot, .int .i64 ends, .string key, .string text, .slice Aa na ca, .int .i64 rk, .int .i64 ri, .string rt, .slice Ar rn cr, .bool good, .int .i64 asking] 35))
        have HSend := Lib.hid ((send_any (Fro w.heap.size) bp b m ws p1 p2 ⟨kind, number, slot, ends, key, text, args, .mk rk ri rt rn rl, good, asking⟩ (.slice Aa na ca) (.slice Ar rn cr) _ hLx.at_ hp hLx.new (hva.keep (.of_below hLx.bel _)) (hvr.keep (.of_below hLx.bel _)) (Nat.le_trans (show args.length ≤ 100 from hal) (by omega)) (hfi.mono (by omega)) (by omega) (by omega)).mono (R' := fun e w' => e = .returned (.tuple #[]) ∧ LkIn w (Fro w.heap.size) w' bp b (m + 1) (ws ++ [⟨(p1, p2), ⟨kind, number, slot, ends, key, text, args, .mk rk ri rt rn rl, good, asking⟩⟩])) fun e w' ⟨he, hs⟩ => ⟨he, hLx.sent hs⟩)
        simp only [letV, Rp.kind, Rp.int, Rp.text] at HSend
        have HLx := Lib.hid hLx
        clear hLx hL hva hvr hcs ho hfi hal hbw
        by_cases hk : okind = 0
        · subst hk
          go_wp2_with fail
          clear m0 m1 m2 m3 m4 m5 m6 m7 m8 m9 m10 m11 m12 m13 m14 m15
          refine HSend.out.mono ?_
          rintro e w3 ⟨rfl, hL3⟩
          have HR := Lib.hid (show KMid w bp b (j + 1) (.int .i64 ((ws.length : Int) + 1)) w3 from ⟨m + 1, _, by omega, by simp; omega, hL3, by simp⟩)
          clear hL3 HSend HLx
          go_wp2_with fail
          go_roundw
          case rel => exact ⟨j + 1, by omega, by go_num, HR.out⟩
          case measure => simp [intOf]; omega
        · have hkb : (okind == 0) = false := by simp [hk]
          have HK := Lib.hid hk
          clear HSend hk
          cases hq : queue ws (p1, p2) with
          | nil =>
            have HNx := Lib.hid (next_none _ bp b m ws p1 p2 _ HLx.out.at_ hp hq)
            simp only [letV, Lt.zero, Rp.zero, Rp.kind, Rp.int, Rp.text] at HNx
            clear hq
            go_wp2_with fail
            clear m0 m1 m2 m3 m4 m5 m6 m7 m8 m9 m10 m11 m12 m13 m14 m15
            refine HNx.out.mono ?_
            rintro e w3 ⟨rfl, hb3⟩
            have HR := Lib.hid (show KMid w bp b (j + 1) (.int .i64 (ws.length : Int)) (w3.alloc (.cells #[.int .i64 0, .int .i64 0, .int .i64 0, .int .i64 0, .string ⟨#[]⟩, .string ⟨#[]⟩, .slice none 0 0, .int .i64 0, .int .i64 0, .string ⟨#[]⟩, .slice none 0 0, .bool false, .int .i64 0] 33)) from ⟨m, ws, by omega, by omega, (HLx.out.below hb3).below ((Below.refl _ _).alloc (Nat.le_refl _) _), rfl⟩)
            clear hb3 HNx HLx
            go_wp2_with fail
            go_roundw
            case rel => exact ⟨j + 1, by omega, by go_num, HR.out⟩
            case measure => simp [intOf]; omega
          | cons y q =>
            have HNx := Lib.hid (next_some _ bp b m ws p1 p2 y q _ HLx.out.at_ hp hq (by omega) (by omega))
            have hpos : 1 ≤ ws.length := by have := queue_le ws (p1, p2); rw [hq] at this; simp at this; omega
            have HLen := Lib.hid (show ((nextL ws (p1, p2)).length : Int) = (ws.length : Int) - 1 by rw [length_next, if_neg (by rw [hq]; simp)]; omega)
            clear hq
            go_wp2_with fail
            clear m0 m1 m2 m3 m4 m5 m6 m7 m8 m9 m10 m11 m12 m13 m14 m15
            refine HNx.out.mono ?_
            obtain ⟨kind, number, slot, ends, key, text, args, ⟨rk, ri, rt, rn, rl⟩, good, asking⟩ := y
            rintro e w3 ⟨va, vr, rfl, hva, hvr, hs⟩
            obtain ⟨Aa, na, ca, rfl⟩ : ∃ A n c, va = .slice A n c := by obtain ⟨A, c, e, _⟩ := hva; exact ⟨A, _, c, e⟩
            obtain ⟨Ar, cr, rfl⟩ : ∃ A c, vr = .slice A rn c := by obtain ⟨A, c, e, _⟩ := hvr; exact ⟨A, c, e⟩
            simp only [letV, Rp.kind, Rp.int, Rp.text]
            have HR := Lib.hid (show KMid w bp b (j + 1) (.int .i64 ((ws.length : Int) - 1)) (w3.alloc (.cells #[.int .i64 kind, .int .i64 number, .int .i64 slot, .int .i64 ends, .string key, .string text, .slice Aa na ca, .int .i64 rk, .int .i64 ri, .string rt, .slice Ar rn cr, .bool good, .int .i64 asking] 33)) from ⟨m + 1, _, by omega, by have := HLen.out; omega, (HLx.out.sent hs).below ((Below.refl _ _).alloc (Nat.le_refl _) _), by rw [HLen.out]⟩)
            clear hs hva hvr HNx HLx
            go_wp2_with fail
            go_roundw
            case rel => exact ⟨j + 1, by omega, by go_num, HR.out⟩
            case measure => simp [intOf]; omega
      · have hje : j = n := by omega
        subst hje
        have hdj : decide ((j : Int) < (j : Int)) = false := decide_eq_false (by omega)
        have HP := Lib.hid (pairs_any _ bp b m ws wr hL.at_ (by omega))
        have HL := Lib.hid hL
        clear hL
        go_wp2_with fail
        refine HP.out.mono ?_
        rintro e w3 ⟨v, rfl, ⟨A3, c3, rfl, hpr⟩, hb3⟩
        have HPr := Lib.hid hpr
        have HL3 := Lib.hid (HL.out.below hb3)
        obtain ⟨np, hnp⟩ : ∃ np, np = (pairsL ws).length := ⟨_, rfl⟩
        have hnp1 : np ≤ 200 := by have := pairsL_le ws; omega
        rw [← hnp]
        have HNp := Lib.hid hnp
        have HS0 := Lib.hid (show (ws.length : Int) = (ws.length : Int) - ((sumQ ws 0 : Nat) : Int) by simp [sumQ])
        clear hpr hb3 HP HL hnp
        go_wp2_with fail
        go_loopw [4, 60] (fun mv i wr => ∃ k : Nat, k ≤ np ∧ i = .int .i64 k ∧ mv = .int .i64 ((ws.length : Int) - ((sumQ ws k : Nat) : Int)) ∧ Below w3.heap.size w3 wr) (fun _ i _ => np - (intOf i).toNat)
        case atStart => exact ⟨0, Nat.zero_le _, rfl, by rw [← HS0.out], Below.refl _ _⟩
        case round =>
          obtain ⟨k, hk, rfl, rfl, hb⟩ := hrel
          have hsl := sumQ_le ws k
          by_cases hkl : k < np
          · have hdk : decide ((k : Int) < (np : Int)) = true := decide_eq_true (by omega)
            have hpk : (pairsL ws)[k]? = some (pairsL ws)[k] := List.getElem?_eq_getElem (by rw [← HNp.out]; exact hkl)
            obtain ⟨g3, rfl, _, c0, c1⟩ := HPr.out k _ hpk
            have hmem := mem_pairsL.1 (List.mem_of_getElem? hpk)
            have hsq := sumQ_succ hpk
            have hsl2 := sumQ_le ws (k + 1)
            obtain ⟨y, hy, hyp⟩ := mem_queue.1 hmem
            have hok := HL3.out.at_.ok y hy
            rw [hyp] at hok
            generalize (pairsL ws)[k] = pk at hpk c0 c1 hmem hsq hyp hok
            obtain ⟨q1, q2⟩ := pk
            have hqpos : 1 ≤ (queue ws (q1, q2)).length := List.length_pos_iff.2 hmem
            have d0 := (hb.cell (p := ⟨g3, k * 2, none⟩) (World.block_lt_of_cell? _ _ c0)).trans c0
            have d1 := (hb.cell (p := ⟨g3, k * 2 + 1, none⟩) (World.block_lt_of_cell? _ _ c1)).trans c1
            simp only at d0 d1
            have hb2 : Below w3.heap.size w3 (wr.alloc (.cells #[.int .i64 q1, .int .i64 q2] 40)) := hb.alloc hb.size _
            have HW := Lib.hid (waiting_any _ bp b m ws q1 q2 _ (HL3.out.below hb2).at_ hok)
            have HSq := Lib.hid (show (ws.length : Int) - ((sumQ ws k : Nat) : Int) - ((queue ws (q1, q2)).length : Int) = (ws.length : Int) - ((sumQ ws (k + 1) : Nat) : Int) by omega)
            have hql : (queue ws (q1, q2)).length ≤ 200 := by have := queue_le ws (q1, q2); omega
            generalize (queue ws (q1, q2)).length = qn at HW HSq hqpos hql
            have hq1 : decide ((qn : Int) < 1) = false := decide_eq_false (by omega)
            have HB2 := Lib.hid hb2
            clear hb hb2 c0 c1 hmem hsq hyp hok hpk hy hsl2
            obtain ⟨sq, hsqe⟩ : ∃ sq : Int, sq = (ws.length : Int) - ((sumQ ws k : Nat) : Int) := ⟨_, rfl⟩
            have hsq0 : 0 ≤ sq := by omega
            have hsq1 : sq ≤ 200 := by omega
            have HSqe := Lib.hid hsqe
            rw [← hsqe]
            clear hsqe
            go_wp2_with fail
            refine HW.out.mono ?_
            rintro e w5 ⟨rfl, rfl⟩
            clear d0 d1 HW
            have HMv := Lib.hid (show sq - (qn : Int) = (ws.length : Int) - ((sumQ ws (k + 1) : Nat) : Int) by rw [HSqe.out]; exact HSq.out)
            go_wp2_with fail
            go_roundw
            case rel => exact ⟨k + 1, by omega, by go_num, by rw [HMv.out], HB2.out⟩
            case measure => simp [intOf]; omega
          · have hke : k = np := by omega
            subst hke
            have hdk : decide ((k : Int) < (k : Int)) = false := decide_eq_false (by omega)
            have hz : (ws.length : Int) - ((sumQ ws k : Nat) : Int) = 0 := by
              have h := sum_pairs ws
              unfold sumQ
              rw [List.take_of_length_le (by rw [HNp.out]; exact Nat.le_refl _), h]; omega
            rw [hz]
            have HA3 := Lib.hid (HAl.out wr (HL3.out.below hb).bel)
            clear hb hz hsl
            go_wp2_with fail
            refine HA3.out.mono ?_
            rintro e w5 ⟨rfl, hb5⟩
            go_wp2_with fail
            go_ret
            exact ⟨rfl, hb5⟩
end Go.Proofs.Ytjplobfacdcgcaa
