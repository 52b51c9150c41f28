/-
  LinksOrder, walked: it tells true for every row of numbers. Conditions: those that each theorem states.
-/
import Derived.Test.YtjplobfacdcgcaaA1
namespace Go.Proofs.Ytjplobfacdcgcaa
open Go.RowKit

def IntsAt (w : World) (v : Value) (l : List Int) : Prop := ∃ A c, v = .slice A l.length c ∧ ∀ (j : Nat) (o : Int), l[j]? = some o → ∃ b off, A = some ⟨b, off, none⟩ ∧ b < w.heap.size ∧ w.cell? ⟨b, off + j, none⟩ = some (.int .i64 o)

/-- The first loop: j have been sent. -/
def OMid (w0 : World) (S : Nat → Prop) (bp b : Nat) (p1 p2 : Int) (nums : List Int) (j : Nat) (wr : World) : Prop :=
  ∃ m ws, m ≤ 2 * j ∧ ws.length ≤ 2 * j ∧ LkIn w0 S wr bp b m ws ∧ queue ws (p1, p2) = (nums.take j).map num
/-- The second loop: j have come. -/
def OEnd (w0 : World) (S : Nat → Prop) (bp b : Nat) (p1 p2 : Int) (nums : List Int) (j : Nat) (wr : World) : Prop :=
  ∃ m ws, m ≤ 1000 + j ∧ ws.length ≤ 1000 ∧ LkIn w0 S wr bp b m ws ∧ queue ws (p1, p2) = (nums.drop j).map num

set_option maxHeartbeats 3200000 in
set_option maxRecDepth 100000 in
theorem order_any (v0 : Value) (nums : List Int) (p1 p2 : Int) (w : World) (hv : IntsAt w v0 nums) (hp : Ok64 (p1, p2)) (hl : nums.length ≤ 9223372036854775807) :
    Calls Try.prog 4 #[v0, .agg #[.int .i64 p1, .int .i64 p2]] w fun e w' => e = .returned (.bool true) ∧ Below w.heap.size w w' := by
  obtain ⟨A, c, rfl, hv⟩ := hv
  have HV := Lib.hid hv
  have hp' : Ok64 (p2, p1) := ⟨hp.2, hp.1⟩
  obtain ⟨n, hn⟩ : ∃ n, n = nums.length := ⟨_, rfl⟩
  rw [← hn] at hl ⊢
  have HN := Lib.hid hn
  clear hv hn
  obtain ⟨w0, hw0⟩ : ∃ w0, w0 = w.alloc (.cells #[.int .i64 p1, .int .i64 p2] 40) := ⟨_, rfl⟩
  have hb0 : Below w.heap.size w w0 := by rw [hw0]; exact (Below.refl _ _).alloc (Nat.le_refl _) _
  have hx0 : w0.heap[w.heap.size]? = some (.cells #[.int .i64 p1, .int .i64 p2] 40 (0, 0)) := by rw [hw0]; exact World.alloc_heap_new w _
  have HX := Lib.hid (fun (w' : World) (hb : Below w0.heap.size w0 w') => show w'.cell? ⟨w.heap.size, 0, none⟩ = some (.int .i64 p1) ∧ w'.cell? ⟨w.heap.size, 1, none⟩ = some (.int .i64 p2) from by
    have h := (hb.block _ (lt_of_heap hx0)).trans hx0
    exact ⟨by rw [cell_of_row _ _ _ _ _ _ h]; rfl, by rw [cell_of_row _ _ _ _ _ _ h]; rfl⟩)
  have HB0 := Lib.hid hb0
  have HW0 := Lib.hid hw0
  clear hw0 hb0 hx0
  go_enter Try.func4, Try.ntmps4
  go_wp2_with fail
  rw [← HW0.out]
  refine (new_any (Fro w0.heap.size) w0 (fun k hk => hk)).mono ?_
  rintro e w1 ⟨bp, b, rfl, hbp, hb, hat, hbel⟩
  have H1 := Lib.hid (LkIn.mk (w0 := w0) hat hb hbel (fun k hk => Nat.le_trans hbel.size hk))
  have HAl := Lib.hid (fun (wr : World) (hb : Below w0.heap.size w0 wr) => show Calls Try.prog 10 #[] wr fun e w' => e = .returned (.bool true) ∧ Below w.heap.size w w' from (alive_any wr).mono fun e w' ⟨he, hb'⟩ => ⟨he, HB0.out.trans ((hb.trans (hb'.mono hb.size)).mono HB0.out.size)⟩)
  clear hbp hb hat hbel HW0
  by_cases hmany : n ≤ 500
  · have hd : decide ((n : Int) > 500) = false := decide_eq_false (by omega)
    have HS1 := Lib.hid (show OMid w0 (Fro w0.heap.size) bp b p1 p2 nums 0 w1 from ⟨0, [], by omega, by simp, H1.out, rfl⟩)
    clear H1
    go_wp2_with fail
    go_loopw [29] (fun i wr => ∃ j : Nat, j ≤ n ∧ i = .int .i64 j ∧ OMid w0 (Fro w0.heap.size) bp b p1 p2 nums j wr) (fun i _ => n - (intOf i).toNat)
    case atStart => exact ⟨0, Nat.zero_le _, rfl, HS1.out⟩
    case round =>
      clear HS1
      obtain ⟨j, hj, rfl, hM⟩ := hrel
      obtain ⟨m, ws, hm, hws, hL, hq⟩ := hM
      by_cases hjl : j < n
      · have hdj : decide ((j : Int) < (n : Int)) = true := decide_eq_true (by omega)
        have hk : nums[j]? = some nums[j] := List.getElem?_eq_getElem (by rw [← HN.out]; exact hjl)
        obtain ⟨bv, ov, rfl, hbl, hcv⟩ := HV.out j _ hk
        have HQ := Lib.hid (show (nums.take (j + 1)).map num = (nums.take j).map num ++ [num nums[j]] by rw [List.take_succ_eq_append_getElem (by rw [← HN.out]; exact hjl), List.map_append]; rfl)
        generalize nums[j] = k at hk hcv HQ
        have hcv1 := (HB0.out.cell (p := ⟨bv, ov + j, none⟩) hbl).trans hcv
        have hcv2 := (hL.bel.cell (p := ⟨bv, ov + j, none⟩) (Nat.lt_of_lt_of_le hbl HB0.out.size)).trans hcv1
        obtain ⟨x0, x1⟩ := HX.out wr hL.bel
        have HS := Lib.hid (send_num p1 p2 k wr hL hp (by omega) (by omega))
        have HQ0 := Lib.hid hq
        clear hk hcv hcv1 hL hq
        go_wp2_with fail
        refine HS.out.mono ?_
        rintro e w2 ⟨rfl, hL2⟩
        obtain ⟨y0, y1⟩ := HX.out w2 hL2.bel
        clear hcv2 x0 x1 HS
        by_cases heq : p1 = p2
        · have hne : (p1 != p2) = false := by simp [heq]
          have HR := Lib.hid (show OMid w0 (Fro w0.heap.size) bp b p1 p2 nums (j + 1) w2 from ⟨m + 1, _, by omega, by simp; omega, hL2, by rw [queue_send, if_pos rfl, HQ0.out, HQ.out]⟩)
          have HEq := Lib.hid heq
          clear hL2 heq
          go_wp2_with fail
          go_roundw
          case rel => exact ⟨j + 1, by omega, by go_num, HR.out⟩
          case measure => simp [intOf]; omega
        · have hne : (p1 != p2) = true := by simp [heq]
          have HS2 := Lib.hid (send_num p2 p1 (-7) w2 hL2 hp' (by omega) (by simp; omega))
          have HNe := Lib.hid (show (p2, p1) ≠ (p1, p2) from fun e => heq (by simpa using congrArg Prod.snd e))
          have heq' := Lib.hid heq
          clear hL2 heq
          go_wp2_with fail
          refine HS2.out.mono ?_
          rintro e w3 ⟨rfl, hL3⟩
          have HR := Lib.hid (show OMid w0 (Fro w0.heap.size) bp b p1 p2 nums (j + 1) w3 from ⟨m + 1 + 1, _, by omega, by simp; omega, hL3, by rw [queue_send, if_neg HNe.out, queue_send, if_pos rfl, HQ0.out, HQ.out]⟩)
          clear hL3 y0 y1
          go_wp2_with fail
          go_roundw
          case rel => exact ⟨j + 1, by omega, by go_num, HR.out⟩
          case measure => simp [intOf]; omega
      · have hje : j = n := by omega
        subst hje
        have hdj : decide ((j : Int) < (j : Int)) = false := decide_eq_false (by omega)
        have HS2 := Lib.hid (show OEnd w0 (Fro w0.heap.size) bp b p1 p2 nums 0 wr from ⟨m, ws, by omega, by omega, hL, by rw [hq, List.take_of_length_le (by rw [HN.out]; exact Nat.le_refl _), List.drop_zero]⟩)
        clear hL hq hm hws
        go_wp2_with fail
        go_loopw [56] (fun i wr => ∃ k : Nat, k ≤ j ∧ i = .int .i64 k ∧ OEnd w0 (Fro w0.heap.size) bp b p1 p2 nums k wr) (fun i _ => j - (intOf i).toNat)
        case atStart => exact ⟨0, Nat.zero_le _, rfl, HS2.out⟩
        case round =>
          clear HS2
          obtain ⟨k, hk, rfl, m, ws, hm, hws, hL, hq⟩ := hrel
          obtain ⟨x0, x1⟩ := HX.out wr hL.bel
          by_cases hkl : k < j
          · have hdk : decide ((k : Int) < (j : Int)) = true := decide_eq_true (by omega)
            have hkk : nums[k]? = some nums[k] := List.getElem?_eq_getElem (by rw [← HN.out]; exact hkl)
            obtain ⟨bv, ov, rfl, hbl, hcv⟩ := HV.out k _ hkk
            rw [List.drop_eq_getElem_cons (by rw [← HN.out]; exact hkl), List.map_cons] at hq
            generalize nums[k] = z at hkk hcv hq
            have hcv1 := (HB0.out.cell (p := ⟨bv, ov + k, none⟩) hbl).trans hcv
            have hcv2 := (hL.bel.cell (p := ⟨bv, ov + k, none⟩) (Nat.lt_of_lt_of_le hbl HB0.out.size)).trans hcv1
            have HS := Lib.hid (next_num p1 p2 z _ wr hL hp hq (by omega) (by omega))
            have HQ := Lib.hid (show queue (nextL ws (p1, p2)) (p1, p2) = (nums.drop (k + 1)).map num by rw [queue_next_same, hq]; rfl)
            have HLen := Lib.hid (show (nextL ws (p1, p2)).length ≤ 1000 by rw [length_next]; split <;> omega)
            have hzz : (z != z) = false := by simp
            clear hkk hcv hcv1 hL hq
            go_wp2_with fail
            refine HS.out.mono ?_
            rintro e w2 ⟨A2, c2, A3, c3, rfl, hL2⟩
            have hL3 := hL2.below ((Below.refl _ w2).alloc (Nat.le_refl _) (.cells #[.int .i64 0, .int .i64 z, .int .i64 0, .int .i64 0, .string ⟨#[]⟩, .string ⟨#[]⟩, .slice A2 0 c2, .int .i64 0, .int .i64 0, .string ⟨#[]⟩, .slice A3 0 c3, .bool false, .int .i64 0] 33))
            have HR := Lib.hid (show OEnd w0 (Fro w0.heap.size) bp b p1 p2 nums (k + 1) _ from ⟨m + 1, _, by omega, HLen.out, hL3, HQ.out⟩)
            clear hL2 hL3 HS hcv2 x0 x1
            go_wp2_with fail
            go_roundw
            case rel => exact ⟨k + 1, by omega, by go_num, HR.out⟩
            case measure => simp [intOf]; omega
          · have hke : k = j := by omega
            subst hke
            have hdk : decide ((k : Int) < (k : Int)) = false := decide_eq_false (by omega)
            have hq0 : queue ws (p1, p2) = [] := by rw [hq, List.drop_of_length_le (by rw [HN.out]; exact Nat.le_refl _)]; rfl
            have HS := Lib.hid (next_none _ bp b m ws p1 p2 wr hL.at_ hp hq0)
            simp only [letV, Lt.zero, Rp.zero, Rp.kind, Rp.int, Rp.text] at HS
            have HBe := Lib.hid hL.bel
            clear hL hq hq0
            go_wp2_with fail
            refine HS.out.mono ?_
            rintro e w2 ⟨rfl, hb2⟩
            have HAl2 := Lib.hid (fun o => HAl.out (w2.alloc o) (HBe.out.trans ((hb2.alloc hb2.size o).mono HBe.out.size)))
            clear hb2 HS x0 x1
            go_wp2_with fail
            refine (HAl2.out _).mono ?_
            rintro e w3 ⟨rfl, hb3⟩
            go_wp2_with fail
            go_ret
            exact ⟨rfl, hb3⟩
  · have hd : decide ((n : Int) > 500) = true := decide_eq_true (by omega)
    have HA2 := Lib.hid (HAl.out w1 H1.out.bel)
    clear H1 HAl
    go_wp2_with fail
    refine HA2.out.mono ?_
    rintro e w3 ⟨rfl, hb3⟩
    go_wp2_with fail
    go_ret
    exact ⟨rfl, hb3⟩
end Go.Proofs.Ytjplobfacdcgcaa
