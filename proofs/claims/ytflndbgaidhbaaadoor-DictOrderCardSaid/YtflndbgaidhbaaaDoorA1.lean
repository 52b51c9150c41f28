/-
  Alive, walked: it tells true. Conditions: those that each theorem states.
-/
import Derived.Test.YtflndbgaidhbaaaDoorP1
namespace Go.Proofs.YtflndbgaidhbaaaDoor
open Go.RowKit Dm

/-- The five names that alive puts, and the dict behind so many of them. -/
def nmB (k : Nat) : ByteArray := ⟨#[UInt8.ofNat (97 + k)]⟩
def aD (T : Nat → Int) : Nat → D Int
  | 0 => Dm.new
  | k + 1 => Dm.put (hsh T) (aD T k) (nmB k).data.toList (k : Int)
section
variable {T : Nat → Int}
theorem aD_small : ∀ k, k ≤ 5 → Small T k (aD T k)
  | 0, _ => Small.new T
  | k + 1, h => (aD_small k (by omega)).put (by omega) _ _ (by simp [nmB])
theorem put_fresh {d : D Int} (ho : d.old = []) {n : Nm} {v : Int} (hd : Inv (hsh T) d) (hn : ∀ x ∈ d.cont, x.1 ≠ n) :
    Dm.put (hsh T) d n v = if d.now.length < d.many + 1 then begin_ { ({ d with now := put1 (hsh T) d.now (n, v) } : D Int) with many := d.many + 1 } (2 * d.now.length) else { ({ d with now := put1 (hsh T) d.now (n, v) } : D Int) with many := d.many + 1 } := by
  have hs : Dm.step (hsh T) d = d := by unfold Dm.step; rw [if_pos ho]
  unfold Dm.put
  rw [hs, put2_none_eq ((find_none _ hd n).2 hn)]
  by_cases h : d.now.length < d.many + 1
  · rw [if_pos ⟨ho, h⟩, if_pos h]
  · rw [if_neg (fun h2 => h h2.2), if_neg h]
theorem nmB_ne {i k : Nat} (hi : i < 5) (hk : k < 5) (h : i ≠ k) : (nmB i).data.toList ≠ (nmB k).data.toList := by
  intro e
  have e2 : UInt8.ofNat (97 + i) = UInt8.ofNat (97 + k) := by simpa [nmB] using e
  have e3 := congrArg UInt8.toNat e2
  simp only [UInt8.toNat_ofNat'] at e3
  omega
theorem aD_names : ∀ k, k ≤ 5 → ∀ x ∈ (aD T k).cont, ∃ i, i < k ∧ x.1 = (nmB i).data.toList
  | 0, _, x, hx => by simp [aD, Dm.new, D.cont] at hx
  | k + 1, h, x, hx => by
    rcases (put_mem _ (aD_small k (by omega)).inv _ _ x).1 hx with rfl | ⟨h1, _⟩
    · exact ⟨k, by omega, rfl⟩
    · obtain ⟨i, hi, e⟩ := aD_names k (by omega) x h1
      exact ⟨i, by omega, e⟩
theorem aD_fresh {k : Nat} (hk : k < 5) : ∀ x ∈ (aD T k).cont, x.1 ≠ (nmB k).data.toList := by
  intro x hx e
  obtain ⟨i, hi, e2⟩ := aD_names k (by omega) x hx
  exact nmB_ne (by omega) hk (by omega) (e2.symm.trans e)
theorem aD_four : ∀ k, k ≤ 4 → (aD T k).old = [] ∧ (aD T k).now.length = 4 ∧ (aD T k).many = k
  | 0, _ => ⟨rfl, by simp [aD, Dm.new], rfl⟩
  | k + 1, h => by
    obtain ⟨h1, h2, h3⟩ := aD_four k (by omega)
    have e := put_fresh (T := T) h1 (n := (nmB k).data.toList) (v := (k : Int)) (aD_small k (by omega)).inv (aD_fresh (by omega))
    rw [if_neg (by omega)] at e
    have e2 : aD T (k + 1) = { ({ (aD T k) with now := put1 (hsh T) (aD T k).now ((nmB k).data.toList, (k : Int)) } : D Int) with many := (aD T k).many + 1 } := e
    rw [e2]
    exact ⟨h1, by simp only [put1_length]; exact h2, by simp only; omega⟩
theorem aD_five : (aD T 5).now.length = 8 ∧ left (aD T 5) = 4 ∧ (aD T 5).many = 5 ∧ Dm.get (hsh T) (aD T 5) (nmB 4).data.toList = some 4 := by
  obtain ⟨h1, h2, h3⟩ := aD_four (T := T) 4 (by omega)
  have hi := (aD_small (T := T) 4 (by omega)).inv
  have e := put_fresh (T := T) h1 (n := (nmB 4).data.toList) (v := ((4 : Nat) : Int)) hi (aD_fresh (by omega))
  rw [if_pos (by omega)] at e
  have e2 : aD T 5 = begin_ { ({ (aD T 4) with now := put1 (hsh T) (aD T 4).now ((nmB 4).data.toList, ((4 : Nat) : Int)) } : D Int) with many := (aD T 4).many + 1 } (2 * (aD T 4).now.length) := e
  have hg : Dm.get (hsh T) (aD T 5) (nmB 4).data.toList = some 4 := (get_mem _ (aD_small 5 (by omega)).inv _ _).2 ((put_mem _ hi _ _ _).2 (.inl rfl))
  refine ⟨?_, ?_, ?_, hg⟩
  · rw [e2]; simp only [begin_, List.length_replicate]; omega
  · rw [e2]
    have h0 := hi.none_ h1
    unfold left begin_
    simp only [put1_length]
    omega
  · rw [e2]; simp only [begin_]; omega
end

/-- A dict of the call's own. -/
def Own (w wr : World) (L : Lo) (d : D Int) : Prop := DictAt KI wr L d ∧ (∀ b, foot L d b → w.heap.size ≤ b) ∧ Below w.heap.size w wr
theorem Own.after {w wr w' : World} {L : Lo} {d d' : D Int} (h : Own w wr L d) (ha : After KI wr L d d' w') : ∃ L', L'.bp = L.bp ∧ Own w w' L' d' ∧ (∀ b, foot L' d' b → foot L d b ∨ wr.heap.size ≤ b) ∧ Fr (foot L d) wr w' := by
  obtain ⟨L', e, hd, hf, hft⟩ := ha
  refine ⟨L', e, ⟨hd, fun b hb => ?_, h.2.2.trans (hf.below h.2.1 h.2.2.size)⟩, hft, hf⟩
  rcases hft b hb with h1 | h1
  · exact h.2.1 b h1
  · exact Nat.le_trans h.2.2.size h1
theorem Own.below {w wr w' : World} {L : Lo} {d : D Int} (h : Own w wr L d) (hb : Below wr.heap.size wr w') : Own w w' L d := ⟨h.1.below hb, h.2.1, h.2.2.trans (hb.mono h.2.2.size)⟩
theorem Tab.lt {T : Nat → Int} {w : World} (h : Tab T w) : 0 < w.heap.size := World.block_lt_of_cell? w _ (h 0 (by omega))
theorem Own.zero {T : Nat → Int} {w wr : World} {L : Lo} {d : D Int} (h : Own w wr L d) (hT : Tab T w) : ¬ foot L d 0 := fun hf => by have := h.2.1 0 hf; have := hT.lt; omega

set_option maxHeartbeats 6400000 in
set_option maxRecDepth 100000 in
theorem alive_any (T : Nat → Int) (w : World) (hT : Tab T w) : Calls Tryd.prog 8 #[] w fun e w' => e = .returned (.bool true) ∧ Below w.heap.size w w' := by
  have HT := Lib.hid hT
  clear hT
  go_enter Tryd.func8, Tryd.ntmps8
  go_wp2_with fail
  refine (new_any _).mono ?_
  rintro e w1 ⟨L, rfl, hd, hb, hf⟩
  have HO := Lib.hid (show Own w w1 L (aD T 0) from ⟨hd, hf, hb⟩)
  clear hd hb hf
  go_wp2_with fail
  obtain ⟨W, hW⟩ : ∃ W, W = w1.alloc (.cells #[.string ⟨#[97]⟩, .string ⟨#[98]⟩, .string ⟨#[99]⟩, .string ⟨#[100]⟩, .string ⟨#[101]⟩] 9) := ⟨_, rfl⟩
  have hlit : W.heap[w1.heap.size]? = some (.cells #[.string ⟨#[97]⟩, .string ⟨#[98]⟩, .string ⟨#[99]⟩, .string ⟨#[100]⟩, .string ⟨#[101]⟩] 9 (0, 0)) := by rw [hW]; exact heap_alloc_new w1 _
  have HO1 := Lib.hid (show Own w W L (aD T 0) from by rw [hW]; exact HO.out.below ((Below.refl _ _).alloc (Nat.le_refl _) _))
  have hnf : ∀ b, foot L (aD T 0) b → b ≠ w1.heap.size := fun b hb => by have := HO.out.1.lt hb; omega
  have HNf := Lib.hid hnf
  have HLit := Lib.hid hlit
  have hltW := lt_of_heap hlit
  rw [← hW]
  clear hW hlit hnf HO
  go_loopw [13] (fun i wr => ∃ (k : Nat) (L2 : Lo), k ≤ 5 ∧ i = .int .i64 (k : Int) ∧ L2.bp = L.bp ∧ Own w wr L2 (aD T k) ∧ (∀ b, foot L2 (aD T k) b → b ≠ w1.heap.size) ∧ wr.heap[w1.heap.size]? = W.heap[w1.heap.size]? ∧ w1.heap.size < wr.heap.size) (fun i _ => 5 - (intOf i).toNat)
  case atStart => exact ⟨0, L, by omega, rfl, rfl, HO1.out, HNf.out, rfl, hltW⟩
  case round =>
    obtain ⟨k, L2, hk, rfl, hbp, hO, hne, hblk, hlt⟩ := hrel
    by_cases hk5 : k < 5
    · have hx := hblk.trans HLit.out
      have hc : wr.cell? ⟨w1.heap.size, k, none⟩ = some (.string (nmB k)) := by
        rw [cell_of_row wr _ k _ _ (0, 0) hx]
        rcases (show k = 0 ∨ k = 1 ∨ k = 2 ∨ k = 3 ∨ k = 4 by omega) with rfl | rfl | rfl | rfl | rfl <;> rfl
      have HP := Lib.hid ((put_any (nmB k) (k : Int) L2 (aD T k) T wr hO.1 (tab_below HT.out (hO.2.2)) ((aD_small k (by omega)).fit (by omega)) (hO.zero HT.out) (by simp [nmB, ByteArray.size])).mono (R' := fun e w' => (∃ b, e = .returned (.bool b)) ∧ After KI wr L2 (aD T k) (aD T (k + 1)) w') (fun e w' h => ⟨⟨_, h.1⟩, h.2⟩))
      rw [hbp] at HP
      have HO2 := Lib.hid hO
      have HNe := Lib.hid hne
      have HBlk := Lib.hid hblk
      have HBP := Lib.hid hbp
      clear hO hne hblk hx hbp
      generalize nmB k = s at HP hc
      go_wp2_with fail
      refine HP.out.mono ?_
      rintro e w2 ⟨⟨b, rfl⟩, hA⟩
      obtain ⟨L3, hbp3, hO3, hft3, hfr3⟩ := HO2.out.after hA
      have HR := Lib.hid (show _ ∧ _ ∧ _ ∧ _ ∧ _ from ⟨hbp3.trans HBP.out, hO3, fun b hb => show b ≠ w1.heap.size from by
          rcases hft3 b hb with h1 | h1
          · exact HNe.out b h1
          · omega,
        (hfr3.block _ hlt (fun h => HNe.out _ h rfl)).trans HBlk.out, Nat.lt_of_lt_of_le hlt hfr3.size⟩)
      clear hA hbp3 hO3 hft3 hfr3 hc HP
      go_wp2_with fail
      go_roundw
      case rel => exact ⟨k + 1, L3, by omega, by go_num, HR.out⟩
      case measure => simp [intOf]; omega
    · have hke : k = 5 := by omega
      subst hke
      obtain ⟨p1, p2, p3, p4⟩ := aD_five (T := T)
      have hsm := aD_small (T := T) 5 (by omega)
      have hfit := hsm.fit (by omega)
      have HR := Lib.hid (rooms_any L2 (aD T 5) wr hO.1 (by have := hsm.old; omega) (by
        by_cases ho : (aD T 5).old = []
        · rw [hsm.inv.none_ ho]; omega
        · exact Nat.le_of_lt (hsm.inv.lt ho)))
      rw [hbp, p1, p2] at HR
      have HG := Lib.hid (fun w' (hb : Below wr.heap.size wr w') => get_any (nmB 4) L2 (aD T 5) T w' (hO.1.below hb) (tab_below HT.out (hO.2.2.trans (hb.mono hO.2.2.size))) hsm.inv.pos (by simp [nmB, ByteArray.size]) (by omega) (by have := hsm.old; omega) (fun r hr => by have := hfit.room (.inl hr); omega) (fun r hr => by have := hfit.room (.inr hr); omega))
      rw [hbp, p4] at HG
      have HL := Lib.hid (fun w' (hb : Below wr.heap.size wr w') => len_any L2 (aD T 5) w' (hO.1.below hb))
      rw [hbp, p3] at HL
      have HB := Lib.hid hO.2.2
      have hs4 : nmB 4 = ⟨#[101]⟩ := rfl
      rw [hs4] at HG
      clear hO hne hblk hbp p1 p2 p3 p4 hsm hfit hs4
      go_wp2_with fail
      refine HR.out.mono ?_
      rintro e w2 ⟨rfl, n2, rfl⟩
      have hb2 : Below wr.heap.size wr (wr.drewN n2) := below_drewN (Below.refl _ _) n2
      generalize wr.drewN n2 = w2 at hb2 ⊢
      go_wp2_with fail
      refine (HG.out _ hb2).mono ?_
      rintro e w3 ⟨rfl, hb3⟩
      have hb4 := hb2.trans (hb3.mono hb2.size)
      go_wp2_with fail
      refine (HL.out _ hb4).mono ?_
      rintro e w4 ⟨rfl, rfl⟩
      go_wp2_with fail
      go_ret
      exact ⟨rfl, HB.out.trans (hb4.mono HB.out.size)⟩
end Go.Proofs.YtflndbgaidhbaaaDoor
