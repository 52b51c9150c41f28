/-
  Copied, walked: a table in memory of its own. Conditions: those that each theorem states.
-/
import Derived.Test.YtflndbgaidhbaaaDoorX11
namespace Go.Proofs.YtflndbgaidhbaaaDoor
open Go.RowKit Dm

/-- The loop that copies the rooms. -/
def CMid (t : List (Room Int)) (cn : Array Value) (w : World) (g cap j : Nat) (wr : World) : Prop :=
  ∃ cur, wr.heap[g]? = some (.cells cur 80 (0, 0)) ∧ cur.size = cap ∧ (∀ i r, i < j → t[i]? = some r → ∃ u, cur[i]? = some u ∧ RoomAt 82 2 KI.enc wr u r) ∧ Ap cur j ∧ (∀ b, In cur j b → w.heap.size ≤ b) ∧ (∀ i, j ≤ i → i < t.length → cur[i]? = cn[i]?) ∧ Below w.heap.size w wr

theorem cmid_next {t : List (Room Int)} {cn : Array Value} {w wr w1 : World} {g cap j : Nat} {r : Room Int} {u' : Value} (h : CMid t cn w g cap j wr) (hr : t[j]? = some r) (hg : w.heap.size ≤ g) (hc : t.length ≤ cap)
    (hru : RoomAt 82 2 KI.enc w1 u' r) (hn : ∀ b, rb u' = some b → wr.heap.size ≤ b) (hb : Below wr.heap.size wr w1) : CMid t cn w g cap (j + 1) (w1.setCell ⟨g, j, none⟩ u') := by
  obtain ⟨cur, h1, h2, h3, h4, h5, h6, h7⟩ := h
  have hjl := (List.getElem?_eq_some_iff.1 hr).1
  have hgl := lt_of_heap h1
  have hg1 : w1.heap[g]? = some (.cells cur 80 (0, 0)) := (hb.block g hgl).trans h1
  have hne : ∀ b, rb u' = some b → b ≠ g := fun b e => by have := hn b e; omega
  -- a room already copied is not behind the new one, nor at the table's own block
  have old : ∀ i, i < j → ∀ u, cur[i]? = some u → ∀ b, rb u = some b → b < wr.heap.size ∧ b ≠ g := by
    intro i hi u hu b e
    obtain ⟨u2, hu2, hru2⟩ := h3 i _ hi (List.getElem?_eq_getElem (by omega))
    obtain rfl : u = u2 := by rw [hu] at hu2; exact Option.some.inj hu2
    obtain ⟨hl, c, hcc⟩ := hru2.lt e
    exact ⟨hl, heap_ne hcc h1 (by decide)⟩
  refine ⟨cur.setIfInBounds j u', setCell_blk hg1 u', by simpa using h2, fun i r2 hi hi2 => ?_, ?_, ?_, fun i hi hi2 => ?_, ?_⟩
  · by_cases e : j = i
    · subst e
      obtain rfl : r = r2 := by rw [hr] at hi2; exact Option.some.inj hi2
      exact ⟨u', get_set_eq u' (by omega), hru.kept fun b e => setCell_far u' (hne b e)⟩
    · obtain ⟨u, hu, hru2⟩ := h3 i r2 (by omega) hi2
      refine ⟨u, by rw [get_set_ne u' e]; exact hu, hru2.kept fun b e2 => ?_⟩
      obtain ⟨hl, hne2⟩ := old i (by omega) u hu b e2
      exact (setCell_far u' hne2).trans (hb.block b hl)
  · intro i k u v b hi hk hu hv e1 e2
    by_cases ei : j = i
    · subst ei
      rw [get_set_eq u' (by omega)] at hu
      obtain rfl := Option.some.inj hu
      by_cases ek : j = k
      · exact ek
      · rw [get_set_ne u' ek] at hv
        have := (old k (by omega) v hv b e2).1
        have := hn b e1
        omega
    · rw [get_set_ne u' ei] at hu
      by_cases ek : j = k
      · subst ek
        rw [get_set_eq u' (by omega)] at hv
        obtain rfl := Option.some.inj hv
        have := (old i (by omega) u hu b e1).1
        have := hn b e2
        omega
      · rw [get_set_ne u' ek] at hv
        exact h4 i k u v b (by omega) (by omega) hu hv e1 e2
  · rintro b ⟨i, u, hi, hu, e⟩
    by_cases ei : j = i
    · subst ei
      rw [get_set_eq u' (by omega)] at hu
      obtain rfl := Option.some.inj hu
      have := hn b e
      have := h7.size
      omega
    · rw [get_set_ne u' ei] at hu
      exact h5 b ⟨i, u, by omega, hu, e⟩
  · rw [get_set_ne u' (by omega)]
    exact h6 i (by omega) hi2
  · exact ((h7.trans (hb.mono h7.size)).setCell (p := ⟨g, j, none⟩) hg u')

theorem tab_one {w : World} {g : Nat} {cn : Array Value} {t : List (Room Int)} {tr : Nat} (h : TabAt 82 2 tr KI.enc w g cn t) : ∀ u ∈ cn.toList.take t.length, u.oneCell' = true := by
  intro u hu
  obtain ⟨i, hi⟩ := List.getElem?_of_mem hu
  rw [List.getElem?_take] at hi
  split at hi
  · rename_i hl
    obtain ⟨u2, hu2, hr⟩ := h.2.2.2 i _ (List.getElem?_eq_getElem hl)
    have : u = u2 := by rw [Array.getElem?_toList, hu2] at hi; exact (Option.some.inj hi).symm
    subst this
    obtain ⟨A, c, rfl, _⟩ := hr.shape
    rfl
  · simp at hi

set_option maxHeartbeats 3200000 in
set_option maxRecDepth 100000 in
theorem copied_any (g c : Nat) (t : List (Room Int)) (cn : Array Value) (w : World) (hT : TabAt 82 2 80 KI.enc w g cn t) (hp : 0 < t.length) (hl : t.length ≤ 500000) (hrl : ∀ r ∈ t, r.length ≤ 400000) :
    Calls Tryd.prog 38 #[.slice (some ⟨g, 0, none⟩) t.length c] w fun e w' => ∃ g' cur, e = .returned (.slice (some ⟨g', 0, none⟩) t.length cur.size) ∧ TabAt 82 2 80 KI.enc w' g' cur t ∧ Ap cur t.length ∧ (∀ b, In cur t.length b → w.heap.size ≤ b) ∧ w.heap.size ≤ g' ∧ Below w.heap.size w w' := by
  have HC := Lib.hid (tclone_any g t.length c cn w hT.1 hT.2.1 hl (tab_one hT))
  have HTab := Lib.hid hT
  have HRl := Lib.hid hrl
  clear hT hrl
  obtain ⟨n, hn⟩ : ∃ n, n = t.length := ⟨_, rfl⟩
  rw [← hn] at hl HC hp ⊢
  have HN := Lib.hid hn
  clear hn
  go_enter Tryd.func38, Tryd.ntmps38
  go_wp2_with fail
  refine HC.out.mono ?_
  rintro e w1 ⟨v', rfl, ho, hb⟩
  rcases ho.2 with ⟨rfl, h0⟩ | ⟨g', cap, cur, rfl, hgB, hg', hle, hm, hsz, htk⟩
  · omega
  have hM0 : CMid t cn w g' cap 0 w1 := by
    refine ⟨cur, hg', by simpa using hsz, fun i r hi => absurd hi (by omega), fun i j u u' b hi => absurd hi (by omega), fun b ⟨i, u, hi, _⟩ => absurd hi (by omega), fun i _ hi => ?_, hb⟩
    have e := congrArg (fun l => l[i]?) htk
    simp only [Nat.mul_one, List.getElem?_take] at e
    have hi' : i < n := by rw [HN.out]; exact hi
    rw [if_pos hi', if_pos hi'] at e
    simpa using e
  have HM0 := Lib.hid hM0
  unfold maxLen at hm
  clear hM0 ho hb hg' hsz htk HC
  go_wp2_with fail
  go_loopw [9] (fun i wr => ∃ (j : Nat), j ≤ n ∧ i = .int .i64 j ∧ CMid t cn w g' cap j wr) (fun i _ => n - (intOf i).toNat)
  case atStart => exact ⟨0, Nat.zero_le _, rfl, HM0.out⟩
  case round =>
    obtain ⟨j, hj, rfl, hM⟩ := hrel
    by_cases hjl : j < n
    · obtain ⟨r, hr⟩ : ∃ r, t[j]? = some r := ⟨_, List.getElem?_eq_getElem (by rw [← HN.out]; exact hjl)⟩
      obtain ⟨u, hu, hru⟩ := HTab.out.2.2.2 j r hr
      have hlr := HRl.out r (List.mem_of_getElem? hr)
      have hM' := hM
      obtain ⟨cur2, h1, h2, _, _, _, h6, h7⟩ := hM'
      have hcu : wr.cell? ⟨g', j, none⟩ = some u := by rw [cell_of_row wr g' j cur2 80 (0, 0) h1, h6 j (Nat.le_refl _) (by rw [← HN.out]; exact hjl)]; exact hu
      have hfu : wr.frozen? ⟨g', j, none⟩ = false := by simp [World.frozen?, h1]
      have HS := Lib.hid (sclone_any u r wr (hru.kept fun b hb => h7.block b (hru.lt hb).1) hlr)
      have hglt := lt_of_heap h1
      have HM := Lib.hid hM
      have HR := Lib.hid hr
      obtain ⟨A, c2, rfl, _, _⟩ := hru.shape
      clear hM hr hu hru h1 h2 h6 h7
      go_wp2_with fail
      refine HS.out.mono ?_
      rintro e w2 ⟨u', rfl, hru', hn', hb'⟩
      have hcu2 := (hb'.cell (p := ⟨g', j, none⟩) hglt).trans hcu
      have hfu2 := (hb'.frozen (p := ⟨g', j, none⟩) hglt).trans hfu
      have HNx := Lib.hid (cmid_next HM.out HR.out hgB (by rw [← HN.out]; exact hle) hru' hn' hb')
      obtain ⟨A', c3, rfl, _, _⟩ := hru'.shape
      clear hru' hn' hb' HM HS HR hcu hfu
      go_wp2_with fail
      go_roundw
      case rel => exact ⟨j + 1, by omega, by go_num, HNx.out⟩
      case measure => simp [intOf]; omega
    · have hje : j = n := by omega
      subst hje
      have HM := Lib.hid hM
      clear hM
      go_wp2_with fail
      go_ret
      obtain ⟨cur2, h1, h2, h3, h4, h5, h6, h7⟩ := HM.out
      refine ⟨g', cur2, by rw [h2]; rfl, ⟨h1, by rw [h2, ← HN.out]; exact hle, by rw [h2]; unfold maxLen; exact hm, fun i r hi => h3 i r (by rw [HN.out]; exact (List.getElem?_eq_some_iff.1 hi).1) hi⟩, h4, h5, hgB, h7⟩

set_option maxHeartbeats 3200000 in
set_option maxRecDepth 100000 in
theorem copied_nil (n : Nat) (w : World) : Calls Tryd.prog 38 #[.slice none 0 n] w fun e w' => e = .returned (.slice none 0 0) ∧ w = w' := by
  have HC := Lib.hid (tclone_nil 0 n w)
  go_enter Tryd.func38, Tryd.ntmps38
  go_wp2_with fail
  refine HC.out.mono ?_
  rintro e w1 ⟨rfl, rfl⟩
  go_wp2_with fail
  go_loopw [9] (fun i wr => i = .int .i64 0 ∧ wr = w1) (fun i _ => 0)
  case atStart => exact ⟨rfl, rfl⟩
  case round =>
    obtain ⟨rfl, rfl⟩ := hrel
    go_wp2_with fail
    go_ret
    exact ⟨rfl, rfl⟩
end Go.Proofs.YtflndbgaidhbaaaDoor
