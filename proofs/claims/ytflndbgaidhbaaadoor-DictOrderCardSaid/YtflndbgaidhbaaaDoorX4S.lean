/-
  The dict of texts: Len, Rooms and Get, walked. Conditions: those that each theorem states.
-/
import Derived.Test.YtflndbgaidhbaaaDoorX3S
namespace Go.Proofs.YtflndbgaidhbaaaDoor.Str
open Go.RowKit Dm

set_option maxHeartbeats 400000 in
theorem len_any (L : Lo) (d : D Nm) (w : World) (hd : DictAt KS w L d) :
    Calls Tryd.prog 13 #[.pointer (some ⟨L.bp, 0, none⟩)] w fun e w' => e = .returned (.int .i64 (d.many : Int)) ∧ w = w' := by
  have hc := hd.cells.2.2.2
  clear hd
  go_enter Tryd.func13, Tryd.ntmps13
  go_wp2
  go_ret
  exact ⟨rfl, rfl⟩

/-- How many rooms of the elder table are left. -/
def left (d : D Nm) : Nat := d.old.length - d.next

set_option maxHeartbeats 800000 in
theorem rooms_any (L : Lo) (d : D Nm) (w : World) (hd : DictAt KS w L d) (hO : d.old.length ≤ 1000000) (hn : d.next ≤ d.old.length) :
    Calls Tryd.prog 25 #[.pointer (some ⟨L.bp, 0, none⟩)] w fun e w' => e = .returned (.tuple #[.int .i64 (d.now.length : Int), .int .i64 ((left d : Nat) : Int)]) ∧ ∃ n, w' = w.drewN n := by
  have hc0 := hd.cells.1
  have hc1 := hd.cells.2.1
  have hc2 := hd.cells.2.2.1
  have hle : ((left d : Nat) : Int) = (d.old.length : Int) - (d.next : Int) := by unfold left; omega
  have HL := Lib.hid hle
  clear hle
  obtain ⟨A, c, ho⟩ : ∃ A c, oldV L d = .slice A d.old.length c := by
    unfold oldV; split
    · rename_i h; rw [h]; exact ⟨none, 0, rfl⟩
    · exact ⟨_, _, rfl⟩
  rw [ho] at hc1
  clear hd ho
  go_enter Tryd.func25, Tryd.ntmps25
  go_wp2
  go_quiet (fail)
  go_wp2
  go_ret2
  exact ⟨by rw [HL.out]; rfl, _, rfl⟩

set_option maxHeartbeats 800000 in
theorem get_any (s : ByteArray) (L : Lo) (d : D Nm) (T : Nat → Int) (w : World) (hd : DictAt KS w L d) (hT : Tab T w) (hpos : 0 < d.now.length) (hmax : s.size ≤ 140737488351232)
    (hN : d.now.length ≤ 1000000) (hO : d.old.length ≤ 1000000) (hR : ∀ r ∈ d.now, r.length ≤ 1000000) (hR2 : ∀ r ∈ d.old, r.length ≤ 1000000) :
    Calls Tryd.prog 10 #[.pointer (some ⟨L.bp, 0, none⟩), .string s] w fun e w' =>
      e = .returned (.tuple #[.string ⟨((Dm.get (hsh T) d s.data.toList).getD []).toArray⟩, .bool (Dm.get (hsh T) d s.data.toList).isSome]) ∧ Below w.heap.size w w' := by
  have HF := Lib.hid (find_any s L d T w hd hT hpos hmax hN hO hR hR2)
  have HD := Lib.hid hd
  have HRa := Lib.hid hR
  have HRb := Lib.hid hR2
  clear hT hR hR2
  cases hf : find (hsh T) d s.data.toList with
  | none =>
    have hg : Dm.get (hsh T) d s.data.toList = none := by unfold Dm.get; rw [hf]
    have HF2 := Lib.hid hf
    have HG := Lib.hid hg
    clear hf hg hd
    go_enter Tryd.func10, Tryd.ntmps10
    go_wp2_with fail
    refine HF.out.mono ?_
    rintro e w1 ⟨p, rfl, _, hb⟩
    rw [HF2.out]
    have e1 : fInt none = -1 := rfl
    rw [e1]
    have HB := Lib.hid hb
    clear hb e1
    go_wp2_with fail
    go_ret2
    exact ⟨by rw [HG.out]; rfl, HB.out⟩
  | some bk =>
    obtain ⟨b, k⟩ := bk
    obtain ⟨i, r, p, x, q, hi, hie, hr, hl, hx⟩ := find_some (hsh T) hf
    have hrk : r[k]? = some x := by rw [hr, List.getElem?_append_right (by omega), hl]; simp
    have hg : Dm.get (hsh T) d s.data.toList = some x.2 := by
      unfold Dm.get; rw [hf]
      cases b <;> simp only [Bool.false_eq_true, if_true, if_false] at hi hie ⊢ <;> rw [← hie, List.getD_eq_getElem?_getD, hi] <;> simp [hrk]
    have hkr : k < r.length := (List.getElem?_eq_some_iff.1 hrk).1
    have hrl : r.length ≤ 1000000 := by
      cases b <;> simp only [Bool.false_eq_true, if_true, if_false] at hi
      · exact HRa.out _ (List.mem_of_getElem? hi)
      · exact HRb.out _ (List.mem_of_getElem? hi)
    have room : ∃ u, RoomAt 63 2 KS.enc w u r ∧ w.cell? (fPtr T L d s.data.toList b) = some u ∧ (fPtr T L d s.data.toList b).block < w.heap.size := by
      unfold fPtr
      rw [← hie]
      cases b <;> simp only [Bool.false_eq_true, if_true, if_false] at hi ⊢
      · obtain ⟨u, _, h1, h2, _⟩ := hd.now.room hi
        exact ⟨u, h1, h2, lt_of_heap hd.now.1⟩
      · have ho : d.old ≠ [] := by intro e; rw [e] at hi; simp at hi
        obtain ⟨u, _, h1, h2, _⟩ := (hd.old ho).room hi
        exact ⟨u, h1, h2, lt_of_heap (hd.old ho).1⟩
    obtain ⟨u, hru, hcu, hpb⟩ := room
    obtain ⟨g, cap, rfl, hrb, hit⟩ := hru.item KS.hs hrk
    have hglt := (hru.lt hrb).1
    have hc1 := (hit 1 _ rfl).1
    have HF2 := Lib.hid hf
    have HG := Lib.hid hg
    clear hf hg hd hi hie hr hl hx hrk hit hru hrb
    go_enter Tryd.func10, Tryd.ntmps10
    go_wp2_with fail
    refine HF.out.mono ?_
    rintro e w1 ⟨p, rfl, hp, hb⟩
    rw [hp b k HF2.out, HF2.out]
    have e1 : fInt (some (b, k)) = (k : Int) := rfl
    rw [e1]
    have hcu1 := (hb.cell hpb).trans hcu
    have hc11 := (hb.cell (p := ⟨g, k * 2 + 1, none⟩) hglt).trans hc1
    have HB := Lib.hid hb
    clear hb e1 hp hcu hc1
    generalize fPtr T L d s.data.toList b = pp at hcu1
    go_wp2_with fail
    go_ret2
    exact ⟨by rw [HG.out]; rfl, HB.out⟩
end Go.Proofs.YtflndbgaidhbaaaDoor.Str
