/-
  The test of a name in slices.IndexFunc, and IndexFunc, walked. Conditions: those that each theorem states.
-/
import Derived.Test.YtflndbgaidhbaaaDoorX1
import Derived.Test.YtflndbgaidhbaaaDoorMem2
namespace Go.Proofs.YtflndbgaidhbaaaDoor
open Go.RowKit Dm

theorem encStr_data (s : ByteArray) : encStr s.data.toList = .string s := rfl
theorem str_eq (l n : List UInt8) : ((⟨l.toArray⟩ : ByteArray).toList == n) = decide (l = n) := by
  rw [ByteArray.toList_eq]
  by_cases h : l = n <;> simp [h]

/-- The dict of numbers. -/
def KI : Ty Int where
  ti := 82
  tr := 80
  td := 74
  sz := 2
  enc := fun v => [.int .i64 v]
  hs := fun _ => rfl
  h1 := by intro v u hu; rw [List.mem_singleton.1 hu]; rfl
  d1 := by decide
  d2 := by decide
  d3 := by decide

set_option maxHeartbeats 400000 in
theorem same_any (l : Nm) (s : ByteArray) (v : Int) (bn : Nat) (w : World) (hn : w.cell? ⟨bn, 0, none⟩ = some (.string s)) :
    Calls Tryd.prog 46 #[.agg #[.string ⟨l.toArray⟩, .int .i64 v], .pointer (some ⟨bn, 0, none⟩)] w fun e w' => e = .returned (.bool (decide (l = s.data.toList))) ∧ Below w.heap.size w w' := by
  have hlt := World.block_lt_of_cell? w _ hn
  have h2 : ∀ o, (w.alloc o).cell? ⟨bn, 0, none⟩ = some (.string s) := fun o => (World.cell?_alloc_lt w o _ hlt).trans hn
  have e := str_eq l s.toList
  rw [ByteArray.toList_eq s] at e
  have HE := Lib.hid e
  clear e
  go_enter Tryd.func46, Tryd.ntmps46
  go_wp2
  go_ret
  refine ⟨?_, (Below.refl _ _).alloc (Nat.le_refl _) _⟩
  have := HE.out
  rw [← this]
  simp [ByteArray.toList_eq]

theorem ix_found {α : Type} {n : Nm} : ∀ {r : Room α} {k : Nat} {x : Nm × α} (hk : k < r.length), r[k] = x → (∀ y ∈ r.take k, y.1 ≠ n) → x.1 = n → ix n r = some k
  | y :: r, 0, x, _, he, _, hn => by
    obtain rfl : y = x := by simpa using he
    unfold ix; rw [if_pos hn]
  | y :: r, k + 1, x, hk, he, hno, hn => by
    have hy : y.1 ≠ n := hno y (by simp)
    have := ix_found (r := r) (k := k) (x := x) (by simpa using hk) (by simpa using he) (fun z hz => hno z (by simp [hz])) hn
    unfold ix; rw [if_neg hy, this]; rfl

def ixInt (o : Option Nat) : Int := match o with | some k => (k : Int) | none => -1

set_option maxHeartbeats 800000 in
theorem index_any (r : Room Int) (rv : Value) (s : ByteArray) (bn : Nat) (w : World) (hr : RoomAt 82 2 KI.enc w rv r) (hn : w.cell? ⟨bn, 0, none⟩ = some (.string s)) (hmax : r.length ≤ 1000000) :
    Calls Tryd.prog 47 #[rv, .func (.func 46) #[] #[.pointer (some ⟨bn, 0, none⟩)]] w fun e w' => e = .returned (.int .i64 (ixInt (ix s.data.toList r))) ∧ Below w.heap.size w w' := by
  have hnlt := World.block_lt_of_cell? w _ hn
  obtain ⟨A, c, hrv, hlc, _⟩ := hr.shape
  subst hrv
  go_enter Tryd.func47, Tryd.ntmps47
  go_wp2_with fail
  go_loopw [5, 8] (fun _ i wr => ∃ (k : Nat), k ≤ r.length ∧ i = .int .i64 k ∧ Below w.heap.size w wr ∧ ∀ x ∈ r.take k, x.1 ≠ s.data.toList) (fun _ i _ => r.length - (intOf i).toNat)
  case atStart => exact ⟨0, Nat.zero_le _, rfl, Below.refl _ _, by simp⟩
  case round =>
    obtain ⟨k, hk, rfl, hB, hno⟩ := hrel
    have HN := Lib.hid hno
    clear hno
    by_cases hlt : k < r.length
    · obtain ⟨g, cap, he, hrb, hit⟩ := hr.item KI.hs (List.getElem?_eq_getElem hlt)
      have hglt := (hr.lt hrb).1
      injection he with he1 he2 he3
      subst he1
      clear he2 he3
      have c0 := (hB.cell (p := ⟨g, k * 2 + 0, none⟩) hglt).trans (hit 0 _ rfl).1
      have c1 := (hB.cell (p := ⟨g, k * 2 + 1, none⟩) hglt).trans (hit 1 _ rfl).1
      have hnw := (hB.cell (p := ⟨bn, 0, none⟩) hnlt).trans hn
      have hsame := Lib.hid (same_any r[k].1 s r[k].2 bn wr hnw)
      simp only [Nat.add_zero] at c0
      generalize hx : r[k] = x at c0 c1 hsame
      have HX := Lib.hid hx
      clear hx hit hr hn hnw
      obtain ⟨l, v⟩ := x
      simp only [encStr] at c0
      by_cases hl : l = s.data.toList
      · have hix : ix s.data.toList r = some k := ix_found hlt HX.out HN.out hl
        rw [decide_eq_true hl] at hsame
        have HI := Lib.hid hix
        clear hl hix
        go_wp2_with fail
        refine hsame.out.mono ?_
        rintro e w1 ⟨rfl, hb1⟩
        have HB := Lib.hid (hB.trans (hb1.mono hB.size))
        clear hB hb1 c0 c1
        go_wp2_with fail
        go_ret
        exact ⟨by rw [HI.out]; rfl, HB.out⟩
      · rw [decide_eq_false hl] at hsame
        have HL := Lib.hid hl
        clear hl
        go_wp2_with fail
        refine hsame.out.mono ?_
        rintro e w1 ⟨rfl, hb1⟩
        have HB := Lib.hid (hB.trans (hb1.mono hB.size))
        clear hB hb1 c0 c1
        go_wp2_with fail
        go_roundw
        case rel =>
          refine ⟨k + 1, by omega, by go_num, HB.out, ?_⟩
          rw [List.take_succ_eq_append_getElem hlt, HX.out]
          intro y hy
          rcases List.mem_append.1 hy with hy | hy
          · exact HN.out y hy
          · rw [List.mem_singleton.1 hy]; exact HL.out
        case measure => simp [intOf]; omega
    · have HI := Lib.hid (ix_none.2 (fun x hx => HN.out x (by rw [List.take_of_length_le (by omega)]; exact hx)))
      go_wp2_with fail
      go_ret
      exact ⟨by rw [HI.out]; rfl, hB⟩
end Go.Proofs.YtflndbgaidhbaaaDoor
