/-
  Find, walked: where a name stands in a dict. Conditions: those that each theorem states.
-/
import Derived.Test.YtflndbgaidhbaaaDoorX2
import Derived.Deep.RegionHeld3
namespace Go.Proofs.YtflndbgaidhbaaaDoor
open Go.RowKit Dm

/-- The hash: which number it is does not matter. -/
def hsh (T : Nat → Int) (n : Nm) : Nat := (more T 0 n).toNat
theorem hsh_mod (T : Nat → Int) (n : Nm) (m : Nat) : more T 0 n % (m : Int) = ((hsh T n % m : Nat) : Int) := by
  have := more_range T n 0 ⟨by omega, by omega⟩
  unfold hsh
  rw [Int.natCast_emod, Int.toNat_of_nonneg this.1]
theorem room_nat (s : ByteArray) (m : Nat) (T : Nat → Int) (w : World) (hm : 1 ≤ m) (hmax : s.size ≤ 140737488351232) (hT : Tab T w) :
    Calls Tryd.prog 28 #[.string s, .int .i64 (m : Int)] w fun e w' => e = .returned (.int .i64 ((hsh T s.data.toList % m : Nat) : Int)) ∧ Below w.heap.size w w' := by
  have := room_any s m T w (by omega) hmax hT
  rw [hsh_mod] at this
  exact this

theorem below_undrew {w w1 : World} (h : Below w.drew.heap.size w.drew w1) : Below w.heap.size w w1 := ⟨h.os, h.tape, h.output, h.size, h.block⟩

/-- What find tells: the place in the room, or -1. -/
def fInt (o : Option (Bool × Nat)) : Int := match o with | some (_, k) => (k : Int) | none => -1
def fPtr (T : Nat → Int) {α : Type} (L : Lo) (d : D α) (n : Nm) (b : Bool) : Addr := ⟨if b then L.go else L.gn, at_ (hsh T) (if b then d.old else d.now) n, none⟩
def Found (T : Nat → Int) (L : Lo) (d : D Int) (n : Nm) (w : World) (e : Ending) (w' : World) : Prop :=
  ∃ p, e = .returned (.tuple #[.pointer (some p), .int .i64 (fInt (find (hsh T) d n))]) ∧ (∀ b k, find (hsh T) d n = some (b, k) → p = fPtr T L d n b) ∧ Below w.heap.size w w'

theorem room_of {t : List (Room Int)} {T : Nat → Int} {n : Nm} (hp : 0 < t.length) : t[at_ (hsh T) t n]? = some (t.getD (at_ (hsh T) t n) []) := by
  have hi : at_ (hsh T) t n < t.length := Nat.mod_lt _ hp
  rw [List.getD_eq_getElem?_getD, List.getElem?_eq_getElem hi]; rfl

theorem found_now {T : Nat → Int} {L : Lo} {d : D Int} {n : Nm} {w w' : World} {k : Nat} (hix : ix n (d.now.getD (at_ (hsh T) d.now n) []) = some k) (hb : Below w.heap.size w w') :
    Found T L d n w (.returned (.tuple #[.pointer (some ⟨L.gn, at_ (hsh T) d.now n, none⟩), .int .i64 (k : Int)])) w' := by
  have hf : find (hsh T) d n = some (false, k) := by unfold find; rw [hix]
  refine ⟨_, by rw [hf]; rfl, fun b k' e => ?_, hb⟩
  rw [hf] at e
  obtain ⟨rfl, rfl⟩ : false = b ∧ k = k' := by simpa using e
  rfl
theorem found_none {T : Nat → Int} {L : Lo} {d : D Int} {n : Nm} {w w' : World} {p : Addr} (hix : ix n (d.now.getD (at_ (hsh T) d.now n) []) = none) (ho : d.old = []) (hb : Below w.heap.size w w') :
    Found T L d n w (.returned (.tuple #[.pointer (some p), .int .i64 (-1)])) w' := by
  have hf : find (hsh T) d n = none := by unfold find; rw [hix]; simp only; rw [if_pos ho]
  exact ⟨p, by rw [hf]; rfl, fun b k e => by rw [hf] at e; simp at e, hb⟩
theorem found_old {T : Nat → Int} {L : Lo} {d : D Int} {n : Nm} {w w' : World} (hix : ix n (d.now.getD (at_ (hsh T) d.now n) []) = none) (ho : ¬ d.old = []) (hb : Below w.heap.size w w') :
    Found T L d n w (.returned (.tuple #[.pointer (some ⟨L.go, at_ (hsh T) d.old n, none⟩), .int .i64 (ixInt (ix n (d.old.getD (at_ (hsh T) d.old n) [])))])) w' := by
  have hf : find (hsh T) d n = (ix n (d.old.getD (at_ (hsh T) d.old n) [])).map fun k => (true, k) := by unfold find; rw [hix]; simp only; rw [if_neg ho]
  refine ⟨⟨L.go, at_ (hsh T) d.old n, none⟩, ?_, fun b k e => ?_, hb⟩
  · rw [hf]; cases ix n (d.old.getD (at_ (hsh T) d.old n) []) <;> rfl
  · rw [hf] at e
    obtain ⟨k', _, e2⟩ := Option.map_eq_some_iff.1 e
    obtain ⟨rfl, rfl⟩ : true = b ∧ k' = k := by simpa using e2
    rfl

set_option maxHeartbeats 3200000 in
set_option maxRecDepth 100000 in
theorem find_any (s : ByteArray) (L : Lo) (d : D Int) (T : Nat → Int) (w : World) (hd : DictAt KI w L d) (hT : Tab T w) (hpos : 0 < d.now.length) (hmax : s.size ≤ 140737488351232)
    (hN : d.now.length ≤ 1000000) (hO : d.old.length ≤ 1000000) (hR : ∀ r ∈ d.now, r.length ≤ 1000000) (hR2 : ∀ r ∈ d.old, r.length ≤ 1000000) :
    Calls Tryd.prog 37 #[.pointer (some ⟨L.bp, 0, none⟩), .string s] w (Found T L d s.data.toList w) := by
  have hc0 := hd.cells.1
  have hbp := lt_of_heap hd.blk
  have hgn := lt_of_heap hd.now.1
  have hi : at_ (hsh T) d.now s.data.toList < d.now.length := Nat.mod_lt _ hpos
  have hgd := room_of (T := T) (n := s.data.toList) hpos
  obtain ⟨u, hu, hru, hcu, hfu⟩ := hd.now.room hgd
  have hrb : ∀ b, rb u = some b → b < w.heap.size := fun b hb => (hru.lt hb).1
  have hrl : (d.now.getD (at_ (hsh T) d.now s.data.toList) []).length ≤ 1000000 := hR _ (List.mem_of_getElem? hgd)
  have hroom := Lib.hid (room_nat s d.now.length T)
  have hat : hsh T s.data.toList % d.now.length = at_ (hsh T) d.now s.data.toList := rfl
  rw [hat] at hroom
  have F1 := Lib.hid (fun k (h : ix s.data.toList (d.now.getD (at_ (hsh T) d.now s.data.toList) []) = some k) w' => found_now (L := L) (w := w) (w' := w') h)
  have F2 := Lib.hid (fun (h : ix s.data.toList (d.now.getD (at_ (hsh T) d.now s.data.toList) []) = none) p w' => found_none (L := L) (w := w) (w' := w') (p := p) h)
  have F3 := Lib.hid (fun (h : ix s.data.toList (d.now.getD (at_ (hsh T) d.now s.data.toList) []) = none) w' => found_old (L := L) (w := w) (w' := w') h)
  have HD := Lib.hid hd
  have HT := Lib.hid hT
  have HU := Lib.hid hru
  have HRB := Lib.hid hrb
  have HR2 := Lib.hid hR2
  clear hd hT hgd hat hu hru hrb hR hR2
  generalize d.now.getD (at_ (hsh T) d.now s.data.toList) [] = r at HU hrl F1 F2 F3
  generalize at_ (hsh T) d.now s.data.toList = i at hi hroom hcu hfu F1
  have hi0 : (0 : Int) ≤ (i : Int) := by omega
  have hi1 : (i : Int) < (d.now.length : Int) := by omega
  go_enter Tryd.func37, Tryd.ntmps37
  go_wp2_with fail
  have hb0 : Below w.heap.size w (w.alloc (.cells #[.string s] 9)) := (Below.refl _ _).alloc (Nat.le_refl _) _
  have hn0 : (w.alloc (.cells #[.string s] 9)).cell? ⟨w.heap.size, 0, none⟩ = some (.string s) := (cell_one_new w (.string s) 9 0 _ rfl)
  have hz0 : w.heap.size < (w.alloc (.cells #[.string s] 9)).heap.size := by simp
  have HT0 := Lib.hid (tab_below HT.out hb0)
  have HU0 := Lib.hid (HU.out.kept fun b hb => hb0.block b (HRB.out b hb))
  have hc00 := (hb0.cell (p := ⟨L.bp, 0, none⟩) hbp).trans hc0
  have hcu0 := (hb0.cell (p := ⟨L.gn, i, none⟩) hgn).trans hcu
  generalize w.alloc (.cells #[.string s] 9) = W at hb0 hn0 hz0 HT0 HU0 hc00 hcu0 ⊢
  clear hc0 hcu
  go_region_held3 (fun w' => w'.cell? ⟨L.bp, 0, none⟩ = some (.slice (some ⟨L.gn, 0, none⟩) d.now.length L.cn.size) ∧ w'.cell? ⟨w.heap.size, 0, none⟩ = some (.string s))
    (first | go_keep | (go_split_ands; exact ⟨(hb1.cell (p := ⟨L.bp, 0, none⟩) (by simp; omega)).trans hc00, (hb1.cell (p := ⟨w.heap.size, 0, none⟩) (by simp; omega)).trans hn0⟩))
    (first | (go_at_call 28; refine (hroom.out _ (by omega) hmax ?_).mono ?_; (exact HT0.out); rintro e w1 ⟨rfl, hb1⟩))
  have hb1' : Below W.heap.size W w1 := below_undrew hb1
  have hn1 := (hb1'.cell (p := ⟨w.heap.size, 0, none⟩) hz0).trans hn0
  have hcu1 := (hb1'.cell (p := ⟨L.gn, i, none⟩) (by show L.gn < _; omega)).trans hcu0
  have HU1 := HU0.out.kept fun b hb => hb1'.block b (by have := HRB.out b hb; omega)
  have HC := Lib.hid (index_any r u s w.heap.size w1 HU1 hn1 hrl)
  have hB1 := hb0.trans (hb1'.mono (by omega))
  have hz1 : w.heap.size < w1.heap.size := by have := hb1'.size; omega
  have HB := Lib.hid hB1
  have HT1 := Lib.hid (tab_below HT0.out hb1')
  obtain ⟨A, c, rfl, _, _⟩ := HU1.shape
  clear hB1 hb0 hb1 hb1' hn0 hcu0 hc00 HU0 HU1 HT0
  go_wp2_with fail
  refine HC.out.mono ?_
  rintro e w2 ⟨rfl, hb2⟩
  have HB2 := Lib.hid (HB.out.trans (hb2.mono (by omega)))
  have HT2 := Lib.hid (tab_below HT1.out hb2)
  have hn2 := (hb2.cell (p := ⟨w.heap.size, 0, none⟩) hz1).trans hn1
  have hz2 : w.heap.size < w2.heap.size := by have := hb2.size; omega
  clear hb2 HT1 HB HC hn1 hcu1
  cases hix : ix s.data.toList r with
  | some k =>
    have HF := Lib.hid (F1.out k hix w2 HB2.out)
    clear F1 F2 F3 hix
    go_wp2_with fail
    go_ret2
    exact HF.out
  | none =>
    have hD2 := HD.out.below HB2.out
    have hc1 := hD2.cells.2.1
    by_cases ho : d.old = []
    · have HF := Lib.hid (fun p => F2.out hix p w2 ho HB2.out)
      have e1 : oldV L d = .slice none 0 0 := by unfold oldV; rw [if_pos ho]
      rw [e1] at hc1
      clear F1 F2 F3 hix hD2 ho e1
      go_wp2_with fail
      go_ret2
      exact HF.out _
    · have hoA := hD2.old ho
      have hop : 0 < d.old.length := by
        cases h : d.old with
        | nil => exact absurd h ho
        | cons x t => simp
      have hgo := lt_of_heap hoA.1
      have hj : at_ (hsh T) d.old s.data.toList < d.old.length := Nat.mod_lt _ hop
      have hgd := room_of (T := T) (n := s.data.toList) hop
      obtain ⟨u, hu, hru, hcu, hfu⟩ := hoA.room hgd
      have hrb : ∀ b, rb u = some b → b < w2.heap.size := fun b hb => (hru.lt hb).1
      have hrl2 : (d.old.getD (at_ (hsh T) d.old s.data.toList) []).length ≤ 1000000 := HR2.out _ (List.mem_of_getElem? hgd)
      have hroom2 := Lib.hid (room_nat s d.old.length T)
      have hat : hsh T s.data.toList % d.old.length = at_ (hsh T) d.old s.data.toList := rfl
      rw [hat] at hroom2
      have e1 : oldV L d = .slice (some ⟨L.go, 0, none⟩) d.old.length L.co.size := by unfold oldV; rw [if_neg ho]
      rw [e1] at hc1
      have hbp2 := lt_of_heap hD2.blk
      have HF := Lib.hid (fun w' hb => F3.out hix w' ho hb)
      have HU := Lib.hid hru
      have HRB2 := Lib.hid hrb
      clear F1 F2 F3 hix hD2 ho e1 hoA hgd hu hru hrb hat HR2 hroom HRB
      generalize d.old.getD (at_ (hsh T) d.old s.data.toList) [] = r2 at HU hrl2 HF
      generalize at_ (hsh T) d.old s.data.toList = j at hj hroom2 hcu hfu HF
      have hj0 : (0 : Int) ≤ (j : Int) := by omega
      have hj1 : (j : Int) < (d.old.length : Int) := by omega
      have hlen : ((d.old.length : Int) == 0) = false := by rw [beq_eq_false_iff_ne]; omega
      have hlen2 : (d.old.length == 0) = false := by rw [beq_eq_false_iff_ne]; omega
      go_wp2_with fail
      go_region_held3 (fun w' => w'.cell? ⟨L.bp, 1, none⟩ = some (.slice (some ⟨L.go, 0, none⟩) d.old.length L.co.size) ∧ w'.cell? ⟨w.heap.size, 0, none⟩ = some (.string s))
        (first | go_keep | (go_split_ands; exact ⟨(hb1.cell (p := ⟨L.bp, 1, none⟩) (by simp; omega)).trans hc1, (hb1.cell (p := ⟨w.heap.size, 0, none⟩) (by simp; omega)).trans hn2⟩))
        (first | (go_at_call 28; refine (hroom2.out _ (by omega) hmax ?_).mono ?_; (exact HT2.out); rintro e w3 ⟨rfl, hb1⟩))
      have hb1' : Below w2.heap.size w2 w3 := below_undrew hb1
      have hn3 := (hb1'.cell (p := ⟨w.heap.size, 0, none⟩) hz2).trans hn2
      have hcu3 := (hb1'.cell (p := ⟨L.go, j, none⟩) hgo).trans hcu
      have HU3 := HU.out.kept fun b hb => hb1'.block b (HRB2.out b hb)
      have HC := Lib.hid (index_any r2 u s w.heap.size w3 HU3 hn3 hrl2)
      have HB := Lib.hid (HB2.out.trans (hb1'.mono (by omega)))
      have hz3 : w.heap.size ≤ w3.heap.size := by have := hb1'.size; omega
      have HZ3 := Lib.hid hz3
      obtain ⟨A2, c2, rfl, _, _⟩ := HU3.shape
      clear hb1 hb1' hn2 hcu hc1 HU HU3 HT2 hz3
      go_wp2_with (go_at_call 47; refine HC.out.mono ?_; rintro e w4 ⟨rfl, hb4⟩)
      go_ret2
      exact HF.out _ (HB.out.trans (hb4.mono HZ3.out))
end Go.Proofs.YtflndbgaidhbaaaDoor
