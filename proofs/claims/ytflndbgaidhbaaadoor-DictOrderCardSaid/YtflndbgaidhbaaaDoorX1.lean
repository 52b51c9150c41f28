/-
  Crc.More, crc.Sum and room, walked: what they tell of any text, under the table's own numbers. Conditions: those that each theorem states.
-/
import Derived.Test.YtflndbgaidhbaaaDoorChecked
import Derived.WalkKit
import Derived.WalkLawsBesides
import Derived.WalkSpells
import Derived.Deep.QuietTactic
import Derived.BigQuiet
import Derived.Lib.Hide
import Derived.Lib.ConvBytes
import Derived.Lib.SmallJoins
namespace Go.Proofs.YtflndbgaidhbaaaDoor
open Go.RowKit

theorem u16_range (n : Int) : 0 ≤ IntKind.u16.wrap n ∧ IntKind.u16.wrap n < 65536 := by
  simp only [IntKind.wrap]
  simp [IntKind.signed, IntKind.bits]
  omega
theorem xor_range (a b : Int) : 0 ≤ bits .xor .u16 a b ∧ bits .xor .u16 a b < 65536 := by
  unfold bits
  exact u16_range _

def half (T : Nat → Int) (c : Int) : Int := bits .xor .u16 (IntKind.u16.wrap (c * 16)) (T (c / 4096).toNat)
def byte (T : Nat → Int) (c : Int) (x : UInt8) : Int := half T (half T (bits .xor .u16 c (IntKind.u16.wrap (IntKind.u16.wrap x.toNat * 256))))
def more (T : Nat → Int) (c : Int) (l : List UInt8) : Int := l.foldl (byte T) c
theorem byte_range (T : Nat → Int) (c : Int) (x : UInt8) : 0 ≤ byte T c x ∧ byte T c x < 65536 := xor_range _ _
theorem more_range (T : Nat → Int) (l : List UInt8) : ∀ c, 0 ≤ c ∧ c < 65536 → 0 ≤ more T c l ∧ more T c l < 65536 := by
  induction l with
  | nil => intro c h; exact h
  | cons x l ih => intro c _; exact ih _ (byte_range T c x)
theorem more_snoc (T : Nat → Int) (c : Int) (l : List UInt8) (x : UInt8) : more T c (l ++ [x]) = byte T (more T c l) x := by simp [more]

theorem idx_range {a b : Int} : 0 ≤ bits .xor .u16 a b / 4096 ∧ bits .xor .u16 a b / 4096 < 16 := by
  have := xor_range a b
  omega
theorem idx_nat {a b : Int} : (bits .xor .u16 a b / 4096).toNat < 16 := by
  have := xor_range a b
  omega

/-- The table: what it holds does not matter here. -/
def Tab (T : Nat → Int) (w : World) : Prop := ∀ i, i < 16 → w.cell? ⟨0, i, none⟩ = some (.int .u16 (T i))

set_option maxHeartbeats 400000 in
theorem more_any (c : Int) (A : Option Addr) (n cap : Nat) (bs : List UInt8) (T : Nat → Int) (w : World) (hn : bs.length = n) (h0 : 0 ≤ c) (h1 : c < 65536) (hmax : n ≤ 140737488351232)
    (hc : ∀ j x, bs[j]? = some x → ∃ ad, A = some ad ∧ w.cell? (ad.add j) = some (.int .u8 (x.toNat : Int))) (hT : Tab T w) :
    Calls Tryd.prog 50 #[.int .u16 c, .slice A n cap] w fun e w' => e = .returned (.int .u16 (more T c bs)) ∧ w = w' := by
  unfold Tab at hT
  have hi1 := @idx_range
  have hi2 := @idx_nat
  have hc' := Lib.hid hc
  clear hc
  go_enter Tryd.func50, Tryd.ntmps50
  go_wp2
  go_loop [0, 9] (fun u i => ∃ (k : Nat), k ≤ n ∧ i = .int .i64 k ∧ u = .int .u16 (more T c (bs.take k))) (fun _ i => n - (intOf i).toNat)
  case atStart => exact ⟨0, Nat.zero_le _, rfl, rfl⟩
  case round =>
    obtain ⟨k, hk, rfl, rfl⟩ := hrel
    by_cases hlt : k < n
    · have hx : bs[k]? = some (bs[k]'(by omega)) := List.getElem?_eq_getElem (by omega)
      obtain ⟨ad, rfl, hck⟩ := hc'.out k _ hx
      have hs := more_snoc T c (bs.take k) (bs[k]'(by omega))
      have ht : bs.take k ++ [bs[k]'(by omega)] = bs.take (k + 1) := by rw [List.take_succ_eq_append_getElem (by omega)]
      rw [ht] at hs
      have HS := Lib.hid hs
      have hr := more_range T (bs.take k) c ⟨h0, h1⟩
      generalize more T c (bs.take k) = r at hr HS
      generalize bs[k]'(by omega) = x at hck HS
      clear hs ht hx
      obtain ⟨hr1, hr2⟩ := hr
      go_wp2
      go_round
      case rel => exact ⟨k + 1, by omega, by go_num, by rw [HS.out]; rfl⟩
      case measure => simp [intOf]; omega
    · go_wp2
      go_ret
      have e : more T c (bs.take k) = more T c bs := by rw [List.take_of_length_le (by omega)]
      exact ⟨congrArg (fun r => Ending.returned (.int .u16 r)) e, rfl⟩

theorem sum_any (A : Option Addr) (n cap : Nat) (bs : List UInt8) (T : Nat → Int) (w : World) (hn : bs.length = n) (hmax : n ≤ 140737488351232)
    (hc : ∀ j x, bs[j]? = some x → ∃ ad, A = some ad ∧ w.cell? (ad.add j) = some (.int .u8 (x.toNat : Int))) (hT : Tab T w) :
    Calls Tryd.prog 42 #[.slice A n cap] w fun e w' => e = .returned (.int .u16 (more T 0 bs)) ∧ w = w' := by
  have H := Lib.hid hc
  clear hc
  go_enter Tryd.func42, Tryd.ntmps42
  go_wp2_with (go_at_call 50; refine (more_any 0 A n cap bs T _ hn (by omega) (by omega) hmax H.out hT).mono ?_; rintro e w' ⟨rfl, rfl⟩)
  go_ret
  exact ⟨rfl, rfl⟩

theorem tab_below {T : Nat → Int} {w w' : World} (h : Tab T w) (hb : Below w.heap.size w w') : Tab T w' := fun i hi => by
  have := h i hi
  rw [hb.cell (World.block_lt_of_cell? w _ this)]; exact this

set_option maxHeartbeats 400000 in
theorem room_any (s : ByteArray) (many : Int) (T : Nat → Int) (w : World) (hm : 1 ≤ many) (hmax : s.size ≤ 140737488351232) (hT : Tab T w) :
    Calls Tryd.prog 28 #[.string s, .int .i64 many] w fun e w' => e = .returned (.int .i64 (more T 0 s.data.toList % many)) ∧ Below w.heap.size w w' := by
  have hconv := Lib.run_convert_string_bytes (P := Tryd.prog) w 9 92 5 s Tryd.underlying9 Tryd.underlying92 Tryd.underlying5
  have hb := Joins.below_bytesWorld w.heap.size w 5 s (Nat.le_refl _)
  have hcell := Lib.bytesWorld_cell w 5 s
  obtain ⟨w1, hw1⟩ : ∃ w1, w1 = Lib.bytesWorld w 5 s := ⟨_, rfl⟩
  rw [← hw1] at hconv hb hcell
  clear hw1
  have hT1 := Lib.hid (tab_below hT hb)
  clear hT
  have hc : ∀ j x, s.data.toList[j]? = some x → ∃ ad, some (⟨w.heap.size, 0, none⟩ : Addr) = some ad ∧ w1.cell? (ad.add j) = some (.int .u8 (x.toNat : Int)) := by
    intro j x hx
    obtain ⟨hl, rfl⟩ := List.getElem?_eq_some_iff.1 hx
    have hl' : j < s.size := by simpa using hl
    refine ⟨_, rfl, ?_⟩
    have e : (⟨w.heap.size, 0, none⟩ : Addr).add j = ⟨w.heap.size, j, none⟩ := by unfold Addr.add; split <;> simp_all
    rw [e, hcell j hl', List.getD_eq_getElem?_getD, hx]; rfl
  have hr := more_range T s.data.toList 0 ⟨by omega, by omega⟩
  have hsum := Lib.hid (sum_any (some ⟨w.heap.size, 0, none⟩) s.size (grownCap w s.size 0 5) s.data.toList T w1 (by simp) hmax hc hT1.out)
  have hb1 := Lib.hid hb
  clear hc hcell hT1 hb
  generalize more T 0 s.data.toList = r at hr hsum ⊢
  obtain ⟨hr1, hr2⟩ := hr
  go_enter Tryd.func28, Tryd.ntmps28
  go_wp2_with (go_at_call 42; refine hsum.out.mono ?_; rintro e w' ⟨rfl, rfl⟩)
  go_ret
  exact ⟨rfl, hb1.out⟩
end Go.Proofs.YtflndbgaidhbaaaDoor
