/-
  Links of a call's own; letters of a number alone; alive, walked. Conditions: those that each theorem states.
-/
import Derived.Test.YtjplobfacdcgcaaX8
namespace Go.Proofs.Ytjplobfacdcgcaa
open Go.RowKit

/-- Links that a call has made: what lay before it has not turned. -/
structure LkIn (w0 : World) (S : Nat → Prop) (w : World) (bp b n : Nat) (ws : List Wy) : Prop where
  at_ : LkAt S w bp b n ws
  lo : w0.heap.size ≤ b
  bel : Below w0.heap.size w0 w
  new : ∀ k, w.heap.size ≤ k → S k
section
variable {w0 w w' : World} {S : Nat → Prop} {bp b n n' : Nat} {ws ws' : List Wy}
theorem LkIn.sent (h : LkIn w0 S w bp b n ws) (hs : Sent S bp b n' ws' w w') : LkIn w0 S w' bp b n' ws' :=
  ⟨hs.1, h.lo, h.bel.trans (hs.2.below h.lo h.bel.size), fun k hk => h.new k (Nat.le_trans hs.2.size hk)⟩
theorem LkIn.below (h : LkIn w0 S w bp b n ws) (hb : Below w.heap.size w w') : LkIn w0 S w' bp b n ws :=
  ⟨h.at_.below hb, h.lo, h.bel.trans (hb.mono h.bel.size), fun k hk => h.new k (Nat.le_trans hb.size hk)⟩
end

/-- A letter that has a number, and nothing else. -/
def num (k : Int) : Lt := ⟨0, k, 0, 0, ⟨#[]⟩, ⟨#[]⟩, [], Rp.zero, false, 0⟩

theorem send_num {w0 : World} {S : Nat → Prop} {bp b n : Nat} {ws : List Wy} (p1 p2 k : Int) (w : World) (h : LkIn w0 S w bp b n ws) (hp : Ok64 (p1, p2)) (hn : n < 1000000) (hw : ws.length < 1000000) :
    Calls Try.prog 13 #[.pointer (some ⟨bp, 0, none⟩), .int .i64 p1, .int .i64 p2, .agg #[.int .i64 0, .int .i64 k, .int .i64 0, .int .i64 0, .string ⟨#[]⟩, .string ⟨#[]⟩, .slice none 0 0, .int .i64 0, .int .i64 0, .string ⟨#[]⟩, .slice none 0 0, .bool false, .int .i64 0]] w
      fun e w' => e = .returned (.tuple #[]) ∧ LkIn w0 S w' bp b (n + 1) (ws ++ [⟨(p1, p2), num k⟩]) :=
  (send_any S bp b n ws p1 p2 (num k) (.slice none 0 0) (.slice none 0 0) w h.at_ hp h.new (StrsAt.nil _ _ _ _) (RpAt.zero _ _ _ _) (by simp [num]) ⟨by omega, fun i => i.elim0⟩ hn hw).mono fun _ _ ⟨he, hs⟩ => ⟨he, h.sent hs⟩

/-- What Next tells where a letter of a number stands first. -/
def NextNum (w0 : World) (S : Nat → Prop) (bp b n : Nat) (ws : List Wy) (k : Int) (e : Ending) (w' : World) : Prop :=
  ∃ A c A' c', e = .returned (.tuple #[.agg #[.int .i64 0, .int .i64 k, .int .i64 0, .int .i64 0, .string ⟨#[]⟩, .string ⟨#[]⟩, .slice A 0 c, .int .i64 0, .int .i64 0, .string ⟨#[]⟩, .slice A' 0 c', .bool false, .int .i64 0], .bool true]) ∧ LkIn w0 S w' bp b n ws
theorem next_num {w0 : World} {S : Nat → Prop} {bp b n : Nat} {ws : List Wy} (p1 p2 k : Int) (q : List Lt) (w : World) (h : LkIn w0 S w bp b n ws) (hp : Ok64 (p1, p2)) (he : queue ws (p1, p2) = num k :: q) (hn : n < 1000000) (hw : ws.length < 1000000) :
    Calls Try.prog 14 #[.pointer (some ⟨bp, 0, none⟩), .int .i64 p1, .int .i64 p2] w (NextNum w0 S bp b (n + 1) (nextL ws (p1, p2)) k) :=
  (next_some S bp b n ws p1 p2 (num k) q w h.at_ hp he hn hw).mono fun e w' ⟨va, vr, he', hva, hvr, hs⟩ => by
    obtain ⟨A, c, rfl, _⟩ := hva
    obtain ⟨A', c', rfl, _⟩ := hvr
    exact ⟨A, c, A', c', he', h.sent hs⟩

theorem ok12 : Ok64 (1, 2) := ⟨by decide, by decide⟩

set_option maxHeartbeats 1600000 in
theorem alive_any (w : World) : Calls Try.prog 10 #[] w fun e w' => e = .returned (.bool true) ∧ Below w.heap.size w w' := by
  go_enter Try.func10, Try.ntmps10
  go_wp2_with fail
  refine (new_any (Fro w.heap.size) w (fun k hk => hk)).mono ?_
  rintro e w1 ⟨bp, b, rfl, hbp, hb, hat, hbel⟩
  have H1 := Lib.hid (LkIn.mk (w0 := w) hat hb hbel (fun k hk => Nat.le_trans hbel.size hk))
  clear hbp hb hat hbel
  go_wp2_with fail
  refine (send_num 1 2 5 w1 H1.out ok12 (by omega) (by simp)).mono ?_
  rintro e w2 ⟨rfl, h2⟩
  have H2 := Lib.hid h2
  clear h2
  go_wp2_with fail
  refine (send_num 1 2 6 w2 H2.out ok12 (by omega) (by simp)).mono ?_
  rintro e w3 ⟨rfl, h3⟩
  have H3 := Lib.hid h3
  clear h3
  have e1 : queue ([] ++ [⟨(1, 2), num 5⟩] ++ [⟨(1, 2), num 6⟩]) (1, 2) = num 5 :: [num 6] := by simp [queue]
  have HN := Lib.hid (next_num 1 2 5 _ w3 H3.out ok12 e1 (by omega) (by simp))
  have e2 : nextL ([] ++ [⟨(1, 2), num 5⟩] ++ [⟨(1, 2), num 6⟩]) (1, 2) = [⟨(1, 2), num 6⟩] := by simp [nextL, List.eraseP]
  rw [e2] at HN
  clear e1 e2 H1 H2 H3
  go_wp2_with fail
  refine HN.out.mono ?_
  rintro e w4 ⟨A, c, A', c', rfl, h4⟩
  have h5 := h4.below ((Below.refl _ w4).alloc (Nat.le_refl _) (.cells #[.int .i64 0, .int .i64 5, .int .i64 0, .int .i64 0, .string ⟨#[]⟩, .string ⟨#[]⟩, .slice A 0 c, .int .i64 0, .int .i64 0, .string ⟨#[]⟩, .slice A' 0 c', .bool false, .int .i64 0] 33))
  have HW := Lib.hid (waiting_any _ bp b _ _ 1 2 _ h5.at_ ok12)
  have HP := Lib.hid (pairs_any _ bp b _ _ _ h5.at_ (by omega))
  have HB := Lib.hid h5.bel
  have q1 : (queue [⟨(1, 2), num 6⟩] (1, 2)).length = 1 := by simp [queue]
  have q2 : (pairsL [⟨(1, 2), num 6⟩]).length = 1 := by simp [pairsL, ins]
  rw [q1] at HW
  clear h4 h5 HN q1
  go_wp2_with fail
  refine HW.out.mono ?_
  rintro e w5 ⟨rfl, rfl⟩
  go_wp2_with fail
  refine HP.out.mono ?_
  rintro e w6 ⟨v, rfl, ⟨A6, c6, rfl, _⟩, hb6⟩
  rw [q2]
  have HB6 := Lib.hid (HB.out.trans (hb6.mono HB.out.size))
  clear hb6 q2
  go_wp2_with fail
  go_ret
  exact ⟨rfl, HB6.out⟩
end Go.Proofs.Ytjplobfacdcgcaa
