/-
  Maps.Keys at the links' map, slices.SortedFunc and Pairs, walked. Conditions: those that each theorem states.
-/
import Derived.Test.YtjplobfacdcgcaaX6
import Derived.Maps.OwnSet
import Derived.RangeFuncBound
namespace Go.Proofs.Ytjplobfacdcgcaa
open Go.RowKit Go.Maps Go.Sort Go.Shelf

section
variable {P : Program} (u40 : P.underlying 40 = some (.array 2 3)) (u3 : P.underlying 3 = some (.int .i64)) (c40 : P.cellsOf 40 = 2) (c3 : P.cellsOf 3 = 1) (k40 : P.keyType 40 = true) (row : 40 < P.types.size)
include u40 c40 in
theorem formed_agg {v : Value} (h : v.formed P 40 = true) : ∃ a b : Value, v = .agg #[a, b] := by
  cases v with
  | agg cs =>
    have e : Value.formed P 40 (.agg cs) = (cs.size == P.cellsOf 40) := by unfold Value.formed; rw [u40]
    rw [e, c40] at h
    have h2 : cs.size = 2 := by simpa using h
    match cs, h2 with
    | ⟨[a, b]⟩, _ => exact ⟨a, b, rfl⟩
  | tuple _ => exact absurd h (by unfold Value.formed; simp)
  | _ => exact absurd h (by unfold Value.formed; rw [u40]; simp)
include u3 in
theorem lits3 (d : Nat) {v : Value} {ls : List Lit} (h : P.keyLits (d + 1) 3 [v] = some ls) : ∃ n : Int, v = .int .i64 n ∧ (Lit.int .i64 n).wf = true ∧ ls = [.int .i64 n] := by
  unfold Program.keyLits at h
  rw [u3] at h
  cases v with
  | int q n =>
    simp only at h
    split at h
    · rename_i hc
      obtain ⟨rfl, hw⟩ := hc
      exact ⟨n, rfl, hw, (Option.some.inj h).symm⟩
    · cases h
  | _ => simp at h
include u40 u3 c40 c3 k40 row in
theorem key_inv_ {v : Value} {l : Lit} (h : keyOf P 40 v = some l) : ∃ p : Pr, Ok64 p ∧ v = keyV p ∧ l = kl p := by
  have h' : (if (P.keyType 40 && v.formed P 40) = true then (P.keyLits (P.types.size + 1) 40 v.cells.toList).map (fun ls => Lit.string (keyBytes ls)) else none) = some l := by
    unfold keyOf at h; rw [u40] at h; exact h
  split at h'
  · rename_i hf
    obtain ⟨a, b, rfl⟩ := formed_agg u40 c40 (by rw [k40] at hf; simpa using hf)
    obtain ⟨ls, hls, rfl⟩ := Option.map_eq_some_iff.1 h'
    have e : P.keyLits (P.types.size + 1) 40 [a, b] = ((List.range 2).mapM fun i => P.keyLits P.types.size 3 (([a, b].drop (i * P.cellsOf 3)).take (P.cellsOf 3))).map List.flatten := by
      rw [Program.keyLits.eq_def]
      simp only [u40, c40]
      rfl
    obtain ⟨d, hd⟩ : ∃ d, P.types.size = d + 1 := ⟨P.types.size - 1, by omega⟩
    have hls2 : P.keyLits (P.types.size + 1) 40 [a, b] = some ls := hls
    rw [e, c3, hd] at hls2
    have e2 : (List.range 2) = [0, 1] := rfl
    rw [e2] at hls2
    obtain ⟨lss, hm, rfl⟩ := Option.map_eq_some_iff.1 hls2
    cases h1 : P.keyLits (d + 1) 3 [a] with
    | none => simp [List.mapM_cons, h1] at hm
    | some l1 =>
    cases h2 : P.keyLits (d + 1) 3 [b] with
    | none => simp [List.mapM_cons, h1, h2] at hm
    | some l2 =>
    obtain rfl : [l1, l2] = lss := by simpa [List.mapM_cons, h1, h2] using hm
    obtain ⟨n1, rfl, w1, rfl⟩ := lits3 u3 d h1
    obtain ⟨n2, rfl, w2, rfl⟩ := lits3 u3 d h2
    exact ⟨(n1, n2), ⟨w1, w2⟩, rfl, rfl⟩
  · cases h'
end
/-- What reads as a key is a pair. -/
theorem key_inv {v : Value} {l : Lit} (h : keyOf Try.prog 40 v = some l) : ∃ p : Pr, Ok64 p ∧ v = keyV p ∧ l = kl p := key_inv_ Try.underlying40 Try.underlying3 cells40 cells3 key40 row40 h

/-- The pairs met so far. -/
def CollP (D0 : DataW Value) (left : Lit → Bool) (ss : List Pr) : Prop := ss.Nodup ∧ (∀ p ∈ ss, Ok64 p) ∧ ∀ p, Ok64 p → (p ∈ ss ↔ (has D0 (kl p) = true ∧ left (kl p) = false))
theorem CollP.start (D0 : DataW Value) : CollP D0 (has D0) [] := ⟨List.nodup_nil, fun p h => by simp at h, fun x _ => by cases has D0 (kl x) <;> simp⟩
theorem CollP.step {D0 : DataW Value} {left : Lit → Bool} {ss : List Pr} (h : CollP D0 left ss) {x : Pr} {y : DataW Value} (hx : Ok64 x) (hlk : left (kl x) = true) (hat : ∀ zd, D0.atKey (kl x) zd = y) : CollP D0 (fun z => left z && !z.sameKey (kl x)) (ss ++ [x]) := by
  have hhas : has D0 (kl x) = true := has_true_of_atKey hat
  have hnew : x ∉ ss := fun hx' => by have := ((h.2.2 x hx).1 hx').2; rw [hlk] at this; cases this
  refine ⟨List.nodup_append.2 ⟨h.1, by simp, fun a ha b hb => by simp at hb; subst hb; exact fun e => hnew (e ▸ ha)⟩, fun p hp => ?_, fun y hy => ?_⟩
  · rcases List.mem_append.1 hp with hp | hp
    · exact h.2.1 p hp
    · obtain rfl := List.mem_singleton.1 hp; exact hx
  · by_cases e : y = x
    · subst e
      simp [hhas, WideAt.sameKey_self (law40.key (key_of hy))]
    · have e1 : (kl y).sameKey (kl x) = false := Maps.sameKey_ne (fun e' => e (kl_inj hy hx e'))
      rw [List.mem_append, h.2.2 y hy]
      simp [e, e1]

/-- What the datum of the map has. -/
theorem has_iff {w : World} {b n : Nat} {f : Pr → Option Value} (h : MpAt w b n f) : ∃ E : List (Lit × DataW Value), w.ownsMap Try.prog 40 hdr b n (.map E) ∧ Maps.size (.map E) ≤ n ∧ ∀ p, Ok64 p → (has (.map E) (kl p) = true ↔ (f p).isSome = true) := by
  obtain ⟨es, c, h1, F, hs, h2, h3⟩ := h
  refine ⟨_, ⟨es, c, h1, F, hs, rfl⟩, ?_, fun p hp => ?_⟩
  · rw [size_eq, length_sorted]; simpa using hs
  · rw [has_eq, List.any_eq_true]
    constructor
    · rintro ⟨e, he, hk⟩
      rw [mem_sorted] at he
      obtain ⟨x, hx, rfl⟩ := List.mem_map.1 he
      obtain ⟨q, hq, hxq, hf⟩ := h2 x hx
      obtain ⟨y, hy⟩ := F.reads x hx
      have hk1 := WideElems.rd_key hy
      rw [WideElems.rg_of hy] at hk
      rw [hxq, key_of hq] at hk1
      have e1 : y.1 = kl p := WideAt.sameKey_eq hk
      rw [e1] at hk1
      obtain rfl : q = p := kl_inj hq hp (Option.some.inj hk1)
      rw [hf]; rfl
    · intro hs'
      obtain ⟨v, hv⟩ := Option.isSome_iff_exists.1 hs'
      obtain ⟨_, x, hx, hxk, _⟩ := h3 p v hv
      obtain ⟨y, hy⟩ := F.reads x hx
      have hk1 := WideElems.rd_key hy
      rw [hxk, key_of hp] at hk1
      have e1 : kl p = y.1 := Option.some.inj hk1
      refine ⟨_, mem_sorted.2 (List.mem_map.2 ⟨x, hx, rfl⟩), ?_⟩
      rw [WideElems.rg_of hy, ← e1]
      exact WideAt.sameKey_self (law40.key (key_of hp))

set_option maxRecDepth 100000 in
set_option maxHeartbeats 1000000 in
theorem keys1N_in (F : Fence) (n : Nat) (h10 : F.fn 37) (hro : F.round = none) (hn : 1 ≤ n) (l Bm b nn : Nat) (D0 : DataW Value) (J : List Pr → World → Prop)
    (hY : ∀ pre x W, J pre W → pre.length < Maps.size D0 → YieldAt F (n - 1) Try.prog l #[keyV x] W fun e W' => e = .returned (.bool true) ∧ J (pre ++ [x]) W' ∧ KeepsWalks W W')
    (W : World) (hJ : AbidesFrom W.heap.size J) (hm : W.cell? ⟨Bm, 0, none⟩ = some (.map (some b))) (hown : W.ownsMap Try.prog 40 hdr b nn D0) (h0 : J [] W) :
    CallsIn F n Try.prog 37 #[.func (.yield l) #[] #[], .pointer (some ⟨Bm, 0, none⟩)] W fun e W' => (∃ v, e = .returned v) ∧ ∃ ss : List Pr, CollP D0 (fun _ => false) ss ∧ J ss W' := by
  refine callsIn_of_wp Try.func37 rfl h10 ?_ hro
  simp only [Try.ntmps37, List.size_toArray, List.length_cons, List.length_nil, Nat.reduceAdd, Nat.reduceSub, Array.replicate_succ, Array.replicate_zero, List.push_toArray, List.append_toArray, List.nil_append, List.cons_append]
  gi_wp2_with (first
    | (gi_at_range; refine wpListIn_range_own _ rfl _ 51 rfl 40 63 law40 Try.underlying51 _ b nn _ rfl hown ?_; intro w0 hrg0 hg0 hs0)
    | gi_in)
  go_frame
  gi_loopw [3] (fun _ wr => ∃ (left : Lit → Bool) (cnt : Nat) (ss : List Pr), wr.ranges Try.prog 40 hdr b W.heap.size nn D0 left cnt ∧ ss.length + cnt ≤ Maps.size D0 ∧ CollP D0 left ss ∧ J ss wr)
    (fun _ wr => wr.rangeLeft b W.heap.size)
  case atStart =>
    exact ⟨_, _, [], hrg0, by simp, CollP.start D0, hJ [] W w0 none h0 hg0 (fun r e => by cases e)⟩
  case round =>
    obtain ⟨left, cnt, ss, hrg, hcs, hC, hJs⟩ := hrel
    gi_wp2_with (first
      | (gi_at_next; refine wpListIn_next_ranges _ rfl _ rfl 40 law40 hdr keyV id (fun key kl hk => by obtain ⟨x, _, hx, _⟩ := key_inv hk; exact ⟨x, hx⟩) (fun v y _ => ⟨v, rfl⟩) b W.heap.size nn _ _ _ rfl hrg ?_ ?_)
      | gi_in)
    · -- NOTHING IS LEFT
      intro hc0 hl0
      gi_wp2
      go_end0
      exact ⟨⟨_, rfl⟩, ss, by rw [show (fun _ => false) = left from (funext hl0).symm]; exact hC, hJs⟩
    · -- AN ENTRY HAS COME: yield(k)
      intro x1 x2 c kl' yd yp w2 cnt2 hkey hlk hv hat hrg2 hlt hg2 hs2 hen
      obtain ⟨x, hxe⟩ : ∃ x : Pr, x = (x1, x2) := ⟨_, rfl⟩
      rw [← hxe] at hkey
      obtain ⟨x', hx', ex, rfl⟩ := key_inv hkey
      obtain rfl : x = x' := keyV_inj ex
      subst hxe
      have hJ2 : J ss w2 := hJ ss wr w2 (some W.heap.size) hJs hg2 (fun r e => by cases e; exact ⟨Nat.le_refl _, hrg.iter_walk⟩)
      have hJ3 : J ss (w2.alloc (.cells #[.int .i64 x1, .int .i64 x2] 40)) := hJ ss w2 _ none hJ2 (World.grownBy_alloc _ _ _) (fun r e => by cases e)
      have hrg3 := hrg2.alloc (.cells #[.int .i64 x1, .int .i64 x2] 40)
      obtain ⟨fn, tmps, assign, body, hy, hR⟩ := hY ss (x1, x2) _ hJ3 (by have := hrg2; omega)
      have hC2 := hC.step hx' hlk hat
      simp only [keyV] at hy hen
      clear hs2
      simp only [keyV]
      gi_wp2
      refine hR.mono ?_
      rintro e W3 ⟨rfl, hJ4, hk3⟩
      gi_wp2
      have hrg4 := hrg3.of_walks hk3
      go_roundw
      case rel => exact ⟨_, cnt2, ss ++ [(x1, x2)], hrg4, by simp; omega, hC2, hJ4⟩
      case measure => rw [hrg4.left_eq, hrg.left_eq]; exact hlt

/-- maps.Keys hands back an iterator over the map's pairs. -/
theorem keys_gives (F : Fence) (n : Nat) (h10 : F.fn 37) (hro : F.round = none) (hn : 1 ≤ n) (Bm b nn : Nat) (D0 : DataW Value) (w : World) (hBm : Bm < w.heap.size)
    (hm : w.cell? ⟨Bm, 0, none⟩ = some (.map (some b))) (hown : w.ownsMap Try.prog 40 hdr b nn D0) :
    SeqGives F n Try.prog 37 #[.pointer (some ⟨Bm, 0, none⟩)] keyV (fun ss => CollP D0 (fun _ => false) ss) (Maps.size D0) w := fun l J W hW hJ hY h0 => by
  have hown' : W.ownsMap Try.prog 40 hdr b nn D0 := by
    have hbl := hown.lt
    obtain ⟨es, clock, hb, Ft, hs, hD⟩ := hown
    exact ⟨es, clock, (hW.block b hbl).trans hb, Ft, hs, hD⟩
  exact keys1N_in F n h10 hro hn l Bm b nn D0 J hY W hJ ((hW.cell (p := ⟨Bm, 0, none⟩) hBm).trans hm) hown' h0

theorem keys_any (b : Nat) (w : World) : Calls Try.prog 29 #[.map (some b)] w fun e w' => e = .returned (.func (.func 37) #[] #[.pointer (some ⟨w.heap.size, 0, none⟩)]) ∧ w' = w.alloc (.cells #[.map (some b)] 51) := by
  go_enter Try.func29, Try.ntmps29
  go_wp2
  go_ret
  exact ⟨rfl, rfl⟩

theorem collect_any (g : Nat) (lb : Array Value) (eg : ∀ args w, (callFunc g args).run Try.prog w = .ok (.enter g args) w) (S : List Pr → Prop) (N : Nat) (hN : N ≤ 1000000) (w : World) (hseq : SeqGives Fence.wide 1 Try.prog g lb keyV S N w) :
    Calls Try.prog 35 #[.func (.func g) #[] lb] w fun e w' => ∃ (v : Value) (ss : List Pr), e = .returned v ∧ (S ss ∧ ss.length ≤ N) ∧ w'.ownsRow w.heap.size 40 2 v ss.length (ss.flatMap pc) ∧ (v = .slice none 0 0 ↔ ss = []) ∧ Below w.heap.size w w' :=
  callsIn_wide.1 (collect_in Fence.wide 3 trivial trivial rfl (by omega) g lb trivial eg _ N (by unfold maxLen; omega) (by omega) w hseq.bounded)
end Go.Proofs.Ytjplobfacdcgcaa
