/-
  Texts, replies, letters and scripts that are handed in, opened. Of no function.
-/
import Derived.Test.YtjplobfacdcgcaaX9
import Derived.ProofKit
import Derived.OpenShut
import Derived.WideKeyPair
import Derived.Deep.DeepHandedRow
import Derived.Deep.Slices
namespace Go.Proofs.Ytjplobfacdcgcaa
open Go.ChangeShapes Go.WideShapes Go.ChangeAt Go.RowKit Go.WideMaps

section
variable {H : Type} {enc : TypeId × Value → H} {W : World}
theorem add_none_ {a : Addr} {v : Value} (h : W.cell? (a.add 0) = some v) : ∃ b off, a = ⟨b, off, none⟩ := by
  obtain ⟨b, off, spot⟩ := a
  cases spot with
  | none => exact ⟨b, off, rfl⟩
  | some s =>
    simp only [Addr.add, if_true, World.cell?] at h
    split at h <;> simp at h
theorem add_at_ (b off n : Nat) : (⟨b, off, none⟩ : Addr).add n = ⟨b, off + n, none⟩ := by
  unfold Addr.add; split <;> simp_all
theorem c3 : Try.prog.cellsOf 3 = 1 := by kernel_rfl
theorem c4 : Try.prog.cellsOf 4 = 1 := by kernel_rfl
theorem c9 : Try.prog.cellsOf 9 = 1 := by kernel_rfl
theorem c28 : Try.prog.cellsOf 28 = 1 := by kernel_rfl
theorem c29 : Try.prog.cellsOf 29 = 1 := by kernel_rfl
theorem c31 : Try.prog.cellsOf 31 = 4 := by kernel_rfl
theorem c33 : Try.prog.cellsOf 33 = 13 := by kernel_rfl
theorem c35 : Try.prog.cellsOf 35 = 16 := by kernel_rfl

set_option maxRecDepth 100000 in
theorem open_strs {fuel : Nat} {cs : List Value} {x : DataW H × List MemPlace} (h : DataW.trod enc Try.prog W 0 (fun _ => true) true fuel 28 cs = some x) : ∃ v l, cs = [v] ∧ StrsAt (Fro 0) W v l := by
  rcases Deep.open_slice1 Try.underlying28 c9 h with ⟨rfl, _⟩ | ⟨a, len, cap, m, n, V, D, Pl, rfl, hb, hl, hm, hmm, hx, hel⟩
  · exact ⟨_, [], rfl, StrsAt.nil _ _ _ _⟩
  · have hlm : len ≤ m := by rw [hmm]; simp; omega
    have each : ∀ i, i < len → ∃ s : ByteArray, W.cell? (a.add i) = some (.string s) := fun i hi => by
      obtain ⟨h1, h2⟩ := hel i (by omega)
      obtain ⟨s, hs, _⟩ := DataW.trod_string Try.underlying9 h2
      have : V i = .string s := by simpa using hs
      exact ⟨s, by rw [h1, this]⟩
    obtain ⟨q, hq⟩ := Deep.choose_lt each
    refine ⟨_, (List.range len).map q, rfl, some a, cap, by simp, fun j s hj => ?_⟩
    have hjl : j < len := by have := (List.getElem?_eq_some_iff.1 hj).1; simpa using this
    obtain rfl : q j = s := by simpa [hjl] using hj
    obtain ⟨b, off, rfl⟩ := add_none_ (W := W) (a := a) (hq 0 (by omega))
    exact ⟨b, off, rfl, Nat.zero_le _, by have := hq j hjl; rwa [add_at_] at this⟩

set_option maxRecDepth 100000 in
theorem open_rps : ∀ (fuel : Nat) {cs : List Value} {x : DataW H × List MemPlace}, DataW.trod enc Try.prog W 0 (fun _ => true) true fuel 29 cs = some x →
    ∃ (v : Value) (n : Nat) (l : Fin n → Rp), cs = [v] ∧ ∀ k i t, RpAt (Fro 0) W (.mk k i t n l) v := by
  intro fuel
  induction fuel using Nat.strongRecOn with
  | ind fuel ih =>
  intro cs x h
  rcases DataW.trod_slice Try.underlying29 h with ⟨rfl, _⟩ | ⟨a, len, cap, elems, rest, n, rfl, rfl, _, _, _, _, hlen, hel, _⟩
  · exact ⟨_, 0, fun i => i.elim0, rfl, fun k i t => ⟨_, _, rfl, fun i => i.elim0⟩⟩
  · have each : ∀ i : Fin len, ∃ (r : Rp) (u : Value), W.cell? (a.add (i.1 * 4)) = some (.int .i64 r.kind) ∧ W.cell? ((a.add (i.1 * 4)).add 1) = some (.int .i64 r.int) ∧ W.cell? ((a.add (i.1 * 4)).add 2) = some (.string r.text) ∧ W.cell? ((a.add (i.1 * 4)).add 3) = some u ∧ RpAt (Fro 0) W r u := by
      intro i
      have hi := hel i.1 i.2
      rw [List.getElem?_eq_getElem (by rw [hlen]; exact i.2)] at hi
      obtain ⟨cs', h1, h2⟩ := Option.bind_eq_some_iff.1 hi
      rw [c31] at h1
      obtain ⟨_, hl4, hcell⟩ := World.cells?_some h1
      obtain ⟨xs, m, hm, _, _, hxl, hfd⟩ := DataW.trod_struct Try.underlying31 h2
      match xs, hxl, cs', hl4 with
      | [y0, y1, y2, y3], _, [v0, v1, v2, v3], _ =>
        have g0 := hfd 0 _ rfl
        have g1 := hfd 1 _ rfl
        have g2 := hfd 2 _ rfl
        have g3 := hfd 3 _ rfl
        simp [c3, c9, c29] at g0 g1 g2 g3
        obtain ⟨z0, e0, _, _⟩ := DataW.trod_int Try.underlying3 g0
        obtain ⟨z1, e1, _, _⟩ := DataW.trod_int Try.underlying3 g1
        obtain ⟨s2, e2, _, _⟩ := DataW.trod_string Try.underlying9 g2
        obtain ⟨u, nn, l, e3, hu⟩ := ih m (by omega) g3
        have k0 := hcell 0 (by omega)
        have k1 := hcell 1 (by omega)
        have k2 := hcell 2 (by omega)
        have k3 := hcell 3 (by omega)
        simp at e0 e1 e2 e3 k0 k1 k2 k3
        subst e0 e1 e2 e3
        exact ⟨.mk z0 z1 s2 nn l, v3, by simpa [Addr.add, Rp.kind] using k0, k1, k2, k3, hu _ _ _⟩
    obtain ⟨f, hf⟩ := Classical.axiomOfChoice each
    obtain ⟨g, hg⟩ := Classical.axiomOfChoice hf
    refine ⟨_, len, f, rfl, fun k i t => ⟨some a, cap, rfl, fun j => ?_⟩⟩
    obtain ⟨b, off, rfl⟩ := add_none_ (W := W) (a := a) (by have := (hg ⟨0, by have := j.2; omega⟩).1; simpa using this)
    obtain ⟨h0, h1, h2, h3, h4⟩ := hg j
    simp only [add_at_] at h0 h1 h2 h3
    exact ⟨b, off, g j, rfl, Nat.zero_le _, h0, h1, h2, h3, h4⟩

set_option maxRecDepth 100000 in
theorem open_letter {fuel : Nat} {cs : List Value} {x : DataW H × List MemPlace} (h : DataW.trod enc Try.prog W 0 (fun _ => true) true fuel 33 cs = some x) : ∃ y : Lt, LtAt (Fro 0) W y cs := by
  obtain ⟨xs, m, hm, _, hcl, hxl, hfd⟩ := DataW.trod_struct Try.underlying33 h
  rw [c33] at hcl
  match xs, hxl, cs, hcl with
  | [y0, y1, y2, y3, y4, y5, y6, y7, y8, y9], _, [v0, v1, v2, v3, v4, v5, v6, v7, v8, v9, v10, v11, v12], _ =>
    have g0 := hfd 0 _ rfl
    have g1 := hfd 1 _ rfl
    have g2 := hfd 2 _ rfl
    have g3 := hfd 3 _ rfl
    have g4 := hfd 4 _ rfl
    have g5 := hfd 5 _ rfl
    have g6 := hfd 6 _ rfl
    have g7 := hfd 7 _ rfl
    have g8 := hfd 8 _ rfl
    have g9 := hfd 9 _ rfl
    simp [c3, c4, c9, c28, c31] at g0 g1 g2 g3 g4 g5 g6 g7 g8 g9
    obtain ⟨z0, e0, _, _⟩ := DataW.trod_int Try.underlying3 g0
    obtain ⟨z1, e1, _, _⟩ := DataW.trod_int Try.underlying3 g1
    obtain ⟨z2, e2, _, _⟩ := DataW.trod_int Try.underlying3 g2
    obtain ⟨z3, e3, _, _⟩ := DataW.trod_int Try.underlying3 g3
    obtain ⟨s4, e4, _, _⟩ := DataW.trod_string Try.underlying9 g4
    obtain ⟨s5, e5, _, _⟩ := DataW.trod_string Try.underlying9 g5
    obtain ⟨u6, l6, e6, h6⟩ := open_strs g6
    obtain ⟨b8, e8, _⟩ := DataW.trod_bool Try.underlying4 g8
    obtain ⟨z9, e9, _, _⟩ := DataW.trod_int Try.underlying3 g9
    obtain ⟨ys, m', _, _, _, hyl, hfd'⟩ := DataW.trod_struct Try.underlying31 g7
    match ys, hyl with
    | [w0, w1, w2, w3], _ =>
      have q0 := hfd' 0 _ rfl
      have q1 := hfd' 1 _ rfl
      have q2 := hfd' 2 _ rfl
      have q3 := hfd' 3 _ rfl
      simp [c3, c9, c29] at q0 q1 q2 q3
      obtain ⟨r0, f0, _, _⟩ := DataW.trod_int Try.underlying3 q0
      obtain ⟨r1, f1, _, _⟩ := DataW.trod_int Try.underlying3 q1
      obtain ⟨r2, f2, _, _⟩ := DataW.trod_string Try.underlying9 q2
      obtain ⟨u3, nn, l, f3, hu⟩ := open_rps _ q3
      simp at e0 e1 e2 e3 e4 e5 e6 e8 e9 f0 f1 f2 f3
      subst e0 e1 e2 e3 e4 e5 e6 e8 e9 f0 f1 f2 f3
      exact ⟨⟨z0, z1, z2, z3, s4, s5, l6, .mk r0 r1 r2 nn l, b8, z9⟩, _, _, rfl, h6, hu _ _ _⟩

set_option maxRecDepth 100000 in
theorem open_ops {v : Value} {d : DataW H} {p : List MemPlace} {base : Nat} (hval : Value.okWide Try.prog W .any base 22 v) (h : DataW.Trod enc Try.prog W 0 (fun _ => true) true 22 v d p) :
    ∃ l, OpsAt W v l ∧ l.length ≤ 9223372036854775807 := by
  obtain ⟨A, n, c, rfl⟩ := okWide_slice Try.underlying22 hval
  obtain ⟨fuel, hf⟩ := h
  rcases Deep.open_slice Try.underlying22 hf with ⟨hcs, hx⟩ | ⟨a, len, cap, m, nn, D, Pl, hcs, hb, hl, hm, hmm, hx, hel⟩
  · obtain ⟨rfl, rfl, rfl⟩ : A = none ∧ n = 0 ∧ c = 0 := by simpa [Value.cells] using hcs
    exact ⟨[], ⟨none, 0, rfl, fun j o h => by simp at h⟩, by simp⟩
  · obtain ⟨rfl, rfl, rfl⟩ : A = some a ∧ n = len ∧ c = cap := by simpa [Value.cells] using hcs
    have hlm : n ≤ m := by rw [hmm]; simp; omega
    have each : ∀ i, i < n → ∃ q : Oq × List Value, Ok64 q.1.p ∧ LtAt (Fro 0) W q.1.x q.2 ∧ ∀ (k : Nat) (u : Value), (opCells q.1 q.2)[k]? = some u → W.cell? ((a.add (i * 16)).add k) = some u := by
      intro i hi
      obtain ⟨cs', h1, h2⟩ := hel i (by omega)
      rw [c35] at h1
      obtain ⟨_, hl16, hcell⟩ := World.cells?_some h1
      obtain ⟨xs, k, hk, _, _, hxl, hfd⟩ := DataW.trod_struct Try.underlying35 h2
      match xs, hxl with
      | [y0, y1, y2, y3], _ =>
        have g0 := hfd 0 _ rfl
        have g1 := hfd 1 _ rfl
        have g2 := hfd 2 _ rfl
        have g3 := hfd 3 _ rfl
        simp [c3, c33] at g0 g1 g2 g3
        obtain ⟨z0, e0, _, _⟩ := DataW.trod_int Try.underlying3 g0
        obtain ⟨z1, e1, _, w1⟩ := DataW.trod_int Try.underlying3 g1
        obtain ⟨z2, e2, _, w2⟩ := DataW.trod_int Try.underlying3 g2
        obtain ⟨y, hy⟩ := open_letter g3
        have hcs' : cs' = .int .i64 z0 :: .int .i64 z1 :: .int .i64 z2 :: (cs'.drop 3).take 13 := by
          match cs', hl16 with
          | v0 :: v1 :: v2 :: r, hl =>
            simp at e0 e1 e2 hl
            subst e0 e1 e2
            simp [List.take_of_length_le (show r.length ≤ 13 by omega)]
        refine ⟨(⟨z0, (z1, z2), y⟩, (cs'.drop 3).take 13), ⟨w1, w2⟩, hy, fun k u hu => ?_⟩
        have hkl : k < 16 := by
          have := (List.getElem?_eq_some_iff.1 hu).1
          have h13 := hy.length
          simp only [opCells, List.length_cons, h13] at this
          exact this
        have h3 := hcell k (by omega)
        have e4 : (opCells ⟨z0, (z1, z2), y⟩ ((cs'.drop 3).take 13)) = cs' := hcs'.symm
        rw [e4] at hu
        rw [hu] at h3
        exact h3
    haveI : Inhabited (Oq × List Value) := ⟨(⟨0, (0, 0), ⟨0, 0, 0, 0, ⟨#[]⟩, ⟨#[]⟩, [], Rp.zero, false, 0⟩⟩, [])⟩
    obtain ⟨q, hq⟩ := Deep.choose_lt each
    refine ⟨(List.range n).map (fun i => (q i).1), ⟨some a, c, by simp, fun j o hj => ?_⟩, by simp; unfold maxLen at hm; omega⟩
    have hjl : j < n := by have := (List.getElem?_eq_some_iff.1 hj).1; simpa using this
    obtain rfl : (q j).1 = o := by simpa [hjl] using hj
    obtain ⟨b, off, rfl⟩ := add_none_ (W := W) (a := a) (by
      have h0 := (hq 0 (by omega)).2.2 0 _ rfl
      have e : (a.add (0 * 16)).add 0 = a.add 0 := by rw [Nat.zero_mul]; cases a with | mk b o s => cases s <;> simp [Addr.add]
      rw [e] at h0; exact h0)
    obtain ⟨hok, hlt, hc⟩ := hq j hjl
    refine ⟨b, off, (q j).2, rfl, hok, fun i u hi => ?_, hlt⟩
    have := hc i u hi
    simp only [add_at_] at this
    exact this
end
theorem own : ownKnob Try.prog.godebug = none := by kernel_rfl
end Go.Proofs.Ytjplobfacdcgcaa
