/-
  A letter that is handed in, opened, with how long its texts are. Of no function.
-/
import Derived.Test.YtjplobfacdcgcaaK1
namespace Go.Proofs.Ytjplobfacdcgcaa
open Go.ChangeShapes Go.WideShapes Go.ChangeAt Go.RowKit Go.WideMaps

/-- A row that is handed in: nil, or somewhere. -/
def Src (v : Value) : Prop := v = .slice none 0 0 ∨ ∃ a n c, v = .slice (some a) n c
/-- The texts of its list's replies are among W. -/
def Rp.Tops (W : List Nat) : Rp → Prop
  | .mk _ _ _ _ l => ∀ i, (l i).text.size ∈ W

section
variable {H : Type}
theorem weights_elem {P : Program} {e : TypeId} {d : DataW H} : ∀ {l : List (DataW H)}, d ∈ l → ∀ n, n ∈ d.weights P e → n ∈ DataW.weightsAll P e l
  | x :: l, hd, n, hn => by
    simp only [DataW.weightsAll, List.mem_append]
    rcases List.mem_cons.1 hd with rfl | h
    · exact Or.inl hn
    · exact Or.inr (weights_elem h n hn)
variable {enc : TypeId × Value → H} {W : World}
set_option maxRecDepth 100000 in
theorem open_strs_w {fuel : Nat} {cs : List Value} {x : DataW H × List MemPlace} (h : DataW.trod enc Try.prog W 0 (fun _ => true) true fuel 28 cs = some x) : ∃ v l, cs = [v] ∧ StrsAt (Fro 0) W v l ∧ Src v ∧ ∀ s ∈ l, s.size ∈ x.1.weights Try.prog 28 := by
  rcases Deep.open_slice1 Try.underlying28 c9 h with ⟨rfl, rfl⟩ | ⟨a, len, cap, m, n, V, D, Pl, rfl, hb, hl, hm, hmm, rfl, hel⟩
  · exact ⟨_, [], rfl, StrsAt.nil _ _ _ _, .inl rfl, fun s hs => by simp at hs⟩
  · have hlm : len ≤ m := by rw [hmm]; simp; omega
    have each : ∀ i, i < len → ∃ s : ByteArray, W.cell? (a.add i) = some (.string s) ∧ s.size ∈ (D i).weights Try.prog 9 := fun i hi => by
      obtain ⟨h1, h2⟩ := hel i (by omega)
      obtain ⟨s, hs, hx, _⟩ := DataW.trod_string Try.underlying9 h2
      have hd : D i = .lit (.string s.data.toList) := congrArg (·.1) hx
      have : V i = .string s := by simpa using hs
      exact ⟨s, by rw [h1, this], by rw [hd]; simp [DataW.weights]⟩
    obtain ⟨q, hq⟩ := Deep.choose_lt each
    refine ⟨_, (List.range len).map q, rfl, ⟨some a, cap, by simp, fun j s hj => ?_⟩, .inr ⟨_, _, _, rfl⟩, fun s hs => ?_⟩
    · have hjl : j < len := by have := (List.getElem?_eq_some_iff.1 hj).1; simpa using this
      obtain rfl : q j = s := by simpa [hjl] using hj
      obtain ⟨b, off, rfl⟩ := add_none_ (W := W) (a := a) (hq 0 (by omega)).1
      exact ⟨b, off, rfl, Nat.zero_le _, by have := (hq j hjl).1; rwa [add_at_] at this⟩
    · obtain ⟨j, hj, rfl⟩ := List.mem_map.1 hs
      have hjl : j < len := List.mem_range.1 hj
      have hin := weights_elem (P := Try.prog) (e := 9) (List.mem_map.2 ⟨j, hj, rfl⟩ : D j ∈ (List.range len).map D) _ (hq j hjl).2
      simp only [DataW.weights, Try.underlying28, List.mem_cons, List.mem_append]
      exact Or.inr (Or.inl hin)

set_option maxRecDepth 100000 in
theorem open_rps_w (fuel : Nat) {cs : List Value} {x : DataW H × List MemPlace} (h : DataW.trod enc Try.prog W 0 (fun _ => true) true fuel 29 cs = some x) :
    ∃ (v : Value) (n : Nat) (l : Fin n → Rp), cs = [v] ∧ (∀ k i t, RpAt (Fro 0) W (.mk k i t n l) v) ∧ Src v ∧ ∀ i, (l i).text.size ∈ x.1.weights Try.prog 29 := by
  obtain ⟨v, n, l, rfl, hr⟩ := open_rps fuel h
  have hsrc : Src v := by
    rcases Deep.open_slice Try.underlying29 h with ⟨hcs, _⟩ | ⟨a, len, cap, m, nn, D, Pl, hcs, _⟩
    · simp at hcs; exact .inl hcs
    · simp at hcs; exact .inr ⟨_, _, _, hcs⟩
  refine ⟨v, n, l, rfl, hr, hsrc, fun i => ?_⟩
  obtain ⟨A, c, rfl, hc⟩ := hr 0 0 ⟨#[]⟩
  obtain ⟨b, off, u, rfl, _, _, _, ht, _⟩ := hc i
  rcases Deep.open_slice Try.underlying29 h with ⟨hcs, _⟩ | ⟨a, len, cap, m, nn, D, Pl, hcs, hb, hl, hm, hmm, rfl, hel⟩
  · simp at hcs
  · obtain ⟨rfl, rfl, rfl⟩ : a = ⟨b, off, none⟩ ∧ len = n ∧ cap = c := by
      simp at hcs; exact ⟨hcs.1.symm, hcs.2.1.symm, hcs.2.2.symm⟩
    have hlm : len ≤ m := by rw [hmm]; simp; omega
    obtain ⟨cs', h1, h2⟩ := hel i.1 (by have := i.2; omega)
    rw [c31] at h1
    obtain ⟨_, hl4, hcell⟩ := World.cells?_some h1
    obtain ⟨xs, m', hm', hxe, _, hxl, hfd⟩ := DataW.trod_struct Try.underlying31 h2
    match xs, hxl, cs', hl4 with
    | [y0, y1, y2, y3], _, [v0, v1, v2, v3], _ =>
      have g2 := hfd 2 _ rfl
      simp [c9] at g2
      obtain ⟨s2, e2, hy2, _⟩ := DataW.trod_string Try.underlying9 g2
      have k2 := hcell 2 (by omega)
      simp at e2 k2
      subst e2
      rw [add_at_, add_at_, ht] at k2
      have hs : (l i).text = s2 := by simpa using k2
      have hd : D i.1 = .agg ([y0, y1, y2, y3].map (·.1)) := congrArg (·.1) hxe
      have hin := weights_elem (P := Try.prog) (e := 31) (List.mem_map.2 ⟨i.1, List.mem_range.2 i.2, rfl⟩ : D i.1 ∈ (List.range len).map D) (l i).text.size (by
        rw [hd, hs]
        simp [DataW.weights, DataW.weightsEach, Try.underlying31, hy2])
      simp only [DataW.weights, Try.underlying29, List.mem_cons, List.mem_append]
      exact Or.inr (Or.inl hin)

set_option maxRecDepth 100000 in
theorem open_letter_w {fuel : Nat} {cs : List Value} {x : DataW H × List MemPlace} (h : DataW.trod enc Try.prog W 0 (fun _ => true) true fuel 33 cs = some x) : ∃ (y : Lt) (va vr : Value), cs = ltCells y va vr ∧ StrsAt (Fro 0) W va y.args ∧ RpAt (Fro 0) W y.reply vr ∧ Src va ∧ Src vr ∧ (∀ s ∈ y.args, s.size ∈ x.1.weights Try.prog 33) ∧ y.reply.Tops (x.1.weights Try.prog 33) := by
  obtain ⟨xs, m, hm, rfl, hcl, hxl, hfd⟩ := DataW.trod_struct Try.underlying33 h
  rw [c33] at hcl
  match xs, hxl, cs, hcl with
  | [y0, y1, y2, y3, y4, y5, y6, y7, y8, y9], _, [v0, v1, v2, v3, v4, v5, v6, v7, v8, v9, v10, v11, v12], _ =>
    have g0 := hfd 0 _ rfl
    have g1 := hfd 1 _ rfl
    have g2 := hfd 2 _ rfl
    have g3 := hfd 3 _ rfl
    have g4 := hfd 4 _ rfl
    have g5 := hfd 5 _ rfl
    have g6 := hfd 6 _ rfl
    have g7 := hfd 7 _ rfl
    have g8 := hfd 8 _ rfl
    have g9 := hfd 9 _ rfl
    simp [c3, c4, c9, c28, c31] at g0 g1 g2 g3 g4 g5 g6 g7 g8 g9
    obtain ⟨z0, e0, _, _⟩ := DataW.trod_int Try.underlying3 g0
    obtain ⟨z1, e1, _, _⟩ := DataW.trod_int Try.underlying3 g1
    obtain ⟨z2, e2, _, _⟩ := DataW.trod_int Try.underlying3 g2
    obtain ⟨z3, e3, _, _⟩ := DataW.trod_int Try.underlying3 g3
    obtain ⟨s4, e4, _, _⟩ := DataW.trod_string Try.underlying9 g4
    obtain ⟨s5, e5, _, _⟩ := DataW.trod_string Try.underlying9 g5
    obtain ⟨u6, l6, e6, h6, n6, w6⟩ := open_strs_w g6
    obtain ⟨b8, e8, _⟩ := DataW.trod_bool Try.underlying4 g8
    obtain ⟨z9, e9, _, _⟩ := DataW.trod_int Try.underlying3 g9
    obtain ⟨ys, m', _, hy7, _, hyl, hfd'⟩ := DataW.trod_struct Try.underlying31 g7
    match ys, hyl with
    | [w0, w1, w2, w3'], _ =>
      have q0 := hfd' 0 _ rfl
      have q1 := hfd' 1 _ rfl
      have q2 := hfd' 2 _ rfl
      have q3 := hfd' 3 _ rfl
      simp [c3, c9, c29] at q0 q1 q2 q3
      obtain ⟨r0, f0, _, _⟩ := DataW.trod_int Try.underlying3 q0
      obtain ⟨r1, f1, _, _⟩ := DataW.trod_int Try.underlying3 q1
      obtain ⟨r2, f2, _, _⟩ := DataW.trod_string Try.underlying9 q2
      obtain ⟨u3, nn, l, f3, hu, n3, w3⟩ := open_rps_w _ q3
      simp at e0 e1 e2 e3 e4 e5 e6 e8 e9 f0 f1 f2 f3
      subst e0 e1 e2 e3 e4 e5 e6 e8 e9 f0 f1 f2 f3
      refine ⟨⟨z0, z1, z2, z3, s4, s5, l6, .mk r0 r1 r2 nn l, b8, z9⟩, _, _, rfl, h6, hu _ _ _, n6, n3, fun s hs => ?_, fun i => ?_⟩
      · have := w6 s hs
        have h33 := DataW.weights_mem_each (P := Try.prog) (ts := [3, 3, 3, 3, 9, 9, 28, 31, 4, 3]) (ds := [y0.1, y1.1, y2.1, y3.1, y4.1, y5.1, y6.1, y7.1, y8.1, y9.1]) (j := 6) (t := 28) (d := y6.1) rfl rfl _ this
        simpa [DataW.weights, Try.underlying33] using h33
      · have := w3 i
        have h31 := DataW.weights_mem_each (P := Try.prog) (ts := [3, 3, 9, 29]) (ds := [w0.1, w1.1, w2.1, w3'.1]) (j := 3) (t := 29) (d := w3'.1) rfl rfl _ this
        have h31' : (l i).text.size ∈ y7.1.weights Try.prog 31 := by rw [hy7]; simpa [DataW.weights, Try.underlying31] using h31
        have h33 := DataW.weights_mem_each (P := Try.prog) (ts := [3, 3, 3, 3, 9, 9, 28, 31, 4, 3]) (ds := [y0.1, y1.1, y2.1, y3.1, y4.1, y5.1, y6.1, y7.1, y8.1, y9.1]) (j := 7) (t := 31) (d := y7.1) rfl rfl _ h31'
        simpa [DataW.weights, Try.underlying33] using h33

end
end Go.Proofs.Ytjplobfacdcgcaa
