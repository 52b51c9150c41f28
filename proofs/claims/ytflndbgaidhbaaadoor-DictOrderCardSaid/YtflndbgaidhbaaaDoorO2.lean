/-
  DictOrder, the card: in which order unlike names are put is not seen in names and values; no condition.
-/
import Derived.Test.YtflndbgaidhbaaaDoorCards
import Derived.Test.YtflndbgaidhbaaaDoorTie
import Derived.Test.YtflndbgaidhbaaaDoorO1
import Derived.ProofKit
import Derived.OpenShut
import Derived.Deep.DeepHandedRow
import Derived.Deep.Slices
import Derived.Lib.LaidTab
namespace Go.Proofs.YtflndbgaidhbaaaDoor.Str
open Go.ChangeShapes Go.WideShapes Go.ChangeAt Go.RowKit Dm

section
variable {H : Type}
theorem weights_elem {P : Program} {e : TypeId} {d : DataW H} : ∀ {l : List (DataW H)}, d ∈ l → ∀ n, n ∈ d.weights P e → n ∈ DataW.weightsAll P e l
  | x :: l, hd, n, hn => by
    simp only [DataW.weightsAll, List.mem_append]
    rcases List.mem_cons.1 hd with rfl | h
    · exact Or.inl hn
    · exact Or.inr (weights_elem h n hn)

/-! ### The arguments opened -/
variable {enc : TypeId × Value → H} {W : World}
theorem add_none {a : Addr} {v : Value} (h : W.cell? (a.add 0) = some v) : ∃ b off, a = ⟨b, off, none⟩ ∧ b < W.heap.size := by
  have hlt := World.block_lt_of_cell? W _ h
  obtain ⟨b, off, spot⟩ := a
  cases spot with
  | none => exact ⟨b, off, rfl, hlt⟩
  | some s =>
    simp only [Addr.add, if_true, World.cell?] at h
    split at h <;> simp at h
theorem add_at (b off n : Nat) : (⟨b, off, none⟩ : Addr).add n = ⟨b, off + n, none⟩ := by
  unfold Addr.add; split <;> simp_all

set_option maxRecDepth 100000 in
theorem open_strs_ {v : Value} {d : DataW H} {p : List MemPlace} {base : Nat} (hval : Value.okWide Tryd.prog W .any base 22 v) (h : DataW.Trod enc Tryd.prog W 0 (fun _ => true) true 22 v d p) :
    ∃ l, StrsAt W v l ∧ (∀ n ∈ l, n.length ∈ d.weights Tryd.prog 22) ∧ l.length ≤ 9223372036854775807 := by
  obtain ⟨A, n, c, rfl⟩ := okWide_slice Tryd.underlying22 hval
  obtain ⟨fuel, hf⟩ := h
  rcases Deep.open_slice Tryd.underlying22 hf with ⟨hcs, hx⟩ | ⟨a, len, cap, m, nn, D, Pl, hcs, hb, hl, hm, hmm, hx, hel⟩
  · obtain ⟨rfl, rfl, rfl⟩ : A = none ∧ n = 0 ∧ c = 0 := by simpa [Value.cells] using hcs
    exact ⟨[], ⟨none, 0, rfl, fun j o h => by simp at h⟩, fun o h => by simp at h, by simp⟩
  · obtain ⟨rfl, rfl, rfl⟩ : A = some a ∧ n = len ∧ c = cap := by simpa [Value.cells] using hcs
    obtain ⟨rfl, rfl⟩ := Prod.mk.inj hx
    have hlm : n ≤ m := by rw [hmm]; simp; omega
    have ce : Tryd.prog.cellsOf 9 = 1 := by kernel_rfl
    have each : ∀ i, i < n → ∃ q : Nm, W.cell? (a.add i) = some (.string ⟨q.toArray⟩) ∧ q.length ∈ (D i).weights Tryd.prog 9 := by
      intro i hi
      obtain ⟨cs', h1, h2⟩ := hel i (by omega)
      rw [ce] at h1
      obtain ⟨_, hlen, hcell⟩ := World.cells?_some h1
      obtain ⟨s0, rfl, hy, _⟩ := DataW.trod_string Tryd.underlying9 h2
      have k0 := hcell 0 (by omega)
      refine ⟨s0.data.toList, by simpa [Addr.add] using k0, ?_⟩
      have hD : D i = .lit (.string s0.data.toList) := congrArg (·.1) hy
      rw [hD]
      simp [DataW.weights]
    obtain ⟨q, hq⟩ := Deep.choose_lt each
    refine ⟨(List.range n).map q, ⟨some a, c, by simp, fun j o hj => ?_⟩, fun o ho => ?_, by simp; unfold maxLen at hm; omega⟩
    · have hjl : j < n := by have := (List.getElem?_eq_some_iff.1 hj).1; simpa using this
      obtain rfl : q j = o := by simpa [hjl] using hj
      obtain ⟨b, off, rfl, hlt⟩ := add_none (W := W) (a := a) (hq 0 (by omega)).1
      have t0 := (hq j hjl).1
      rw [add_at] at t0
      exact ⟨b, off, rfl, hlt, t0⟩
    · obtain ⟨j, hj, rfl⟩ := List.mem_map.1 ho
      have hjl : j < n := List.mem_range.1 hj
      have hin := weights_elem (P := Tryd.prog) (e := 9) (List.mem_map.2 ⟨j, hj, rfl⟩ : D j ∈ (List.range n).map D) _ (hq j hjl).2
      simp only [DataW.weights, Tryd.underlying22, List.mem_cons, List.mem_append]
      exact Or.inr (Or.inl hin)

set_option maxRecDepth 100000 in
theorem open_ints_ {v : Value} {d : DataW H} {p : List MemPlace} {base : Nat} (hval : Value.okWide Tryd.prog W .any base 23 v) (h : DataW.Trod enc Tryd.prog W 0 (fun _ => true) true 23 v d p) :
    ∃ l, IntsAt W v l ∧ l.length ≤ 9223372036854775807 := by
  obtain ⟨A, n, c, rfl⟩ := okWide_slice Tryd.underlying23 hval
  obtain ⟨fuel, hf⟩ := h
  rcases Deep.open_slice Tryd.underlying23 hf with ⟨hcs, hx⟩ | ⟨a, len, cap, m, nn, D, Pl, hcs, hb, hl, hm, hmm, hx, hel⟩
  · obtain ⟨rfl, rfl, rfl⟩ : A = none ∧ n = 0 ∧ c = 0 := by simpa [Value.cells] using hcs
    exact ⟨[], ⟨none, 0, rfl, fun j o h => by simp at h⟩, by simp⟩
  · obtain ⟨rfl, rfl, rfl⟩ : A = some a ∧ n = len ∧ c = cap := by simpa [Value.cells] using hcs
    have hlm : n ≤ m := by rw [hmm]; simp; omega
    have ce : Tryd.prog.cellsOf 3 = 1 := by kernel_rfl
    have each : ∀ i, i < n → ∃ q : Int, W.cell? (a.add i) = some (.int .i64 q) := by
      intro i hi
      obtain ⟨cs', h1, h2⟩ := hel i (by omega)
      rw [ce] at h1
      obtain ⟨_, hlen, hcell⟩ := World.cells?_some h1
      obtain ⟨z0, rfl, _, _⟩ := DataW.trod_int Tryd.underlying3 h2
      have k0 := hcell 0 (by omega)
      exact ⟨z0, by simpa [Addr.add] using k0⟩
    obtain ⟨q, hq⟩ := Deep.choose_lt each
    refine ⟨(List.range n).map q, ⟨some a, c, by simp, fun j o hj => ?_⟩, by simp; unfold maxLen at hm; omega⟩
    have hjl : j < n := by have := (List.getElem?_eq_some_iff.1 hj).1; simpa using this
    obtain rfl : q j = o := by simpa [hjl] using hj
    obtain ⟨b, off, rfl, hlt⟩ := add_none (W := W) (a := a) (hq 0 (by omega))
    have t0 := hq j hjl
    rw [add_at] at t0
    exact ⟨b, off, rfl, hlt, t0⟩
end

/-! ### The table, the world for the witness -/
def crcL : List Int := [0, 4129, 8258, 12387, 16516, 20645, 24774, 28903, 33032, 37161, 41290, 45419, 49548, 53677, 57806, 61935]
def crcT (i : Nat) : Int := crcL.getD i 0
theorem own : ownKnob Tryd.prog.godebug = none := by kernel_rfl
theorem laidOut : laidOutB Tryd.prog = true := by kernel_rfl
theorem gTab : Tryd.prog.globalNamed "marshalyard/crc.halves" = some 0 := by kernel_rfl
theorem gTabType : (Tryd.prog.globals[0]?).map (·.type) = some 112 := by kernel_rfl
theorem cells112 : Tryd.prog.cellsOf 112 = 16 := by kernel_rfl
theorem cells90 : Tryd.prog.cellsOf 90 = 1 := by kernel_rfl
theorem table {W : World} (h : laidMetH Tryd.prog Rows.dictOrderRow.laid W) : Lib.TabIs Tryd.prog W "marshalyard/crc.halves" .u16 crcL :=
  Lib.tabIs_of_head (rest := []) gTab gTabType Tryd.underlying112 Tryd.underlying90 cells90 cells112 h
theorem tab {W : World} (h : laidMetH Tryd.prog Rows.dictOrderRow.laid W) : Tab crcT W := fun i hi => (table h).cell gTab i hi

noncomputable def laidWorld (os : Os) (args : Array Value) : World :=
  { World.holding Tryd.prog os ⟨#[], args, []⟩ with heap := (World.holding Tryd.prog os ⟨#[], args, []⟩).heap.modify 0 fun
      | .cells _ t frozen => .cells #[.int .u16 0, .int .u16 4129, .int .u16 8258, .int .u16 12387, .int .u16 16516, .int .u16 20645, .int .u16 24774, .int .u16 28903, .int .u16 33032, .int .u16 37161, .int .u16 41290, .int .u16 45419, .int .u16 49548, .int .u16 53677, .int .u16 57806, .int .u16 61935] t frozen
      | o => o }

namespace dictOrder
set_option maxRecDepth 100000 in
theorem contract (H : Type) (enc : TypeId × Value → H) (W : World) (base : Nat) (args : Array Value) (ds gs : List (DataW H)) (before : List MemPlace)
    (hval0 : ∀ (j : Nat) t v, Tryd.f3.params[j]? = some t → args[j]? = some v → Value.okWide Tryd.prog W .any base t v)
    (hW : DataW.Whole enc Tryd.prog Tryd.f3.params.toList Rows.dictOrderSpec.vars false W args.toList ds gs before) (hL : laidMetH Tryd.prog Rows.dictOrderRow.laid W)
    (hsz0 : (DataW.weightsEach Tryd.prog (Tryd.f3.params.toList ++ Rows.dictOrderSpec.plain.varTypes Tryd.prog) (ds ++ gs)).all (· ≤ reachBytes) = true) :
    Calls Tryd.prog 3 args W fun e W' => ∃ v, e = .returned v ∧ Rows.dictOrderSpec.post enc Tryd.prog Tryd.f3 false true false false W args v W' := by
  have hW' := hW
  obtain ⟨p, q, hA0, hV, rfl, hfz, hnd⟩ := hW
  have hA : DataW.TrodAll enc Tryd.prog W 0 (fun _ => true) true Tryd.f3.params.toList args.toList ds p := hA0
  have hval := hval0
  rw [Tryd.params3] at hA hval hsz0
  obtain ⟨v0, v1, d0, d1, p0, p1, rfl, rfl, rfl, h0, h1⟩ := trodAll_two hA
  obtain ⟨rfl, rfl⟩ := trodVars_none hV
  clear hA0 hA
  simp only [List.append_nil] at hW'
  have hlt0 : ∀ x ∈ p0, x.block < W.heap.size := fun x hx => hW'.lt x (List.mem_append_left _ hx)
  have hlt1 : ∀ x ∈ p1, x.block < W.heap.size := fun x hx => hW'.lt x (List.mem_append_right _ hx)
  obtain ⟨names, ho, hsz, hl1⟩ := open_strs_ (hval 0 22 v0 rfl rfl) h0
  obtain ⟨ats, ha, hl2⟩ := open_ints_ (hval 1 23 v1 rfl rfl) h1
  refine (order_any v0 v1 names ats crcT W (tab hL) ho ha (fun o hm => ?_) hl1 hl2).mono fun e W' ⟨he, hb⟩ => ?_
  · exact of_decide_eq_true (List.all_eq_true.1 hsz0 _ (DataW.weights_mem_each (j := 0) (t := 22) (d := d0) rfl rfl _ (hsz o hm)))
  · subst he
    refine ⟨_, rfl, [d0, d1], [], _, [], p0 ++ p1, [], hW', ?_, ?_, rfl, hb.frame _, fun h => by cases h⟩
    · exact trodAll_mk1 (shut_bool Tryd.underlying4 _)
    · exact trodAll_mk2 (Below.trod laidOut (by kernel_rfl) (of_decide_eq_true (by kernel_rfl)) h0 hb hlt0) (Below.trod laidOut (by kernel_rfl) (of_decide_eq_true (by kernel_rfl)) h1 hb hlt1)

theorem laid_met (os : Os) : laidMet Tryd.prog Rows.dictOrderRow.laid ((laidWorld os #[.slice none 0 0, .slice none 0 0]).forCall (fun _ _ => 0) ⟨#[], #[.slice none 0 0, .slice none 0 0], []⟩).memory :=
  laidMet_of_run' 8 (by kernel_rfl) (by kernel_rfl)
theorem reads (os : Os) {H : Type} (enc : TypeId × Value → H) : ∃ places, DataW.whole enc Tryd.prog ((laidWorld os #[.slice none 0 0, .slice none 0 0]).forCall (fun _ _ => 0) ⟨#[], #[.slice none 0 0, .slice none 0 0], []⟩).memory Tryd.f3.params.toList Rows.dictOrderSpec.vars false #[Value.slice none 0 0, Value.slice none 0 0].toList 8 = some ([.nil, .nil], [], places) :=
  ⟨[], by kernel_rfl⟩

set_option maxRecDepth 100000 in
theorem lifted (os : Os) (started : os.Started) (H : Type) (enc : TypeId × Value → H) (F : Stop.Interp) :
    ReturnsInHanded {} Tryd.checked os 3 .any ((OpenSpec.ofChange Rows.dictOrderSpec).preRow enc Tryd.prog Tryd.f3 Rows.dictOrderRow.domain false Rows.dictOrderRow.laid) (((OpenSpec.ofChange Rows.dictOrderSpec).at F).post enc Tryd.prog Tryd.f3 false true false false) := by
  obtain ⟨places, hx⟩ := reads os enc
  refine returnsInHanded_of_row (C := Tryd.checked) (s := OpenSpec.ofChange Rows.dictOrderSpec) own started (by kernel_rfl) Tryd.func3
    (witness_row_at (enc := enc) (C := Tryd.checked) false (laidWorld os #[.slice none 0 0, .slice none 0 0]) #[.slice none 0 0, .slice none 0 0] rfl (by kernel_rfl) (by kernel_rfl) (by kernel_rfl)
      (OpenSpec.preRow_of_cond 8 hx (by kernel_rfl) (fun k hk => by cases hk) (by kernel_rfl) (laid_met os))) ?_
  intro W base args ds gs before hval hW _ _ hsz hL _ _
  exact contract H enc W base args ds gs before hval hW hL hsz

theorem said : Rows.DictOrderSaid :=
  OpenClaim.holds_of_cond 3 Tryd.f3 rfl rfl rfl rfl rfl rfl rfl ⟨rfl, rfl, rfl, rfl, rfl⟩ rfl rfl rfl rfl rfl (by kernel_rfl) Tryd.func3 (by kernel_rfl)
    (of_decide_eq_true (by kernel_rfl)) (by unfold Func.isWrapper; first | (rw [if_pos (by decide +kernel)]; kernel_rfl) | (rw [if_neg (by decide +kernel)]; exact ⟨rfl, rfl⟩))
    (fun os started H enc _ F => by rw [OpenClaim.pre_eq_preRow]; exact lifted os started H enc F)

theorem plain (f : FuncId) (fn : Func) (hf : Tryd.pinned.checked.prog.funcNamed "marshalyard/marshalyardlaw07.DictOrder" = some f) (hfn : Tryd.pinned.checked.prog.funcs[f]? = some fn) :
    false = Tryd.pinned.checked.prog.looks [] ∧ ∀ (j : Nat) t, fn.params[j]? = some t → Tryd.pinned.checked.prog.wantsStandIn t = false := by
  obtain rfl : f = 3 := Option.some.inj ((show Tryd.prog.funcNamed "marshalyard/marshalyardlaw07.DictOrder" = some 3 by kernel_rfl).symm.trans hf) |>.symm
  obtain rfl : fn = Tryd.f3 := (Option.some.inj (Tryd.func3.symm.trans hfn)).symm
  refine ⟨by kernel_rfl, fun j t ht => ?_⟩
  rw [Tryd.params3] at ht
  have hm : t = 22 ∨ t = 23 := by simpa using Array.mem_of_getElem? ht
  rcases hm with rfl | rfl
  · exact (show Tryd.prog.wantsStandIn 22 = false by kernel_rfl)
  · exact (show Tryd.prog.wantsStandIn 23 = false by kernel_rfl)
end dictOrder

/-- In which order unlike names are put is not seen in names and values. -/
theorem dictOrder_card : Rows.DictOrderCardSaid :=
  Claim7.holds_tied_plain_at .later [] _ _ _ _ dictOrder.said (fun _ h => by cases h) (by kernel_rfl) (fun _ h => by cases h) dictOrder_row_tie rfl ⟨rfl, rfl⟩ (by kernel_rfl) rfl dictOrder.plain (by kernel_rfl)
#print axioms dictOrder_card
end Go.Proofs.YtflndbgaidhbaaaDoor.Str
