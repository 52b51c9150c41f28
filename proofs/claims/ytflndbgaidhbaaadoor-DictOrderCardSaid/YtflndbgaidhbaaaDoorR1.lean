/-
  The reference's Step, New and Get, walked. Conditions: those that each theorem states.
-/
import Derived.Test.YtflndbgaidhbaaaDoorX14
import Derived.Laws.ResultCell
import Derived.Laws.Rows
namespace Go.Proofs.YtflndbgaidhbaaaDoor
open Go.RowKit Dm

/-- The reference's row of items. -/
abbrev RowR (w : World) (v : Value) (l : Room Int) : Prop := RoomAt 71 2 KI.enc w v l
def refV (v : Value) (rooms left : Nat) : Value := .agg #[v, .int .i64 rooms, .int .i64 left]

theorem info71 : (Tryd.prog.info? 71).map (fun i => (i.zero, i.size, i.bytes)) = some (some (.agg #[.string ⟨#[]⟩, .int .i64 0]), 2, 24) := by kernel_rfl

theorem wpList_append_room_ {P : Program} {α : Type} {ti sz : Nat} {enc : α → List Value} (hs : ∀ v : α, (enc v).length + 1 = sz) (h1 : ∀ v : α, ∀ u ∈ enc v, u.oneCell' = true) {ops : Array Oper} {rest : List Oper} {o : Oper} {a : Act} {Q : Exit → Act → World → Prop} (hgd : o.guard = none) (s y : Operand) (t : TypeId)
    (ho : o.op = .call { callee := .builtin .append, args := #[s, y], argTypes := #[t, t] })
    (w : World) (i : TypeInfo) (z : Value) (bytes : Nat) (ht : P.underlying t = some (.slice ti)) (hi : P.info? ti = some i) (hz : i.zero = some z) (hsize : i.size = sz) (hby : i.bytes = bytes) (hzs : z.cells.size = sz)
    (v : Value) (r : Room α) (hv : a.eval s = v) (hr : RoomAt ti sz enc w v r) (x : Nm × α) (ad : Addr) (c : Nat) (hy : a.eval y = .slice (some ad) 1 c) (hnews : ∀ j u, (itemCells enc x)[j]? = some u → w.cell? (ad.add j) = some u)
    (hlen : (r.length + 1) * bytes ≤ 140737488355328) (hmax : r.length + 1 ≤ maxLen)
    (h : ∀ g cap w', RoomAt ti sz enc w' (.slice (some ⟨g, 0, none⟩) (r.length + 1) (cap + 1)) (r ++ [x]) → w.grownBy w' (rb v) → (rb v = some g ∨ g = w.heap.size) → wpList P ops Q rest (a.put o.dst (.slice (some ⟨g, 0, none⟩) (r.length + 1) (cap + 1))) w') : wpList P ops Q (o :: rest) a w :=
  wpList_plain hgd fun _ hK => wp_append_room_ hs h1 s y t ho w i z bytes ht hi hz hsize hby hzs v r hv hr x ad c hy hnews hlen hmax fun g cap w' e1 e2 e3 => hK _ _ (h g cap w' e1 e2 e3)

theorem results_row_tmp {P : Program} {fn : Func} {p u : Tmp} {ty : TypeId} (h : fn.results = #[.cell p ty, .tmp u]) (tmps : Array Value) (w : World) (g : Nat) (t : TypeId) (cs : Array Value) (fr : Nat × Nat) (d : TypeDesc)
    (hp : tmps.getD p undef = .pointer (some ⟨g, 0, none⟩)) (hg : w.heap[g]? = some (.cells cs t fr))
    (hu : P.underlying ty = some d) (hd : (match d with | .struct _ | .array _ _ => true | _ => false) = true) (hi : (P.info? ty).map (·.size) = some cs.size) :
    (results fn tmps).run P w = .ok (.tuple #[.agg cs, tmps.getD u undef]) w := by
  rw [results_cell_tmp h]
  rw [hp]
  simp [asAddr, run_loadVar_row w g t ty cs fr d hg hu hd hi, Result.andThen]

set_option maxHeartbeats 1600000 in
set_option maxRecDepth 100000 in
theorem rstep_any (A : Option Addr) (n c rooms left : Nat) (w : World) (hl : left ≤ 1000000) :
    Calls Tryd.prog 36 #[refV (.slice A n c) rooms left] w fun e w' => e = .returned (.tuple #[refV (.slice A n c) rooms (left - 1), .bool (decide (left ≠ 0))]) ∧ Below w.heap.size w w' := by
  unfold refV
  by_cases h0 : left = 0
  · subst h0
    go_enter Tryd.func36, Tryd.ntmps36
    go_wp2_with fail
    refine bodyPost_ret (results_row_tmp rfl _ _ (w.heap.size + 1) 38 #[.slice A n c, .int .i64 rooms, .int .i64 0] (0, 0) _ rfl (heap_alloc2_new w _ _) Tryd.underlying38 rfl (by kernel_rfl)) rfl ?_
    exact ⟨rfl, ((Below.refl _ w).alloc (Nat.le_refl _) _).alloc (by simp) _⟩
  · have e1 : ((left : Int) == 0) = false := by rw [beq_eq_false_iff_ne]; omega
    have e2 : (((left - 1 : Nat)) : Int) = (left : Int) - 1 := by omega
    rw [e2, decide_eq_true h0]
    have h1 : 1 ≤ left := by omega
    clear h0 e2
    go_enter Tryd.func36, Tryd.ntmps36
    go_wp2_with fail
    refine bodyPost_ret (results_row_tmp rfl _ _ (w.heap.size + 1) 38 #[.slice A n c, .int .i64 rooms, .int .i64 ((left : Int) - 1)] (0, 0) _ rfl (heap_alloc2_new w _ _) Tryd.underlying38 rfl (by kernel_rfl)) rfl ?_
    exact ⟨rfl, ((Below.refl _ w).alloc (Nat.le_refl _) _).alloc (by simp) _⟩

set_option maxHeartbeats 1600000 in
set_option maxRecDepth 100000 in
theorem rnew_any (w : World) : Calls Tryd.prog 18 #[] w fun e w' => e = .returned (refV (.slice none 0 0) 4 0) ∧ Below w.heap.size w w' := by
  unfold refV
  go_enter Tryd.func18, Tryd.ntmps18
  go_wp2_with fail
  refine bodyPost_ret (results_cell_row rfl _ _ w.heap.size 38 #[.slice none 0 0, .int .i64 4, .int .i64 0] (0, 0) _ rfl (heap_alloc_new w _) Tryd.underlying38 rfl (by kernel_rfl)) rfl ?_
  exact ⟨rfl, (Below.refl _ w).alloc (Nat.le_refl _) _⟩

/-- Which is the first of a name. -/
def rget (l : Room Int) (n : Nm) : Option Int := (l.find? fun x => x.1 == n).map (·.2)

theorem rget_skip {l : Room Int} {n : Nm} {j : Nat} (h : ∀ x ∈ l.take j, x.1 ≠ n) : rget l n = rget (l.drop j) n := by
  unfold rget
  conv => lhs; rw [← List.take_append_drop j l]
  rw [List.find?_append, List.find?_eq_none.2 (by intro x hx; simpa using h x hx)]
  rfl

set_option maxHeartbeats 3200000 in
set_option maxRecDepth 100000 in
theorem rget_any (v : Value) (l : Room Int) (rooms left : Nat) (s : ByteArray) (w : World) (hr : RowR w v l) (hl : l.length ≤ 400000) :
    Calls Tryd.prog 35 #[refV v rooms left, .string s] w fun e w' => e = .returned (.tuple #[.int .i64 ((rget l s.data.toList).getD 0), .bool (rget l s.data.toList).isSome]) ∧ Below w.heap.size w w' := by
  unfold refV
  obtain ⟨A, c, rfl, _, _⟩ := hr.shape
  have HR := Lib.hid hr
  clear hr
  go_enter Tryd.func35, Tryd.ntmps35
  go_wp2_with fail
  have hb0 : Below w.heap.size w (w.alloc (.cells #[.slice A l.length c, .int .i64 rooms, .int .i64 left] 38)) := (Below.refl _ w).alloc (Nat.le_refl _) _
  have hx0 : (w.alloc (.cells #[.slice A l.length c, .int .i64 rooms, .int .i64 left] 38)).heap[w.heap.size]? = some (.cells #[.slice A l.length c, .int .i64 rooms, .int .i64 left] 38 (0, 0)) := heap_alloc_new w _
  generalize w.alloc (.cells #[.slice A l.length c, .int .i64 rooms, .int .i64 left] 38) = W at hb0 hx0 ⊢
  have hc0 : W.cell? ⟨w.heap.size, 0, none⟩ = some (.slice A l.length c) := by rw [cell_of_row W _ 0 _ _ (0, 0) hx0]; rfl
  clear hx0
  have HB := Lib.hid hb0
  clear hb0
  go_loopw [4, 6] (fun _ i wr => wr = W ∧ ∃ (j : Nat), j ≤ l.length ∧ i = .int .i64 (j : Int) ∧ ∀ x ∈ l.take j, x.1 ≠ s.data.toList) (fun _ i _ => l.length - (intOf i).toNat)
  case atStart => exact ⟨rfl, 0, Nat.zero_le _, rfl, by simp⟩
  case round =>
    obtain ⟨rfl, j, hj, rfl, hno⟩ := hrel
    by_cases hjl : j < l.length
    · have hx : l[j]? = some l[j] := List.getElem?_eq_getElem hjl
      obtain ⟨g2, cap2, he, hrb, hit⟩ := (HR.out.kept fun b hb => HB.out.block b (HR.out.lt hb).1).item KI.hs hx
      injection he with he1 he2 he3
      subst he1
      clear he2 he3
      have hcx0 := (hit 0 _ rfl).1
      have hcx1 := (hit 1 _ rfl).1
      have HX := Lib.hid (take_next1 hx)
      have HD := Lib.hid (List.drop_eq_getElem_cons hjl)
      generalize l[j] = x at hcx0 hcx1 HX HD
      obtain ⟨m, vx⟩ := x
      simp only [encStr] at hcx0
      simp only [Nat.add_zero] at hcx0
      have HN := Lib.hid hno
      clear hno hx hit hrb
      by_cases hm : m = s.data.toList
      · have hd : (m == s.toList) = true := by rw [ByteArray.toList_eq]; simpa using hm
        have HG := Lib.hid (show rget l s.data.toList = some vx by rw [rget_skip HN.out, HD.out]; simp [rget, hm])
        clear hm
        go_wp2_with fail
        go_ret2
        exact ⟨by rw [HG.out]; rfl, HB.out⟩
      · have hd : (m == s.toList) = false := by rw [ByteArray.toList_eq]; simpa using hm
        have HM := Lib.hid hm
        clear hm
        go_wp2_with fail
        go_roundw
        case rel =>
          refine ⟨trivial, j + 1, by omega, by go_num, ?_⟩
          rw [HX.out]
          intro y hy
          rcases List.mem_append.1 hy with hy | hy
          · exact HN.out y hy
          · rw [List.mem_singleton.1 hy]; exact HM.out
        case measure => simp [intOf]; omega
    · have hje : j = l.length := by omega
      subst hje
      have HG := Lib.hid (show rget l s.data.toList = none by rw [rget_skip hno]; simp [rget])
      clear hno
      go_wp2_with fail
      go_ret2
      exact ⟨by rw [HG.out]; rfl, HB.out⟩
end Go.Proofs.YtflndbgaidhbaaaDoor
