/-
  Small and few, walked; scripts in memory. Conditions: those that each theorem states.
-/
import Derived.Test.YtjplobfacdcgcaaA1
namespace Go.Proofs.Ytjplobfacdcgcaa
open Go.RowKit

theorem Rp.Fine.mono {m m' : Nat} (h : m ≤ m') : ∀ {r : Rp}, r.Fine m → r.Fine m' := by
  intro r
  induction r with
  | mk _ _ _ n l ih => intro hf; exact ⟨Nat.le_trans hf.1 h, fun i => ih i (hf.2 i)⟩

/-- What small tells: a truth; where it says yes, the reply is small. -/
def SmallT (r : Rp) (w : World) (e : Ending) (w' : World) : Prop := ∃ bb : Bool, e = .returned (.bool bb) ∧ (bb = true → r.Fine 50) ∧ Below w.heap.size w w'

set_option maxHeartbeats 3200000 in
set_option maxRecDepth 100000 in
theorem small_any : ∀ (r : Rp) (v : Value) (d : Nat) (w : World), RpAt (Fro 0) w r v → d ≤ 9 → Calls Try.prog 19 #[.agg #[.int .i64 r.kind, .int .i64 r.int, .string r.text, v], .int .i64 (d : Int)] w (SmallT r w) := by
  intro r
  induction r with
  | mk kind int text n l ih =>
  intro v d w hr hd
  have HIH := Lib.hid ih
  obtain ⟨A, c, rfl, hr2⟩ := hr
  have HR := Lib.hid hr2
  clear hr2 ih
  simp only [Rp.kind, Rp.int, Rp.text]
  by_cases hd8 : d ≤ 8
  · have hdd : decide ((d : Int) > 8) = false := decide_eq_false (by omega)
    by_cases hn : n ≤ 50
    · have hdn : decide ((n : Int) > 50) = false := decide_eq_false (by omega)
      have hb0 : Below w.heap.size w (w.alloc (.cells #[.int .i64 kind, .int .i64 int, .string text, .slice A n c] 31)) := (Below.refl _ w).alloc (Nat.le_refl _) _
      have HB0 := Lib.hid hb0
      clear hb0
      go_enter Try.func19, Try.ntmps19
      go_wp2_with fail
      go_loopw [18] (fun i wr => ∃ j : Nat, j ≤ n ∧ i = .int .i64 j ∧ Below w.heap.size w wr ∧ ∀ k : Fin n, k.1 < j → (l k).Fine 50) (fun i _ => n - (intOf i).toNat)
      case atStart => exact ⟨0, Nat.zero_le _, rfl, HB0.out, fun k hk => absurd hk (by omega)⟩
      case round =>
        obtain ⟨j, hj, rfl, hbw, hall⟩ := hrel
        by_cases hjl : j < n
        · have hdj : decide ((j : Int) < (n : Int)) = true := decide_eq_true (by omega)
          obtain ⟨b, off, u, rfl, _, c0, c1, c2, c3, hu⟩ := HR.out ⟨j, hjl⟩
          have hlt := World.block_lt_of_cell? _ _ c0
          have k0 := (hbw.cell (p := ⟨b, off + j * 4, none⟩) hlt).trans c0
          have k1 := (hbw.cell (p := ⟨b, off + j * 4 + 1, none⟩) hlt).trans c1
          have k2 := (hbw.cell (p := ⟨b, off + j * 4 + 2, none⟩) hlt).trans c2
          have k3 := (hbw.cell (p := ⟨b, off + j * 4 + 3, none⟩) hlt).trans c3
          have HI := Lib.hid (HIH.out ⟨j, hjl⟩)
          have HAll := Lib.hid (fun (h : (l ⟨j, hjl⟩).Fine 50) (k : Fin n) (hk : k.1 < j + 1) => show (l k).Fine 50 from by
            by_cases e : k.1 = j
            · have : k = ⟨j, hjl⟩ := Fin.ext e
              rw [this]; exact h
            · exact hall k (by omega))
          have HU := Lib.hid hu
          have HBw := Lib.hid hbw
          clear hu c0 c1 c2 c3 hbw hall
          generalize l ⟨j, hjl⟩ = rj at k0 k1 k2 HI HU HAll
          obtain ⟨kj, ij, tj, nj, lj⟩ := rj
          simp only [Rp.kind, Rp.int, Rp.text] at k0 k1 k2 HI
          obtain ⟨Au, cu, rfl⟩ : ∃ A c, u = .slice A nj c := by obtain ⟨A, c, rfl, _⟩ := HU.out; exact ⟨A, c, rfl⟩
          have hbx : Below w.heap.size w (wr.alloc (.cells #[.int .i64 kj, .int .i64 ij, .string tj, .slice Au nj cu] 31)) := HBw.out.alloc HBw.out.size _
          have HC := Lib.hid (HI.out (.slice Au nj cu) (d + 1) _ (HU.out.keep (.of_below hbx _)) (by omega))
          have e1 : (((d + 1 : Nat) : Int)) = (d : Int) + 1 := by push_cast; rfl
          rw [e1] at HC
          have HBx := Lib.hid hbx
          clear hbx e1 HI
          go_wp2_with fail
          refine HC.out.mono ?_
          rintro e w2 ⟨bb, rfl, hbb, hb2⟩
          have HB2 := Lib.hid (HBx.out.trans (hb2.mono HBx.out.size))
          have HBB := Lib.hid hbb
          clear hb2 hbb k0 k1 k2 k3 HC
          cases bb with
          | false =>
            go_wp2_with fail
            go_ret
            exact ⟨false, rfl, (fun h => by cases h), HB2.out⟩
          | true =>
            have HF := Lib.hid (HAll.out (HBB.out rfl))
            go_wp2_with fail
            go_roundw
            case rel => exact ⟨j + 1, by omega, by go_num, HB2.out, HF.out⟩
            case measure => simp [intOf]; omega
        · have hje : j = n := by omega
          subst hje
          have hdj : decide ((j : Int) < (j : Int)) = false := decide_eq_false (by omega)
          have HF := Lib.hid (show SmallT (.mk kind int text j l) w (.returned (.bool true)) wr from ⟨true, rfl, fun _ => ⟨hn, fun k => hall k k.2⟩, hbw⟩)
          clear hbw hall
          go_wp2_with fail
          go_ret
          exact HF.out
    · have hdn : decide ((n : Int) > 50) = true := decide_eq_true (by omega)
      have hb0 : Below w.heap.size w (w.alloc (.cells #[.int .i64 kind, .int .i64 int, .string text, .slice A n c] 31)) := (Below.refl _ w).alloc (Nat.le_refl _) _
      have HB0 := Lib.hid hb0
      clear hb0
      go_enter Try.func19, Try.ntmps19
      go_wp2_with fail
      go_ret
      exact ⟨false, rfl, (fun h => by cases h), HB0.out⟩
  · have hdd : decide ((d : Int) > 8) = true := decide_eq_true (by omega)
    have hb0 : Below w.heap.size w (w.alloc (.cells #[.int .i64 kind, .int .i64 int, .string text, .slice A n c] 31)) := (Below.refl _ w).alloc (Nat.le_refl _) _
    have HB0 := Lib.hid hb0
    clear hb0
    go_enter Try.func19, Try.ntmps19
    go_wp2_with fail
    go_ret
    exact ⟨false, rfl, (fun h => by cases h), HB0.out⟩

/-! ### Scripts -/
structure Oq where
  kind : Int
  p : Pr
  x : Lt
def opCells (o : Oq) (cs : List Value) : List Value := .int .i64 o.kind :: .int .i64 o.p.1 :: .int .i64 o.p.2 :: cs
def OpsAt (w : World) (v : Value) (l : List Oq) : Prop := ∃ A c, v = .slice A l.length c ∧ ∀ (j : Nat) (o : Oq), l[j]? = some o → ∃ b off cs, A = some ⟨b, off, none⟩ ∧ Ok64 o.p ∧
  (∀ (i : Nat) (u : Value), (opCells o cs)[i]? = some u → w.cell? ⟨b, off + j * 16 + i, none⟩ = some u) ∧ LtAt (Fro 0) w o.x cs
theorem OpsAt.below {w w' : World} {v : Value} {l : List Oq} (h : OpsAt w v l) (hb : Below w.heap.size w w') : OpsAt w' v l := by
  obtain ⟨A, c, rfl, h⟩ := h
  refine ⟨A, c, rfl, fun j o hj => ?_⟩
  obtain ⟨b, off, cs, hA, hp, hc, hl⟩ := h j o hj
  exact ⟨b, off, cs, hA, hp, fun i u hi => (hb.cell (p := ⟨b, off + j * 16 + i, none⟩) (World.block_lt_of_cell? _ _ (hc i u hi))).trans (hc i u hi), hl.keep (.of_below hb _)⟩

/-- A script that is small. -/
def Few (l : List Oq) : Prop := l.length ≤ 200 ∧ ∀ o ∈ l, o.x.reply.Fine 50 ∧ o.x.args.length ≤ 100
def FewT (l : List Oq) (w : World) (e : Ending) (w' : World) : Prop := ∃ bb : Bool, e = .returned (.bool bb) ∧ (bb = true → Few l) ∧ Below w.heap.size w w'

set_option maxHeartbeats 3200000 in
set_option maxRecDepth 100000 in
theorem few_any (v : Value) (l : List Oq) (w : World) (hv : OpsAt w v l) (hmax : l.length ≤ 9223372036854775807) : Calls Try.prog 9 #[v] w (FewT l w) := by
  obtain ⟨A, c, rfl, hv⟩ := hv
  have HV := Lib.hid hv
  obtain ⟨n, hn⟩ : ∃ n, n = l.length := ⟨_, rfl⟩
  rw [← hn] at hmax ⊢
  have HN := Lib.hid hn
  clear hv hn
  by_cases hm : n ≤ 200
  · have hd : decide ((n : Int) > 200) = false := decide_eq_false (by omega)
    go_enter Try.func9, Try.ntmps9
    go_wp2_with fail
    go_loopw [10] (fun i wr => ∃ j : Nat, j ≤ n ∧ i = .int .i64 j ∧ Below w.heap.size w wr ∧ ∀ o ∈ l.take j, o.x.reply.Fine 50 ∧ o.x.args.length ≤ 100) (fun i _ => n - (intOf i).toNat)
    case atStart => exact ⟨0, Nat.zero_le _, rfl, Below.refl _ _, fun o ho => by simp at ho⟩
    case round =>
      obtain ⟨j, hj, rfl, hbw, hall⟩ := hrel
      by_cases hjl : j < n
      · have hdj : decide ((j : Int) < (n : Int)) = true := decide_eq_true (by omega)
        have ho : l[j]? = some l[j] := List.getElem?_eq_getElem (by rw [← HN.out]; exact hjl)
        obtain ⟨bv, ov, cs, rfl, _, hcs, hx⟩ := HV.out j _ ho
        have HTk := Lib.hid (show l.take (j + 1) = l.take j ++ [l[j]] by rw [List.take_succ_eq_append_getElem (by rw [← HN.out]; exact hjl)])
        generalize l[j] = oj at ho hcs hx HTk
        obtain ⟨okind, ⟨p1, p2⟩, ⟨kind, number, slot, ends, key, text, args, ⟨rk, ri, rt, rn, rl⟩, good, asking⟩⟩ := oj
        obtain ⟨va, vr, rfl, hva, hvr⟩ := hx
        simp only [opCells, ltCells, Rp.kind, Rp.int, Rp.text] at hcs
        obtain ⟨Aa, na, ca, rfl, hna⟩ : ∃ A n c, va = .slice A n c ∧ n = args.length := by obtain ⟨A, c, e, _⟩ := hva; exact ⟨A, _, c, e, rfl⟩
        obtain ⟨Ar, cr, rfl⟩ : ∃ A c, vr = .slice A rn c := by obtain ⟨A, c, e, _⟩ := hvr; exact ⟨A, c, e⟩
        have hlt : bv < w.heap.size := World.block_lt_of_cell? _ _ (hcs 0 _ rfl)
        have m0 : wr.cell? ⟨bv, ov + j * 16, none⟩ = some (.int .i64 okind) := (hbw.cell (p := ⟨bv, ov + j * 16, none⟩) hlt).trans (hcs 0 _ rfl)
        have m1 : wr.cell? ⟨bv, ov + j * 16 + 1, none⟩ = some (.int .i64 p1) := (hbw.cell (p := ⟨bv, ov + j * 16 + 1, none⟩) hlt).trans (hcs 1 _ rfl)
        have m2 : wr.cell? ⟨bv, ov + j * 16 + 2, none⟩ = some (.int .i64 p2) := (hbw.cell (p := ⟨bv, ov + j * 16 + 2, none⟩) hlt).trans (hcs 2 _ rfl)
        have m3 : wr.cell? ⟨bv, ov + j * 16 + 3, none⟩ = some (.int .i64 kind) := (hbw.cell (p := ⟨bv, ov + j * 16 + 3, none⟩) hlt).trans (hcs 3 _ rfl)
        have m4 : wr.cell? ⟨bv, ov + j * 16 + 4, none⟩ = some (.int .i64 number) := (hbw.cell (p := ⟨bv, ov + j * 16 + 4, none⟩) hlt).trans (hcs 4 _ rfl)
        have m5 : wr.cell? ⟨bv, ov + j * 16 + 5, none⟩ = some (.int .i64 slot) := (hbw.cell (p := ⟨bv, ov + j * 16 + 5, none⟩) hlt).trans (hcs 5 _ rfl)
        have m6 : wr.cell? ⟨bv, ov + j * 16 + 6, none⟩ = some (.int .i64 ends) := (hbw.cell (p := ⟨bv, ov + j * 16 + 6, none⟩) hlt).trans (hcs 6 _ rfl)
        have m7 : wr.cell? ⟨bv, ov + j * 16 + 7, none⟩ = some (.string key) := (hbw.cell (p := ⟨bv, ov + j * 16 + 7, none⟩) hlt).trans (hcs 7 _ rfl)
        have m8 : wr.cell? ⟨bv, ov + j * 16 + 8, none⟩ = some (.string text) := (hbw.cell (p := ⟨bv, ov + j * 16 + 8, none⟩) hlt).trans (hcs 8 _ rfl)
        have m9 : wr.cell? ⟨bv, ov + j * 16 + 9, none⟩ = some (.slice Aa na ca) := (hbw.cell (p := ⟨bv, ov + j * 16 + 9, none⟩) hlt).trans (hcs 9 _ rfl)
        have m10 : wr.cell? ⟨bv, ov + j * 16 + 10, none⟩ = some (.int .i64 rk) := (hbw.cell (p := ⟨bv, ov + j * 16 + 10, none⟩) hlt).trans (hcs 10 _ rfl)
        have m11 : wr.cell? ⟨bv, ov + j * 16 + 11, none⟩ = some (.int .i64 ri) := (hbw.cell (p := ⟨bv, ov + j * 16 + 11, none⟩) hlt).trans (hcs 11 _ rfl)
        have m12 : wr.cell? ⟨bv, ov + j * 16 + 12, none⟩ = some (.string rt) := (hbw.cell (p := ⟨bv, ov + j * 16 + 12, none⟩) hlt).trans (hcs 12 _ rfl)
        have m13 : wr.cell? ⟨bv, ov + j * 16 + 13, none⟩ = some (.slice Ar rn cr) := (hbw.cell (p := ⟨bv, ov + j * 16 + 13, none⟩) hlt).trans (hcs 13 _ rfl)
        have m14 : wr.cell? ⟨bv, ov + j * 16 + 14, none⟩ = some (.bool good) := (hbw.cell (p := ⟨bv, ov + j * 16 + 14, none⟩) hlt).trans (hcs 14 _ rfl)
        have m15 : wr.cell? ⟨bv, ov + j * 16 + 15, none⟩ = some (.int .i64 asking) := (hbw.cell (p := ⟨bv, ov + j * 16 + 15, none⟩) hlt).trans (hcs 15 _ rfl)
        have hbx : Below w.heap.size w (wr.alloc (.cells #[.int .i64 okind, .int .i64 p1, .int .i64 p2, .int .i64 kind, .int .i64 number, .int .i64 slot, .int .i64 ends, .string key, .string text, .slice Aa na ca, .int .i64 rk, .int .i64 ri, .string rt, .slice Ar rn cr, .bool good, .int .i64 asking] 35)) := hbw.alloc hbw.size _
        have HC := Lib.hid (small_any (.mk rk ri rt rn rl) (.slice Ar rn cr) 0 _ (hvr.keep (.of_below hbx _)) (by omega))
        simp only [Rp.kind, Rp.int, Rp.text] at HC
        have HBx := Lib.hid hbx
        have HAll := Lib.hid hall
        have HNa := Lib.hid hna
        clear hbx hbw hall hva hvr hcs ho hna
        go_wp2_with fail
        refine HC.out.mono ?_
        rintro e w2 ⟨bb, rfl, hbb, hb2⟩
        have hxc : w2.cell? ⟨wr.heap.size, 9, none⟩ = some (.slice Aa na ca) := by
          have h0 := World.alloc_heap_new wr (.cells #[.int .i64 okind, .int .i64 p1, .int .i64 p2, .int .i64 kind, .int .i64 number, .int .i64 slot, .int .i64 ends, .string key, .string text, .slice Aa na ca, .int .i64 rk, .int .i64 ri, .string rt, .slice Ar rn cr, .bool good, .int .i64 asking] 35)
          rw [cell_of_row _ _ _ _ _ _ ((hb2.block _ (lt_of_heap h0)).trans h0)]; rfl
        have HB2 := Lib.hid (HBx.out.trans (hb2.mono HBx.out.size))
        have HBB := Lib.hid hbb
        clear hb2 hbb HC m0 m1 m2 m3 m4 m5 m6 m7 m8 m9 m10 m11 m12 m13 m14 m15
        cases bb with
        | false =>
          go_wp2_with fail
          go_ret
          exact ⟨false, rfl, (fun h => by cases h), HB2.out⟩
        | true =>
          by_cases ha : na ≤ 100
          · have hda : decide ((na : Int) > 100) = false := decide_eq_false (by omega)
            have HF := Lib.hid (show ∀ o ∈ l.take (j + 1), o.x.reply.Fine 50 ∧ o.x.args.length ≤ 100 from fun o ho => by
              rw [HTk.out] at ho
              rcases List.mem_append.1 ho with ho | ho
              · exact HAll.out o ho
              · obtain rfl := List.mem_singleton.1 ho
                exact ⟨HBB.out rfl, by show args.length ≤ 100; rw [← HNa.out]; exact ha⟩)
            go_wp2_with fail
            go_roundw
            case rel => exact ⟨j + 1, by omega, by go_num, HB2.out, HF.out⟩
            case measure => simp [intOf]; omega
          · have hda : decide ((na : Int) > 100) = true := decide_eq_true (by omega)
            go_wp2_with fail
            go_ret
            exact ⟨false, rfl, (fun h => by cases h), HB2.out⟩
      · have hje : j = n := by omega
        subst hje
        have hdj : decide ((j : Int) < (j : Int)) = false := decide_eq_false (by omega)
        have HF := Lib.hid (show FewT l w (.returned (.bool true)) wr from ⟨true, rfl, fun _ => ⟨by rw [← HN.out]; exact hm, fun o ho => hall o (by rw [List.take_of_length_le (by rw [HN.out]; exact Nat.le_refl _)]; exact ho)⟩, hbw⟩)
        clear hbw hall
        go_wp2_with fail
        go_ret
        exact HF.out
  · have hd : decide ((n : Int) > 200) = true := decide_eq_true (by omega)
    go_enter Try.func9, Try.ntmps9
    go_wp2_with fail
    go_ret
    exact ⟨false, rfl, (fun h => by cases h), Below.refl _ _⟩
end Go.Proofs.Ytjplobfacdcgcaa
