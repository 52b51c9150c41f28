/-
  LinksKeep, walked: it tells true for every letter whose texts can be lengthened. Conditions: those that each theorem states.
-/
import Derived.Test.YtjplobfacdcgcaaE0
namespace Go.Proofs.Ytjplobfacdcgcaa
open Go.RowKit

/-- The texts of its list's replies can be lengthened. -/
def Rp.Short : Rp → Prop
  | .mk _ _ _ _ l => ∀ i, (l i).text.size + 1 ≤ 9223372036854775807

theorem Off.set {n : Nat} {a b : World} (h : Off n a b) (i : Nat) (v : Value) : Off n a (b.setCell ⟨n, i, none⟩ v) :=
  ⟨h.os, h.tape, h.output, by simpa [World.setCell] using h.size, fun k hk hn => (setCell_far _ hn).trans (h.block k hk hn)⟩
theorem rowAt_of {w w' : World} {k i : Int} {t : ByteArray} {n : Nat} {l : Fin n → Rp} {v : Value} (h : RpAt (Fro 0) w (.mk k i t n l) v) (hb : Below w.heap.size w w') : RowAt w' n l (fun i u => RpAt (Fro 0) w (l i) u) v := by
  obtain ⟨A, c, rfl, hc⟩ := h
  refine ⟨A, c, rfl, fun i => ?_⟩
  obtain ⟨b, off, u, hA, _, h1, h2, h3, h4, h5⟩ := hc i
  exact ⟨b, off, u, hA, (hb.cell (p := ⟨b, off + i.1 * 4, none⟩) (World.block_lt_of_cell? _ _ h1)).trans h1, (hb.cell (p := ⟨b, off + i.1 * 4 + 1, none⟩) (World.block_lt_of_cell? _ _ h2)).trans h2, (hb.cell (p := ⟨b, off + i.1 * 4 + 2, none⟩) (World.block_lt_of_cell? _ _ h3)).trans h3, (hb.cell (p := ⟨b, off + i.1 * 4 + 3, none⟩) (World.block_lt_of_cell? _ _ h4)).trans h4, h5⟩

set_option maxHeartbeats 6400000 in
set_option maxRecDepth 100000 in
theorem keep_any (x : Lt) (va vr : Value) (w : World) (hva : StrsAt (Fro 0) w va x.args) (hvr : RpAt (Fro 0) w x.reply vr) (hsa : Src va) (hsr : Src vr)
    (hta : ∀ s ∈ x.args, s.size + 1 ≤ 9223372036854775807) (htr : x.reply.Short) :
    Calls Try.prog 5 #[letV x va vr] w fun e w' => e = .returned (.bool true) ∧ Below w.heap.size w w' := by
  obtain ⟨kind, number, slot, ends, key, text, args, ⟨rk, ri, rt, rn, rl⟩, good, asking⟩ := x
  obtain ⟨Aa, na, ca, rfl, hna⟩ : ∃ A n c, va = .slice A n c ∧ n = args.length := by obtain ⟨A, c, e, _⟩ := hva; exact ⟨A, _, c, e, rfl⟩
  obtain ⟨Ar, cr, rfl⟩ : ∃ A c, vr = .slice A rn c := by obtain ⟨A, c, e, _⟩ := hvr; exact ⟨A, c, e⟩
  simp only [letV, Rp.kind, Rp.int, Rp.text] at *
  obtain ⟨W0, hW0⟩ : ∃ W0, W0 = w.alloc (.cells #[.int .i64 kind, .int .i64 number, .int .i64 slot, .int .i64 ends, .string key, .string text, .slice Aa na ca, .int .i64 rk, .int .i64 ri, .string rt, .slice Ar rn cr, .bool good, .int .i64 asking] 33) := ⟨_, rfl⟩
  have hb0 : Below w.heap.size w W0 := by rw [hW0]; exact (Below.refl _ w).alloc (Nat.le_refl _) _
  have hx0 : W0.heap[w.heap.size]? = some (.cells #[.int .i64 kind, .int .i64 number, .int .i64 slot, .int .i64 ends, .string key, .string text, .slice Aa na ca, .int .i64 rk, .int .i64 ri, .string rt, .slice Ar rn cr, .bool good, .int .i64 asking] 33 (0, 0)) := by rw [hW0]; exact World.alloc_heap_new w _
  have HX := Lib.hid (fun (w' : World) (hb : Below W0.heap.size W0 w') => show w'.cell? ⟨w.heap.size, 0, none⟩ = some (.int .i64 kind) ∧ w'.cell? ⟨w.heap.size, 1, none⟩ = some (.int .i64 number) ∧ w'.cell? ⟨w.heap.size, 2, none⟩ = some (.int .i64 slot) ∧ w'.cell? ⟨w.heap.size, 3, none⟩ = some (.int .i64 ends) ∧ w'.cell? ⟨w.heap.size, 4, none⟩ = some (.string key) ∧ w'.cell? ⟨w.heap.size, 5, none⟩ = some (.string text) ∧ w'.cell? ⟨w.heap.size, 6, none⟩ = some (.slice Aa na ca) ∧ w'.cell? ⟨w.heap.size, 7, none⟩ = some (.int .i64 rk) ∧ w'.cell? ⟨w.heap.size, 8, none⟩ = some (.int .i64 ri) ∧ w'.cell? ⟨w.heap.size, 9, none⟩ = some (.string rt) ∧ w'.cell? ⟨w.heap.size, 10, none⟩ = some (.slice Ar rn cr) ∧ w'.cell? ⟨w.heap.size, 11, none⟩ = some (.bool good) ∧ w'.cell? ⟨w.heap.size, 12, none⟩ = some (.int .i64 asking) from by
    have hx := (hb.block _ (lt_of_heap hx0)).trans hx0
    refine ⟨?_, ?_, ?_, ?_, ?_, ?_, ?_, ?_, ?_, ?_, ?_, ?_, ?_⟩ <;> rw [cell_of_row _ _ _ _ _ _ hx] <;> rfl)
  have HB0 := Lib.hid hb0
  have HW0 := Lib.hid hW0
  have HVa := Lib.hid hva
  have HVr := Lib.hid hvr
  have HSa := Lib.hid hsa
  have HSr := Lib.hid hsr
  have HTa := Lib.hid hta
  have HTr := Lib.hid htr
  have HNa := Lib.hid hna
  have HX0 := Lib.hid hx0
  clear hb0 hW0 hva hvr hsa hsr hta htr hna hx0
  go_enter Try.func5, Try.ntmps5
  go_wp2_with fail
  rw [← HW0.out]
  refine (new_any (Fro W0.heap.size) W0 (fun k hk => hk)).mono ?_
  rintro e w1 ⟨bp, b, rfl, hbp, hb, hat, hbel⟩
  have H1 := Lib.hid (LkIn.mk (w0 := W0) hat hb hbel (fun k hk => Nat.le_trans hbel.size hk))
  have HAl := Lib.hid (fun (wr : World) (hb : Below w.heap.size w wr) => show Calls Try.prog 10 #[] wr fun e w' => e = .returned (.bool true) ∧ Below w.heap.size w w' from (alive_any wr).mono fun e w' ⟨he, hb'⟩ => ⟨he, hb.trans (hb'.mono hb.size)⟩)
  obtain ⟨x0, x1, x2, x3, x4, x5, x6, x7, x8, x9, x10, x11, x12⟩ := HX.out w1 hbel
  -- few
  obtain ⟨W1, hW1⟩ : ∃ W1, W1 = w1.alloc (.cells #[.int .i64 0, .int .i64 0, .int .i64 0, .int .i64 kind, .int .i64 number, .int .i64 slot, .int .i64 ends, .string key, .string text, .slice Aa na ca, .int .i64 rk, .int .i64 ri, .string rt, .slice Ar rn cr, .bool good, .int .i64 asking] 35) := ⟨_, rfl⟩
  have hb1 : Below w1.heap.size w1 W1 := by rw [hW1]; exact (Below.refl _ _).alloc (Nat.le_refl _) _
  have hbW1 : Below w.heap.size w W1 := HB0.out.trans ((hbel.trans (hb1.mono hbel.size)).mono HB0.out.size)
  have hops : OpsAt W1 (.slice (some ⟨w1.heap.size, 0, none⟩) 1 1) [⟨0, (0, 0), ⟨kind, number, slot, ends, key, text, args, .mk rk ri rt rn rl, good, asking⟩⟩] := by
    have hn : W1.heap[w1.heap.size]? = some (.cells #[.int .i64 0, .int .i64 0, .int .i64 0, .int .i64 kind, .int .i64 number, .int .i64 slot, .int .i64 ends, .string key, .string text, .slice Aa na ca, .int .i64 rk, .int .i64 ri, .string rt, .slice Ar rn cr, .bool good, .int .i64 asking] 35 (0, 0)) := by rw [hW1]; exact World.alloc_heap_new w1 _
    refine ⟨_, _, rfl, fun j o hj => ?_⟩
    match j, hj with
    | 0, hj =>
      obtain rfl : _ = o := by simpa using hj
      refine ⟨w1.heap.size, 0, ltCells ⟨kind, number, slot, ends, key, text, args, .mk rk ri rt rn rl, good, asking⟩ (.slice Aa na ca) (.slice Ar rn cr), rfl, ⟨(by decide : (Lit.int .i64 0).wf = true), (by decide : (Lit.int .i64 0).wf = true)⟩, fun i u hi => ?_, _, _, rfl, HVa.out.keep (.of_below hbW1 _), HVr.out.keep (.of_below hbW1 _)⟩
      rw [cell_of_row _ _ _ _ _ _ hn, ← hi]
      simp [opCells, ltCells, Rp.kind, Rp.int, Rp.text]
  have HFew := Lib.hid (few_any _ _ W1 hops (by simp))
  have HB1 := Lib.hid hb1
  have HW1 := Lib.hid hW1
  clear hbp hb hat hbel hb1 hbW1 hops hW1
  go_wp2_with fail
  rw [← HW1.out]
  refine HFew.out.mono ?_
  rintro e w2 ⟨bb, rfl, hbb, hb2⟩
  have H2 := Lib.hid (H1.out.below (HB1.out.trans (hb2.mono HB1.out.size)))
  have HBB := Lib.hid hbb
  clear hb2 hbb H1 HFew x0 x1 x2 x3 x4 x5 x6 x7 x8 x9 x10 x11 x12
  cases bb with
  | false =>
    have HA2 := Lib.hid (HAl.out w2 (HB0.out.trans (H2.out.bel.mono HB0.out.size)))
    go_wp2_with fail
    refine HA2.out.mono ?_
    rintro e w3 ⟨rfl, hb3⟩
    go_wp2_with fail
    go_ret
    exact ⟨rfl, hb3⟩
  | true =>
    obtain ⟨_, hsm⟩ := HBB.out rfl
    obtain ⟨hfi, hal⟩ := hsm _ (List.mem_singleton.2 rfl)
    simp only at hfi hal
    obtain ⟨x0, x1, x2, x3, x4, x5, x6, x7, x8, x9, x10, x11, x12⟩ := HX.out w2 H2.out.bel
    have HB2 := Lib.hid (HB0.out.trans (H2.out.bel.mono HB0.out.size))
    have HFi := Lib.hid hfi
    have HLen := Lib.hid hal
    clear hfi hal hsm HBB
    go_wp2_with (with_reducible refine halt_list 25 ?_)
    clear x0 x1 x2 x3 x4 x5 x6 x7 x8 x9 x10 x11 x12
    refine halt_at (fun W3 => W3.heap[w2.heap.size]? = some (.cells #[.int .i64 kind, .int .i64 number, .int .i64 slot, .int .i64 ends, .string key, .string text, .slice Aa na ca, .int .i64 rk, .int .i64 ri, .string rt, .slice Ar rn cr, .bool good, .int .i64 asking] 33 (0, 0)) ∧ Below w2.heap.size w2 W3 ∧ w2.heap.size < W3.heap.size) ?_ ?_
    · exact ⟨World.alloc_heap_new w2 _, (Below.refl _ w2).alloc (Nat.le_refl _) _, by simp⟩
    rintro W3 ⟨hy3, hb3, hl3⟩
    obtain ⟨x0, x1, x2, x3, x4, x5, x6, x7, x8, x9, x10, x11, x12⟩ := HX.out W3 (H2.out.bel.trans (hb3.mono H2.out.bel.size))
    have y6 := Lib.cell?_alloc_some (.cells #[] 9) x6
    clear x0 x1 x2 x3 x4 x5 x6 x7 x8 x9 x10 x11 x12
    have HY3 := Lib.hid hy3
    have HB3 := Lib.hid hb3
    have HL3 := Lib.hid hl3
    clear hy3 hb3 hl3
    go_wp2_with (at_builtin; refine wpList_texts rfl _ _ rfl W3.heap.size W3.heap.size rfl (World.ownsRow_made W3 #[] 0 (Nat.le_refl _) (Nat.zero_le _) rfl) (Nat.le_refl _) (by simp) (.slice Aa na ca) args na HNa.out rfl ?qa HSa.out (Nat.le_trans HLen.out (by omega)) ?qd)
    case qa => exact HVa.out.keep (.of_below (HB2.out.trans ((HB3.out.trans (((Below.refl _ W3).alloc (Nat.le_refl _) _).mono HB3.out.size)).mono HB2.out.size)) _)
    clear y6
    intro ga capa cura w4 hga hca hcua hb4
    have hb34 : Below W3.heap.size W3 w4 := ((Below.refl _ W3).alloc (Nat.le_refl _) _).trans hb4
    have hb4 : Below w2.heap.size w2 w4 := HB3.out.trans (hb34.mono HB3.out.size)
    have hy4 := (hb34.block _ HL3.out).trans HY3.out
    have c4 : w4.cell? ⟨w2.heap.size, 6, none⟩ = some (.slice Aa na ca) := by rw [cell_of_row _ _ _ _ _ _ hy4]; rfl
    have f4 : w4.frozen? ⟨w2.heap.size, 6, none⟩ = false := by simp [World.frozen?, hy4]
    have hga2 : w2.heap.size < ga := Nat.lt_of_lt_of_le HL3.out hga
    have HY4 := Lib.hid hy4
    have HB4 := Lib.hid hb4
    have HCA := Lib.hid hca
    have HCUA := Lib.hid hcua
    have HGA2 := Lib.hid hga2
    clear hb34 hb4 hy4 hga hca hcua hga2
    go_wp2_with (with_reducible refine halt_list 30 ?_)
    refine halt_at (fun W5 => W5.heap[w2.heap.size]? = some (.cells #[.int .i64 kind, .int .i64 number, .int .i64 slot, .int .i64 ends, .string key, .string text, .slice (some ⟨ga, 0, none⟩) na capa, .int .i64 rk, .int .i64 ri, .string rt, .slice Ar rn cr, .bool good, .int .i64 asking] 33 (0, 0)) ∧ W5.heap[ga]? = some (.cells cura 9 (0, 0)) ∧ Below w2.heap.size w2 W5) ?_ ?_
    · exact ⟨(setCell_blk HY4.out _).trans (by simp), (setCell_far _ (Nat.ne_of_gt HGA2.out)).trans HCA.out, HB4.out.setCell (Nat.le_refl _) _⟩
    rintro W5 ⟨hy5, ha5, hb5⟩
    clear c4 f4 HY4 HB4 HCA HY3 HB3 HL3
    obtain ⟨x0, x1, x2, x3, x4, x5, x6, x7, x8, x9, x10, x11, x12⟩ := HX.out W5 (H2.out.bel.trans (hb5.mono H2.out.bel.size))
    have y10 := Lib.cell?_alloc_some (.cells #[] 31) x10
    clear x0 x1 x2 x3 x4 x5 x6 x7 x8 x9 x10 x11 x12
    have HY5 := Lib.hid hy5
    have HA5 := Lib.hid ha5
    have HB5 := Lib.hid hb5
    clear hy5 ha5 hb5
    go_wp2_with (at_builtin; refine wpList_replies rfl _ _ rfl W5.heap.size W5.heap.size rfl (World.ownsRow_made W5 #[] 0 (Nat.le_refl _) (Nat.zero_le _) rfl) (Nat.le_refl _) (by simp) (.slice Ar rn cr) rn rl (fun i u => RpAt (Fro 0) w (rl i) u) (fun i u h => RpAt.one h) rfl (rowAt_of HVr.out ?ra) HSr.out (Nat.le_trans HFi.out.1 (by omega)) ?rd)
    case ra => exact HB2.out.trans ((HB5.out.trans (((Below.refl _ W5).alloc (Nat.le_refl _) _).mono HB5.out.size)).mono HB2.out.size)
    clear y10
    intro gr capr curr w6 hgr hcr hcur hb6
    have hb56 : Below W5.heap.size W5 w6 := ((Below.refl _ W5).alloc (Nat.le_refl _) _).trans hb6
    have hb6 : Below w2.heap.size w2 w6 := HB5.out.trans (hb56.mono HB5.out.size)
    have hy6 := (hb56.block _ (lt_of_heap HY5.out)).trans HY5.out
    have ha6 := (hb56.block _ (lt_of_heap HA5.out)).trans HA5.out
    have c6 : w6.cell? ⟨w2.heap.size, 10, none⟩ = some (.slice Ar rn cr) := by rw [cell_of_row _ _ _ _ _ _ hy6]; rfl
    have f6 : w6.frozen? ⟨w2.heap.size, 10, none⟩ = false := by simp [World.frozen?, hy6]
    have hgr2 : ga < gr := Nat.lt_of_lt_of_le (lt_of_heap HA5.out) hgr
    have HY6 := Lib.hid hy6
    have HB6 := Lib.hid hb6
    have HA6 := Lib.hid ha6
    have HCR := Lib.hid hcr
    have HCUR := Lib.hid hcur
    have HGR2 := Lib.hid hgr2
    clear hb56 hb6 hy6 ha6 hgr hcr hcur hgr2
    go_wp2_with (with_reducible refine halt_list 38 ?_)
    refine halt_at (fun W7 => W7.heap[w2.heap.size]? = some (.cells #[.int .i64 kind, .int .i64 number, .int .i64 slot, .int .i64 ends, .string key, .string text, .slice (some ⟨ga, 0, none⟩) na capa, .int .i64 rk, .int .i64 ri, .string rt, .slice (some ⟨gr, 0, none⟩) rn capr, .bool good, .int .i64 asking] 33 (0, 0)) ∧ W7.heap[ga]? = some (.cells cura 9 (0, 0)) ∧ W7.heap[gr]? = some (.cells curr 31 (0, 0)) ∧ Below w2.heap.size w2 W7) ?_ ?_
    · have e1 := HGA2.out
      have e2 := HGR2.out
      exact ⟨(setCell_blk HY6.out _).trans (by simp), (setCell_far _ (by omega)).trans HA6.out, (setCell_far _ (by omega)).trans HCR.out, HB6.out.setCell (Nat.le_refl _) _⟩
    rintro W7 ⟨hy7, ha7, hr7, hb7⟩
    clear c6 f6 HY6 HB6 HA6 HCR HY5 HA5 HB5
    have hbw7 : Below w.heap.size w W7 := HB2.out.trans (hb7.mono HB2.out.size)
    have hva7 : StrsAt (Fro 0) W7 (.slice (some ⟨ga, 0, none⟩) na capa) args := ⟨_, _, by rw [HNa.out], fun j s hj => ⟨ga, 0, rfl, Nat.zero_le _, by rw [Nat.zero_add, cell_of_row _ _ _ _ _ _ ha7]; exact HCUA.out j s hj⟩⟩
    have hvr7 : RpAt (Fro 0) W7 (.mk rk ri rt rn rl) (.slice (some ⟨gr, 0, none⟩) rn capr) := by
      refine ⟨_, _, rfl, fun i => ?_⟩
      obtain ⟨u, hu, hx⟩ := HCUR.out i
      refine ⟨gr, 0, u, rfl, Nat.zero_le _, ?_, ?_, ?_, ?_, hu.keep (.of_below hbw7 _)⟩ <;> rw [cell_of_row _ _ _ _ _ _ hr7, Nat.zero_add]
      · exact hx 0 _ rfl
      · exact hx 1 _ rfl
      · exact hx 2 _ rfl
      · exact hx 3 _ rfl
    have hlk7 : LkAt (fun k => W0.heap.size ≤ k ∧ k ≠ ga ∧ k ≠ gr) W7 bp b 0 [] := (H2.out.at_.narrow.below hb7).mono fun k hk => ⟨hk.1, by have := hk.2; have := HGA2.out; omega, by have := hk.2; have := HGA2.out; have := HGR2.out; omega⟩
    have HSend := Lib.hid (send_any (fun k => W0.heap.size ≤ k ∧ k ≠ ga ∧ k ≠ gr) bp b 0 [] 0 1 ⟨kind, number, slot, ends, key, text, args, .mk rk ri rt rn rl, good, asking⟩ _ _ W7 hlk7 ⟨(by decide : (Lit.int .i64 0).wf = true), (by decide : (Lit.int .i64 1).wf = true)⟩
      (fun k hk => ⟨Nat.le_trans (Nat.le_trans H2.out.bel.size hb7.size) hk, by have := lt_of_heap ha7; omega, by have := lt_of_heap hr7; omega⟩) hva7 hvr7 (Nat.le_trans HLen.out (by omega)) (HFi.out.mono (by omega)) (by omega) (by simp))
    simp only [letV, Rp.kind, Rp.int, Rp.text, List.nil_append, Nat.zero_add] at HSend
    have z0 : W7.cell? ⟨w2.heap.size, 0, none⟩ = some (.int .i64 kind) := by rw [cell_of_row _ _ _ _ _ _ hy7]; rfl
    have z1 : W7.cell? ⟨w2.heap.size, 1, none⟩ = some (.int .i64 number) := by rw [cell_of_row _ _ _ _ _ _ hy7]; rfl
    have z2 : W7.cell? ⟨w2.heap.size, 2, none⟩ = some (.int .i64 slot) := by rw [cell_of_row _ _ _ _ _ _ hy7]; rfl
    have z3 : W7.cell? ⟨w2.heap.size, 3, none⟩ = some (.int .i64 ends) := by rw [cell_of_row _ _ _ _ _ _ hy7]; rfl
    have z4 : W7.cell? ⟨w2.heap.size, 4, none⟩ = some (.string key) := by rw [cell_of_row _ _ _ _ _ _ hy7]; rfl
    have z5 : W7.cell? ⟨w2.heap.size, 5, none⟩ = some (.string text) := by rw [cell_of_row _ _ _ _ _ _ hy7]; rfl
    have z6 : W7.cell? ⟨w2.heap.size, 6, none⟩ = some (.slice (some ⟨ga, 0, none⟩) na capa) := by rw [cell_of_row _ _ _ _ _ _ hy7]; rfl
    have z7 : W7.cell? ⟨w2.heap.size, 7, none⟩ = some (.int .i64 rk) := by rw [cell_of_row _ _ _ _ _ _ hy7]; rfl
    have z8 : W7.cell? ⟨w2.heap.size, 8, none⟩ = some (.int .i64 ri) := by rw [cell_of_row _ _ _ _ _ _ hy7]; rfl
    have z9 : W7.cell? ⟨w2.heap.size, 9, none⟩ = some (.string rt) := by rw [cell_of_row _ _ _ _ _ _ hy7]; rfl
    have z10 : W7.cell? ⟨w2.heap.size, 10, none⟩ = some (.slice (some ⟨gr, 0, none⟩) rn capr) := by rw [cell_of_row _ _ _ _ _ _ hy7]; rfl
    have z11 : W7.cell? ⟨w2.heap.size, 11, none⟩ = some (.bool good) := by rw [cell_of_row _ _ _ _ _ _ hy7]; rfl
    have z12 : W7.cell? ⟨w2.heap.size, 12, none⟩ = some (.int .i64 asking) := by rw [cell_of_row _ _ _ _ _ _ hy7]; rfl
    have HY7 := Lib.hid hy7
    have HA7 := Lib.hid ha7
    have HR7 := Lib.hid hr7
    have HB7 := Lib.hid hbw7
    have HB27 := Lib.hid hb7
    have HLo := Lib.hid (show b < w2.heap.size ∧ w.heap.size < b from ⟨H2.out.at_.lt.2, Nat.lt_of_lt_of_le (lt_of_heap HX0.out) H2.out.lo⟩)
    clear hy7 ha7 hr7 hb7 hbw7 hva7 hvr7 hlk7
    go_wp2_with fail
    refine HSend.out.mono ?_
    rintro e w8 ⟨rfl, hlk8, hof8⟩
    obtain ⟨lo1, lo2⟩ := HLo.out
    have lo3 := HGA2.out
    have lo4 := HGR2.out
    have HY8 := Lib.hid ((hof8.block _ (lt_of_heap HY7.out) (by omega)).trans HY7.out)
    have HA8 := Lib.hid ((hof8.block _ (lt_of_heap HA7.out) (by omega)).trans HA7.out)
    have HR8 := Lib.hid ((hof8.block _ (lt_of_heap HR7.out) (by omega)).trans HR7.out)
    have HB8 := Lib.hid (HB7.out.trans (hof8.below (by omega) HB7.out.size))
    have HX8 := Lib.hid ((hof8.block _ (Nat.lt_of_lt_of_le (lt_of_heap HX0.out) (Nat.le_trans H2.out.bel.size HB27.out.size)) (by omega)).trans ((HB27.out.block _ (Nat.lt_of_lt_of_le (lt_of_heap HX0.out) H2.out.bel.size)).trans ((H2.out.bel.block _ (lt_of_heap HX0.out)).trans HX0.out)))
    have HK8 := Lib.hid hlk8
    clear hlk8 hof8 lo1 lo2 lo3 lo4 z0 z1 z2 z3 z4 z5 z6 z7 z8 z9 z10 z11 z12 HSend HY7 HA7 HR7 HB7
    have y6 := cell_of_row _ _ 6 _ _ _ HY8.out
    simp only [List.getElem?_toArray, List.getElem?_cons_succ, List.getElem?_cons_zero] at y6
    have hna100 : na ≤ 100 := by rw [HNa.out]; exact HLen.out
    have hrn50 : rn ≤ 50 := HFi.out.1
    go_wp2_with fail
    go_loopw [43] (fun i wr => ∃ j : Nat, j ≤ na ∧ i = .int .i64 j ∧ Off ga w8 wr ∧ ∃ cur, wr.heap[ga]? = some (.cells cur 9 (0, 0)) ∧ ∀ k s, j ≤ k → args[k]? = some s → cur[k]? = some (.string s)) (fun i _ => na - (intOf i).toNat)
    case atStart => exact ⟨0, Nat.zero_le _, rfl, Off.refl _ _, cura, HA8.out, fun k s _ hk => HCUA.out k s hk⟩
    case round =>
      clear y6
      obtain ⟨j, hj, rfl, hof, cur, hcur, hrest⟩ := hrel
      have hy := (hof.block _ (lt_of_heap HY8.out) (Nat.ne_of_lt HGA2.out)).trans HY8.out
      have y6 := cell_of_row _ _ 6 _ _ _ hy
      have y10 := cell_of_row _ _ 10 _ _ _ hy
      simp only [List.getElem?_toArray, List.getElem?_cons_succ, List.getElem?_cons_zero] at y6 y10
      by_cases hjl : j < na
      · have hdj : decide ((j : Int) < (na : Int)) = true := decide_eq_true (by omega)
        have ho : args[j]? = some args[j] := List.getElem?_eq_getElem (by rw [← HNa.out]; exact hjl)
        have hsz := HTa.out _ (List.mem_of_getElem? ho)
        have c0 : wr.cell? ⟨ga, j, none⟩ = _ := (cell_of_row _ _ j _ _ _ hcur).trans (hrest j _ (Nat.le_refl _) ho)
        have f0 : wr.frozen? ⟨ga, j, none⟩ = false := by simp [World.frozen?, hcur]
        generalize args[j] = s at ho hsz c0
        have HOf := Lib.hid hof
        have HCur := Lib.hid hcur
        have HRest := Lib.hid hrest
        clear hof hcur hrest hy ho y10
        go_wp2_with fail
        go_roundw
        case rel => exact ⟨j + 1, by omega, by go_num, HOf.out.set _ _, _, setCell_blk HCur.out _, fun k t hk ht => by rw [get_set_ne _ (by omega)]; exact HRest.out k t (by omega) ht⟩
        case measure => simp [intOf]; omega
      · have hje : j = na := by omega
        have hdj : decide ((j : Int) < (na : Int)) = false := decide_eq_false (by omega)
        have HOf := Lib.hid hof
        have hr9 := (hof.block _ (lt_of_heap HR8.out) (Nat.ne_of_gt HGR2.out)).trans HR8.out
        have HR9 := Lib.hid hr9
        clear hof hcur hrest hy hje hr9
        go_wp2_with fail
        go_loopw [58] (fun i wq => ∃ j : Nat, j ≤ rn ∧ i = .int .i64 j ∧ Off gr wr wq ∧ ∃ cur, wq.heap[gr]? = some (.cells cur 31 (0, 0)) ∧ ∀ k : Fin rn, j ≤ k.1 → cur[k.1 * 4 + 2]? = some (.string (rl k).text)) (fun i _ => rn - (intOf i).toNat)
        case atStart => exact ⟨0, Nat.zero_le _, rfl, Off.refl _ _, curr, HR9.out, fun k _ => by obtain ⟨u, _, hx⟩ := HCUR.out k; exact hx 2 _ rfl⟩
        case round =>
          clear y6 y10
          obtain ⟨j, hj, rfl, hof, cur, hcur, hrest⟩ := hrel
          have hy := (hof.block _ (Nat.lt_of_lt_of_le (lt_of_heap HY8.out) HOf.out.size) (Nat.ne_of_lt (Nat.lt_trans HGA2.out HGR2.out))).trans ((HOf.out.block _ (lt_of_heap HY8.out) (Nat.ne_of_lt HGA2.out)).trans HY8.out)
          have y10 := cell_of_row _ _ 10 _ _ _ hy
          simp only [List.getElem?_toArray, List.getElem?_cons_succ, List.getElem?_cons_zero] at y10
          by_cases hjl : j < rn
          · have hdj : decide ((j : Int) < (rn : Int)) = true := decide_eq_true (by omega)
            have hsz := HTr.out ⟨j, hjl⟩
            have c0 : wr.cell? ⟨gr, j * 4 + 2, none⟩ = _ := (cell_of_row _ _ _ _ _ _ hcur).trans (hrest ⟨j, hjl⟩ (Nat.le_refl _))
            have f0 : wr.frozen? ⟨gr, j * 4 + 2, none⟩ = false := by simp [World.frozen?, hcur]
            generalize (rl ⟨j, hjl⟩).text = s at hsz c0
            have HOf2 := Lib.hid hof
            have HCur := Lib.hid hcur
            have HRest := Lib.hid hrest
            clear hof hcur hrest hy
            go_wp2_with fail
            go_roundw
            case rel => exact ⟨j + 1, by omega, by go_num, HOf2.out.set _ _, _, setCell_blk HCur.out _, fun k hk => by rw [get_set_ne _ (by omega)]; exact HRest.out k (by omega)⟩
            case measure => simp [intOf]; omega
          · have hje : j = rn := by omega
            have hdj : decide ((j : Int) < (rn : Int)) = false := decide_eq_false (by omega)
            have hk : Kp (fun k => W0.heap.size ≤ k ∧ k ≠ ga ∧ k ≠ gr) w8 wr := ⟨Nat.le_trans HOf.out.size hof.size, fun k o hk ho _ => (hof.block k (Nat.lt_of_lt_of_le (lt_of_heap ho) HOf.out.size) hk.2.2).trans ((HOf.out.block k (lt_of_heap ho) hk.2.1).trans ho)⟩
            have lo1 := HLo.out
            have lo3 := HGA2.out
            have lo4 := HGR2.out
            have hlk := HK8.out.keep hk ((hof.block b (Nat.lt_of_lt_of_le HK8.out.lt.2 HOf.out.size) (by omega)).trans (HOf.out.block b HK8.out.lt.2 (by omega)))
            have hxq := (hof.block w.heap.size (Nat.lt_of_lt_of_le (lt_of_heap HX8.out) HOf.out.size) (by omega)).trans ((HOf.out.block w.heap.size (lt_of_heap HX8.out) (by omega)).trans HX8.out)
            have hbq : Below w.heap.size w wr := HB8.out.trans ((HOf.out.below (lo := w.heap.size) (by omega) HB8.out.size).trans (hof.below (by omega) (Nat.le_trans HB8.out.size HOf.out.size)))
            have HNext := Lib.hid (next_some (fun k => W0.heap.size ≤ k ∧ k ≠ ga ∧ k ≠ gr) bp b 1 _ 0 1 ⟨kind, number, slot, ends, key, text, args, .mk rk ri rt rn rl, good, asking⟩ [] wr hlk ⟨(by decide : (Lit.int .i64 0).wf = true), (by decide : (Lit.int .i64 1).wf = true)⟩ (by simp [queue]) (by omega) (by simp))
            have HXq := Lib.hid hxq
            have HBq := Lib.hid hbq
            have HBb := Lib.hid (show w.heap.size < b from lo1.2)
            clear hk hlk hxq hbq lo1 lo3 lo4 hof hcur hrest hy
            go_wp2_with fail
            refine HNext.out.mono ?_
            rintro e w10 ⟨va', vr', rfl, hva', hvr', hlk10, hof10⟩
            simp only [letV, Rp.kind, Rp.int, Rp.text]
            obtain ⟨Az, nz, cz, rfl⟩ : ∃ A n c, va' = .slice A n c := by obtain ⟨A, c, e, _⟩ := hva'; exact ⟨A, _, c, e⟩
            obtain ⟨Aq, cq, rfl⟩ : ∃ A c, vr' = .slice A rn c := by obtain ⟨A, c, e, _⟩ := hvr'; exact ⟨A, c, e⟩
            have hlob := HBb.out
            have hx10 := (hof10.block w.heap.size (lt_of_heap HXq.out) (by omega)).trans HXq.out
            have hb10 : Below w.heap.size w w10 := HBq.out.trans (hof10.below (by omega) HBq.out.size)
            obtain ⟨wz, hwz⟩ : ∃ wz, wz = w10.alloc (.cells #[.int .i64 kind, .int .i64 number, .int .i64 slot, .int .i64 ends, .string key, .string text, .slice Az nz cz, .int .i64 rk, .int .i64 ri, .string rt, .slice Aq rn cq, .bool good, .int .i64 asking] 33) := ⟨_, rfl⟩
            have hbz : Below w10.heap.size w10 wz := by rw [hwz]; exact (Below.refl _ _).alloc (Nat.le_refl _) _
            have hzz : wz.heap[w10.heap.size]? = some (.cells #[.int .i64 kind, .int .i64 number, .int .i64 slot, .int .i64 ends, .string key, .string text, .slice Az nz cz, .int .i64 rk, .int .i64 ri, .string rt, .slice Aq rn cq, .bool good, .int .i64 asking] 33 (0, 0)) := by rw [hwz]; exact World.alloc_heap_new w10 _
            have hxz := (hbz.block _ (lt_of_heap hx10)).trans hx10
            have HZ := Lib.hid hzz
            have HXz := Lib.hid hxz
            have HBz := Lib.hid (hb10.trans (hbz.mono hb10.size))
            have HVz := Lib.hid ((hva'.keep (.of_below hbz _)).mono (S' := Fro 0) fun k _ => Nat.zero_le _)
            have HRz := Lib.hid ((hvr'.keep (.of_below hbz _)).mono (S' := Fro 0) fun k _ => Nat.zero_le _)
            have HWz := Lib.hid hwz
            have HAz := Lib.hid (alive_any wz)
            clear hva' hvr' hlk10 hof10 hlob hx10 hb10 hwz hbz hzz hxz HNext
            go_wp2_with fail
            rw [← HWz.out]
            refine HAz.out.mono ?_
            rintro e w11 ⟨rfl, hb11⟩
            have hx := (hb11.block _ (lt_of_heap HXz.out)).trans HXz.out
            have hz := (hb11.block _ (lt_of_heap HZ.out)).trans HZ.out
            have hb : Below w.heap.size w w11 := HBz.out.trans (hb11.mono HBz.out.size)
            have HS := Lib.hid (same15_any ⟨kind, number, slot, ends, key, text, args, .mk rk ri rt rn rl, good, asking⟩ (.slice Aa na ca) (.slice Ar rn cr) (.slice Az nz cz) (.slice Aq rn cq) w11 (HVa.out.keep (.of_below hb _)) (HVr.out.keep (.of_below hb _)) (HVz.out.keep (.of_below hb11 _)) (HRz.out.keep (.of_below hb11 _)) (Nat.le_trans HLen.out (by omega)) (HFi.out.mono (by omega)))
            simp only [letV, Rp.kind, Rp.int, Rp.text] at HS
            have HB := Lib.hid hb
            have x0 : w11.cell? ⟨w.heap.size, 0, none⟩ = some (.int .i64 kind) := by rw [cell_of_row _ _ _ _ _ _ hx]; rfl
            have z0 : w11.cell? ⟨w10.heap.size, 0, none⟩ = some (.int .i64 kind) := by rw [cell_of_row _ _ _ _ _ _ hz]; rfl
            have x1 : w11.cell? ⟨w.heap.size, 1, none⟩ = some (.int .i64 number) := by rw [cell_of_row _ _ _ _ _ _ hx]; rfl
            have z1 : w11.cell? ⟨w10.heap.size, 1, none⟩ = some (.int .i64 number) := by rw [cell_of_row _ _ _ _ _ _ hz]; rfl
            have x2 : w11.cell? ⟨w.heap.size, 2, none⟩ = some (.int .i64 slot) := by rw [cell_of_row _ _ _ _ _ _ hx]; rfl
            have z2 : w11.cell? ⟨w10.heap.size, 2, none⟩ = some (.int .i64 slot) := by rw [cell_of_row _ _ _ _ _ _ hz]; rfl
            have x3 : w11.cell? ⟨w.heap.size, 3, none⟩ = some (.int .i64 ends) := by rw [cell_of_row _ _ _ _ _ _ hx]; rfl
            have z3 : w11.cell? ⟨w10.heap.size, 3, none⟩ = some (.int .i64 ends) := by rw [cell_of_row _ _ _ _ _ _ hz]; rfl
            have x4 : w11.cell? ⟨w.heap.size, 4, none⟩ = some (.string key) := by rw [cell_of_row _ _ _ _ _ _ hx]; rfl
            have z4 : w11.cell? ⟨w10.heap.size, 4, none⟩ = some (.string key) := by rw [cell_of_row _ _ _ _ _ _ hz]; rfl
            have x5 : w11.cell? ⟨w.heap.size, 5, none⟩ = some (.string text) := by rw [cell_of_row _ _ _ _ _ _ hx]; rfl
            have z5 : w11.cell? ⟨w10.heap.size, 5, none⟩ = some (.string text) := by rw [cell_of_row _ _ _ _ _ _ hz]; rfl
            have x6 : w11.cell? ⟨w.heap.size, 6, none⟩ = some (.slice Aa na ca) := by rw [cell_of_row _ _ _ _ _ _ hx]; rfl
            have z6 : w11.cell? ⟨w10.heap.size, 6, none⟩ = some (.slice Az nz cz) := by rw [cell_of_row _ _ _ _ _ _ hz]; rfl
            have x7 : w11.cell? ⟨w.heap.size, 7, none⟩ = some (.int .i64 rk) := by rw [cell_of_row _ _ _ _ _ _ hx]; rfl
            have z7 : w11.cell? ⟨w10.heap.size, 7, none⟩ = some (.int .i64 rk) := by rw [cell_of_row _ _ _ _ _ _ hz]; rfl
            have x8 : w11.cell? ⟨w.heap.size, 8, none⟩ = some (.int .i64 ri) := by rw [cell_of_row _ _ _ _ _ _ hx]; rfl
            have z8 : w11.cell? ⟨w10.heap.size, 8, none⟩ = some (.int .i64 ri) := by rw [cell_of_row _ _ _ _ _ _ hz]; rfl
            have x9 : w11.cell? ⟨w.heap.size, 9, none⟩ = some (.string rt) := by rw [cell_of_row _ _ _ _ _ _ hx]; rfl
            have z9 : w11.cell? ⟨w10.heap.size, 9, none⟩ = some (.string rt) := by rw [cell_of_row _ _ _ _ _ _ hz]; rfl
            have x10 : w11.cell? ⟨w.heap.size, 10, none⟩ = some (.slice Ar rn cr) := by rw [cell_of_row _ _ _ _ _ _ hx]; rfl
            have z10 : w11.cell? ⟨w10.heap.size, 10, none⟩ = some (.slice Aq rn cq) := by rw [cell_of_row _ _ _ _ _ _ hz]; rfl
            have x11 : w11.cell? ⟨w.heap.size, 11, none⟩ = some (.bool good) := by rw [cell_of_row _ _ _ _ _ _ hx]; rfl
            have z11 : w11.cell? ⟨w10.heap.size, 11, none⟩ = some (.bool good) := by rw [cell_of_row _ _ _ _ _ _ hz]; rfl
            have x12 : w11.cell? ⟨w.heap.size, 12, none⟩ = some (.int .i64 asking) := by rw [cell_of_row _ _ _ _ _ _ hx]; rfl
            have z12 : w11.cell? ⟨w10.heap.size, 12, none⟩ = some (.int .i64 asking) := by rw [cell_of_row _ _ _ _ _ _ hz]; rfl
            clear hx hz hb hb11 HAz
            go_wp2_with fail
            refine HS.out.mono ?_
            rintro e w12 ⟨rfl, hb12⟩
            go_wp2_with fail
            go_ret
            exact ⟨rfl, HB.out.trans (hb12.mono HB.out.size)⟩
end Go.Proofs.Ytjplobfacdcgcaa
