/-
  The dict of texts: Step, walked: a room taken over. Conditions: those that each theorem states.
-/
import Derived.Test.YtflndbgaidhbaaaDoorX6S
import Derived.Test.YtflndbgaidhbaaaDoorWLast
import Derived.Deep.AppendLies
namespace Go.Proofs.YtflndbgaidhbaaaDoor.Str
open Go.RowKit Dm Go.Proofs.YtflndbgaidhbaaaDoorW.PrintLast

structure Fit {α : Type} (T : Nat → Int) (d : D α) : Prop where
  inv : Inv (hsh T) d
  now : d.now.length ≤ 500000
  old : d.old.length ≤ 500000
  many : d.many ≤ 400000
  names : ∀ x ∈ d.cont, x.1.length ≤ 140737488351232

theorem flat_len {α : Type} {t : List (Room α)} {r : Room α} (h : r ∈ t) : r.length ≤ t.flatten.length := by
  induction t with
  | nil => simp at h
  | cons x t ih =>
    rw [List.flatten_cons, List.length_append]
    rcases List.mem_cons.1 h with rfl | h
    · omega
    · have := ih h; omega
theorem Fit.room {α : Type} {T : Nat → Int} {d : D α} (h : Fit T d) {r : Room α} (hr : r ∈ d.now ∨ r ∈ d.old) : r.length ≤ 400000 := by
  have h1 := h.inv.many
  have h2 := h.many
  unfold D.cont at h1
  rw [List.length_append] at h1
  rcases hr with hr | hr <;> have := flat_len hr <;> omega

theorem tab_fr {T : Nat → Int} {S : Nat → Prop} {w w' : World} (h : Tab T w) (hf : Fr S w w') (h0 : ¬ S 0) : Tab T w' := fun i hi => hf.cell (h i hi) h0

theorem getD_get {α : Type} {l : List α} {i : Nat} {d : α} (h : i < l.length) : l[i]? = some (l.getD i d) := by
  rw [List.getD_eq_getElem?_getD, List.getElem?_eq_getElem h]; rfl

/-- The state of the loop that takes a room over. -/
def Mid (T : Nat → Int) (L : Lo) (d : D Nm) (r0 : Room Nm) (w : World) (j : Nat) (wr : World) : Prop :=
  ∃ cn, DictAt KS wr { L with cn := cn } { d with now := Dm.take (hsh T) d.now (r0.take j) } ∧ Fr (foot L d) w wr ∧ ∀ b, foot { L with cn := cn } { d with now := Dm.take (hsh T) d.now (r0.take j) } b → foot L d b ∨ w.heap.size ≤ b


theorem flat_getD {α : Type} (t : List (Room α)) (i : Nat) : (t.getD i []).length ≤ t.flatten.length := by
  by_cases h : i < t.length
  · exact flat_len (List.mem_of_getElem? (getD_get h))
  · rw [List.getD_eq_getElem?_getD, List.getElem?_eq_none (by omega)]; simp

theorem mid_len {T : Nat → Int} {d : D Nm} {r0 : Room Nm} (hf : Fit T d) (hr : d.old[d.next]? = some r0) (j i : Nat) : ((Dm.take (hsh T) d.now (r0.take j)).getD i []).length ≤ 400000 := by
  have h0 := flat_getD (Dm.take (hsh T) d.now (r0.take j)) i
  have h1 := (flat_take (hsh T) (r0.take j) d.now hf.inv.pos).length_eq
  have h2 := hf.inv.many
  have h3 := hf.many
  have h4 := flat_len (List.mem_of_getElem? hr)
  unfold D.cont at h2
  rw [List.length_append] at h1 h2
  have h5 : (r0.take j).length ≤ r0.length := by rw [List.length_take]; omega
  omega

theorem take_next {T : Nat → Int} {now : List (Room Nm)} {r0 : Room Nm} {j : Nat} {x : Nm × Nm} (hx : r0[j]? = some x) :
    Dm.take (hsh T) now (r0.take (j + 1)) = (Dm.take (hsh T) now (r0.take j)).set (at_ (hsh T) (Dm.take (hsh T) now (r0.take j)) x.1) ((Dm.take (hsh T) now (r0.take j)).getD (at_ (hsh T) (Dm.take (hsh T) now (r0.take j)) x.1) [] ++ [x]) := by
  obtain ⟨h, rfl⟩ := List.getElem?_eq_some_iff.1 hx
  rw [List.take_succ_eq_append_getElem h]
  unfold Dm.take
  rw [List.foldl_append]
  rfl

theorem mid_next {T : Nat → Int} {L : Lo} {d : D Nm} {r0 : Room Nm} {w wr : World} {j : Nat} {cn : Array Value} {l : Nm} {v : Nm} (hf : Fit T d) (hx : r0[j]? = some (l, v))
    (hD1 : DictAt KS wr { L with cn := cn } { d with now := Dm.take (hsh T) d.now (r0.take j) }) (hFr : Fr (foot L d) w wr) (hft : ∀ b, foot { L with cn := cn } { d with now := Dm.take (hsh T) d.now (r0.take j) } b → foot L d b ∨ w.heap.size ≤ b) :
    ∀ (Wa w5 : World) (u u' : Value), Below wr.heap.size wr Wa → cn[at_ (hsh T) (Dm.take (hsh T) d.now (r0.take j)) l]? = some u → Wa.grownBy w5 (rb u) →
      RoomAt 63 2 KS.enc w5 u' ((Dm.take (hsh T) d.now (r0.take j)).getD (at_ (hsh T) (Dm.take (hsh T) d.now (r0.take j)) l) [] ++ [(l, v)]) → (∀ b, rb u' = some b → rb u = some b ∨ Wa.heap.size ≤ b) →
      Mid T L d r0 w (j + 1) (w5.setCell ⟨L.gn, at_ (hsh T) (Dm.take (hsh T) d.now (r0.take j)) l, none⟩ u') := by
  intro Wa w5 u u' hb hu hg hr' hn
  have hDa := hD1.below hb
  have hpos : 0 < (Dm.take (hsh T) d.now (r0.take j)).length := by rw [take_length]; exact hf.inv.pos
  have hi : at_ (hsh T) (Dm.take (hsh T) d.now (r0.take j)) l < (Dm.take (hsh T) d.now (r0.take j)).length := Nat.mod_lt _ hpos
  have hfr : Fr (fun k => rb u = some k) Wa w5 := Fr.of_grown hg
  obtain ⟨h1, h2, h3⟩ := now_set (K := KS) hDa (getD_get (d := ([] : Room Nm)) hi) hu hfr hr' hn
  unfold Mid
  rw [take_next hx]
  refine ⟨_, h1, ?_, ?_⟩
  · exact (hFr.trans (Fr.of_below hb _) hft).trans h2 (fun b hb' => (hft b hb').imp id (fun h => h))
  · intro b hb'
    rcases h3 b hb' with h4 | h4
    · exact hft b h4
    · exact .inr (Nat.le_trans hFr.size (Nat.le_trans hb.size h4))

set_option maxHeartbeats 3200000 in
set_option maxRecDepth 100000 in
theorem step_any (L : Lo) (d : D Nm) (T : Nat → Int) (w : World) (hd : DictAt KS w L d) (hT : Tab T w) (hfit : Fit T d) (h0 : ¬ foot L d 0) :
    Calls Tryd.prog 26 #[.pointer (some ⟨L.bp, 0, none⟩)] w fun e w' => e = .returned (.bool (decide (d.old ≠ []))) ∧ After KS w L d (Dm.step (hsh T) d) w' := by
  by_cases ho : d.old = []
  · have hst : Dm.step (hsh T) d = d := by unfold Dm.step; rw [if_pos ho]
    have hc1 := hd.cells.2.1
    have e1 : oldV L d = .slice none 0 0 := by unfold oldV; rw [if_pos ho]
    rw [e1] at hc1
    have HF := Lib.hid (After.refl hd (Below.refl _ w))
    have HO := Lib.hid ho
    have HS := Lib.hid hst
    clear hd hT hfit h0 e1 ho hst
    go_enter Tryd.func26, Tryd.ntmps26
    go_wp2
    go_ret
    exact ⟨by rw [HO.out]; rfl, by rw [HS.out]; exact HF.out⟩
  · have hlt := hfit.inv.lt ho
    have hc1 := hd.cells.2.1
    have hc2 := hd.cells.2.2.1
    have e1 : oldV L d = .slice (some ⟨L.go, 0, none⟩) d.old.length L.co.size := by unfold oldV; rw [if_neg ho]
    rw [e1] at hc1
    have hr0 := getD_get (d := []) hlt
    obtain ⟨u, hu, hru, hcu, hfu⟩ := (hd.old ho).room hr0
    have hrl := hfit.room (.inr (List.mem_of_getElem? hr0))
    have hol := hfit.old
    have HD := Lib.hid hd
    have HT := Lib.hid hT
    have HF := Lib.hid hfit
    have H0 := Lib.hid h0
    have HO := Lib.hid ho
    have HU := Lib.hid hu
    have HR0 := Lib.hid hr0
    obtain ⟨r0, hr00⟩ : ∃ r, r = d.old.getD d.next [] := ⟨_, rfl⟩
    have HG0 := Lib.hid hr00
    have hn0 : (0 : Int) ≤ (d.next : Int) := by omega
    have hn1 : (d.next : Int) < (d.old.length : Int) := by omega
    have hlen : ((d.old.length : Int) == 0) = false := by rw [beq_eq_false_iff_ne]; omega
    have hlen2 : (d.old.length == 0) = false := by rw [beq_eq_false_iff_ne]; omega
    obtain ⟨A, c, rfl, hrc, _⟩ := hru.shape
    clear hd hT hfit h0 e1 ho hu hru hfu hr0
    rw [← HG0.out] at hrl hrc HR0 hcu HU
    clear hr00
    go_enter Tryd.func26, Tryd.ntmps26
    go_wp2
    go_quiet (fail)
    go_wp2_with fail
    go_loopw [23] (fun i wr => ∃ (j : Nat), j ≤ r0.length ∧ i = .int .i64 j ∧ Mid T L d r0 w j wr) (fun i _ => r0.length - (intOf i).toNat)
    case atStart =>
      refine ⟨0, Nat.zero_le _, rfl, L.cn, ?_, (Fr.refl _ w).drewN _, fun b hb => .inl hb⟩
      exact HD.out.drewN _
    case round =>
      obtain ⟨j, hj, rfl, hM⟩ := hrel
      by_cases hjl : j < r0.length
      · skip
        have hM' := hM
        unfold Mid at hM'
        obtain ⟨cn, hD1, hFr1, hft1⟩ := hM'
        clear hM
        have hNl : (Dm.take (hsh T) d.now (r0.take j)).length = d.now.length := take_length _ _ _
        obtain ⟨u', hu', hru', hcg, hfg⟩ := (hD1.old HO.out).room HR0.out
        obtain rfl : u' = .slice A r0.length c := by have := HU.out; rw [this] at hu'; exact (Option.some.inj hu').symm
        have hxj : r0[j]? = some r0[j] := List.getElem?_eq_getElem hjl
        obtain ⟨g0, cap0, he0, hrb0, hit0⟩ := hru'.item KS.hs hxj
        injection he0 with he0 he1 he2
        subst he0
        clear he1 he2
        have c0 : wr.cell? ⟨g0, j * 2, none⟩ = some (encStr r0[j].1) := (hit0 0 _ rfl).1
        have c1 : wr.cell? ⟨g0, j * 2 + 1, none⟩ = some (.string ⟨r0[j].2.toArray⟩) := (hit0 1 _ rfl).1
        have hxm : r0[j] ∈ d.cont := List.mem_append_right _ (List.mem_flatten.2 ⟨r0, List.mem_of_getElem? HR0.out, List.getElem_mem hjl⟩)
        have hnm := HF.out.names _ hxm
        have hpos := HF.out.inv.pos
        generalize hxe : r0[j] = x at c0 c1 hxm hnm
        have HXE := Lib.hid hxe
        clear hxe hit0 hxm hrb0 hu'
        obtain ⟨l, v⟩ := x
        simp only [encStr] at c0
        simp only at hnm
        have hc10 := hD1.cells.1
        have hbp1 := lt_of_heap hD1.blk
        have hgn1 := lt_of_heap hD1.now.1
        simp only at hc10 hbp1 hgn1
        rw [hNl] at hc10
        have hi : at_ (hsh T) (Dm.take (hsh T) d.now (r0.take j)) l < d.now.length := by rw [← hNl]; exact Nat.mod_lt _ (by rw [hNl]; exact hpos)
        have hrm := getD_get (d := ([] : Room Nm)) (show at_ (hsh T) (Dm.take (hsh T) d.now (r0.take j)) l < (Dm.take (hsh T) d.now (r0.take j)).length by rw [hNl]; exact hi)
        obtain ⟨u, hu, hru, hcu, hfu⟩ := hD1.now.room hrm
        have hrl1 : ((Dm.take (hsh T) d.now (r0.take j)).getD (at_ (hsh T) (Dm.take (hsh T) d.now (r0.take j)) l) []).length ≤ 400000 := mid_len HF.out HR0.out j _
        have hroom := Lib.hid (room_nat ⟨l.toArray⟩ d.now.length T)
        have hat : hsh T (⟨l.toArray⟩ : ByteArray).data.toList % d.now.length = at_ (hsh T) (Dm.take (hsh T) d.now (r0.take j)) l := by unfold at_; rw [hNl]
        rw [hat] at hroom
        have hmx : (⟨l.toArray⟩ : ByteArray).size ≤ 140737488351232 := by simpa [ByteArray.size] using hnm
        have hnext := Lib.hid (mid_next HF.out (hxj.trans (congrArg some HXE.out)) (L := L) (w := w) hD1 hFr1 hft1)
        have HT1 := Lib.hid (tab_fr HT.out hFr1 H0.out)
        have HUB := Lib.hid (fun b (hb : rb u = some b) => show b ≠ L.bp ∧ b ≠ L.gn ∧ b < wr.heap.size from ⟨(hD1.in_ne (.inl ⟨_, u, by rw [hNl]; exact hi, hu, hb⟩)).1, (hD1.in_ne (.inl ⟨_, u, by rw [hNl]; exact hi, hu, hb⟩)).2.1, (hru.lt hb).1⟩)
        clear hD1 hFr1 hft1 hru' hcg hfg hat hNl
        generalize at_ (hsh T) (Dm.take (hsh T) d.now (r0.take j)) l = i at hi hrm hcu hfu hroom hu hrl1 hnext hru
        generalize (Dm.take (hsh T) d.now (r0.take j)).getD i [] = r at hrm hru hrl1 hnext
        have HRu := Lib.hid hru
        have HCu := Lib.hid hu
        have hi0 : (0 : Int) ≤ (i : Int) := by omega
        have hi1 : (i : Int) < (d.now.length : Int) := by omega
        clear hrm hru hu
        go_wp2_with fail
        have hb0 : Below wr.heap.size wr (wr.alloc (.cells #[.string ⟨l.toArray⟩, .string ⟨v.toArray⟩] 63)) := (Below.refl _ _).alloc (Nat.le_refl _) _
        have hx0 : (wr.alloc (.cells #[.string ⟨l.toArray⟩, .string ⟨v.toArray⟩] 63)).heap[wr.heap.size]? = some (.cells #[.string ⟨l.toArray⟩, .string ⟨v.toArray⟩] 63 (0, 0)) := heap_alloc_new wr _
        have hz0 : wr.heap.size < (wr.alloc (.cells #[.string ⟨l.toArray⟩, .string ⟨v.toArray⟩] 63)).heap.size := by simp
        generalize wr.alloc (.cells #[.string ⟨l.toArray⟩, .string ⟨v.toArray⟩] 63) = W at hb0 hx0 hz0 ⊢
        have hxc0 : W.cell? ⟨wr.heap.size, 0, none⟩ = some (.string ⟨l.toArray⟩) := by rw [cell_of_row W _ 0 _ _ (0, 0) hx0]; rfl
        have hd0 := (hb0.cell (p := ⟨L.bp, 0, none⟩) hbp1).trans hc10
        have HTW := Lib.hid (tab_below HT1.out hb0)
        have HB0 := Lib.hid hb0
        have HX0 := Lib.hid hx0
        have hzb : L.bp < W.heap.size := by omega
        have HC10 := Lib.hid hc10
        have HCUU := Lib.hid hcu
        clear hc10 c0 c1 hx0 hcu
        go_region_held3 (fun w' => w'.cell? ⟨wr.heap.size, 0, none⟩ = some (.string ⟨l.toArray⟩) ∧ w'.cell? ⟨L.bp, 0, none⟩ = some (.slice (some ⟨L.gn, 0, none⟩) d.now.length cn.size))
          (first | go_keep | (go_split_ands; exact ⟨(hb1.cell (p := ⟨wr.heap.size, 0, none⟩) hz0).trans hxc0, (hb1.cell (p := ⟨L.bp, 0, none⟩) hzb).trans hd0⟩))
          (first | (go_at_call 28; refine (hroom.out _ (by omega) hmx ?_).mono ?_; (exact HTW.out); rintro e W1 ⟨rfl, hb1⟩))
        have hb1' : Below W.heap.size W W1 := below_undrew hb1
        have HB1 := Lib.hid (HB0.out.trans (hb1'.mono (by omega)))
        have HX1 := Lib.hid ((hb1'.block wr.heap.size hz0).trans HX0.out)
        have hz1 : wr.heap.size < W1.heap.size := by have := hb1'.size; omega
        clear hb1 hb1' hxc0 hd0 HTW hb0 HX0 hzb
        go_wp2_with fail
        obtain ⟨i0, hi0_, hz0_, hz1_, hz2_⟩ := info_parts info63
        obtain ⟨Wd, hWd⟩ : ∃ Wd, Wd = W1.drew := ⟨_, rfl⟩
        have hBd : Below wr.heap.size wr Wd := by rw [hWd]; exact HB1.out.drew
        have hXd : Wd.heap[wr.heap.size]? = some (.cells #[.string ⟨l.toArray⟩, .string ⟨v.toArray⟩] 63 (0, 0)) := by rw [hWd]; exact HX1.out
        have hzd : wr.heap.size < Wd.heap.size := by rw [hWd]; exact hz1
        have s0 : Wd.cell? ⟨L.bp, 0, none⟩ = some (.slice (some ⟨L.gn, 0, none⟩) d.now.length cn.size) := (hBd.cell (p := ⟨L.bp, 0, none⟩) hbp1).trans HC10.out
        have s1 : Wd.cell? ⟨L.gn, i, none⟩ = some u := (hBd.cell (p := ⟨L.gn, i, none⟩) hgn1).trans HCUU.out
        have s2 : Wd.cell? ⟨wr.heap.size, 0, none⟩ = some (.string ⟨l.toArray⟩) := by rw [cell_of_row Wd _ 0 _ _ (0, 0) hXd]; rfl
        have s3 : Wd.cell? ⟨wr.heap.size, 1, none⟩ = some (.string ⟨v.toArray⟩) := by rw [cell_of_row Wd _ 1 _ _ (0, 0) hXd]; rfl
        have hRd : RoomAt 63 2 KS.enc Wd u r := HRu.out.kept fun b hb => hBd.block b (HUB.out b hb).2.2
        have HS0 := Lib.hid (show _ ∧ _ ∧ _ ∧ _ from ⟨s0, s1, s2, s3⟩)
        have HS1 := Lib.hid (fun (o : Obj) => show _ ∧ _ ∧ _ ∧ _ from ⟨(World.cell?_alloc_lt Wd o ⟨L.bp, 0, none⟩ (by show L.bp < _; omega)).trans s0, (World.cell?_alloc_lt Wd o ⟨L.gn, i, none⟩ (by show L.gn < _; omega)).trans s1, (World.cell?_alloc_lt Wd o ⟨wr.heap.size, 0, none⟩ hzd).trans s2, (World.cell?_alloc_lt Wd o ⟨wr.heap.size, 1, none⟩ hzd).trans s3⟩)
        have HRW := Lib.hid (fun (o : Obj) => hRd.kept (w' := Wd.alloc o) fun b hb => Below.heap_alloc Wd o b (hRd.lt hb).1)
        have HNews := Lib.hid (World.news_of_block (heap_alloc_new Wd (.cells #[.string ⟨l.toArray⟩, .string ⟨v.toArray⟩] 63)))
        have HS2 := Lib.hid (fun (w5 : World) (o : Obj) (hg : (Wd.alloc o).grownBy w5 (rb u)) => show _ ∧ _ ∧ _ ∧ _ from
          ⟨hg.cell (a := ⟨L.bp, 0, none⟩) (HS1.out o).1 (fun e => (HUB.out _ e.symm).1 rfl), hg.cell (a := ⟨L.gn, i, none⟩) (HS1.out o).2.1 (fun e => (HUB.out _ e.symm).2.1 rfl),
           hg.cell (a := ⟨wr.heap.size, 0, none⟩) (HS1.out o).2.2.1 (fun e => by have := (HUB.out _ e.symm).2.2; simp at this), hg.cell (a := ⟨wr.heap.size, 1, none⟩) (HS1.out o).2.2.2 (fun e => by have := (HUB.out _ e.symm).2.2; simp at this)⟩)
        have HFz := Lib.hid (fun (w5 : World) (o : Obj) (hg : (Wd.alloc o).grownBy w5 (rb u)) => show w5.frozen? ⟨L.gn, i, none⟩ = false from
          (hg.frozen_far ⟨L.gn, i, none⟩ (by simp; omega) (fun e => (HUB.out _ e.symm).2.1 rfl)).trans ((World.frozen?_of_block (w := Wd) (Below.heap_alloc Wd o L.gn (by omega))).trans ((hBd.frozen (p := ⟨L.gn, i, none⟩) hgn1).trans hfu)))
        have HWd := Lib.hid hWd
        have HBd := Lib.hid hBd
        clear hWd hBd hXd s0 s1 s2 s3 hRd
        obtain ⟨Au, cu, rfl, _, _⟩ := HRu.out.shape
        refine start_ (n := 17) (S := fun w' => w'.cell? ⟨L.bp, 0, none⟩ = some (.slice (some ⟨L.gn, 0, none⟩) d.now.length cn.size) ∧ w'.cell? ⟨L.gn, i, none⟩ = some (.slice Au r.length cu) ∧ w'.cell? ⟨wr.heap.size, 0, none⟩ = some (.string ⟨l.toArray⟩) ∧ w'.cell? ⟨wr.heap.size, 1, none⟩ = some (.string ⟨v.toArray⟩)) (ds := [16]) #[false, false, false, false, false, false, false, false, false, false, false, false, false, false, false, false, false] (by kernel_rfl) rfl rfl (by rw [← HWd.out]; exact HS0.out) (fun hHeld => ?_)
        rw [← HWd.out] at hHeld ⊢
        refine pure_ (i := 0) (N := some 35) (v := ?_) (a' := ?_) #[true, false, false, false, false, false, false, false, false, false, false, false, false, false, false, false, false] rfl rfl (by kernel_rfl) (fun _ _ _ h => h) (Or.inl ⟨by rfl, ?_⟩) ?_ ?_
        rotate_left
        · intro w'
          go_simp
          with_reducible rfl
        rotate_left
        · simp only [Act.put, List.setIfInBounds_toArray, List.set_cons_zero, List.set_cons_succ, i64_w, i32_w]
          rfl
        refine pure_ (i := 1) (N := some 36) (v := ?_) (a' := ?_) #[true, true, false, false, false, false, false, false, false, false, false, false, false, false, false, false, false] rfl rfl (by kernel_rfl) (fun _ _ _ h => h) (Or.inl ⟨by rfl, ?_⟩) ?_ ?_
        rotate_left
        · intro w'
          go_simp
          with_reducible rfl
        rotate_left
        · simp only [Act.put, List.setIfInBounds_toArray, List.set_cons_zero, List.set_cons_succ, i64_w, i32_w]
          rfl
        refine pure_ (i := 2) (N := some 37) (v := ?_) (a' := ?_) #[true, true, true, false, false, false, false, false, false, false, false, false, false, false, false, false, false] rfl rfl (by kernel_rfl) (fun _ _ _ h => h) (Or.inl ⟨by rfl, ?_⟩) ?_ ?_
        rotate_left
        · intro w'
          go_simp
          with_reducible rfl
        rotate_left
        · simp only [Act.put, List.setIfInBounds_toArray, List.set_cons_zero, List.set_cons_succ, i64_w, i32_w]
          rfl
        refine take_ (i := 3) (N := some 38) (v := ?_) (a' := ?_) #[true, true, true, true, false, false, false, false, false, false, false, false, false, false, false, false, false] rfl rfl (by kernel_rfl) (fun _ _ _ h => h) (Or.inl ⟨by rfl, ?_⟩) hHeld ?_ ?_
        rotate_left
        · rintro w' ⟨s0, s1, s2, s3⟩
          go_simp
          with_reducible rfl
        rotate_left
        · simp only [Act.put, List.setIfInBounds_toArray, List.set_cons_zero, List.set_cons_succ, i64_w, i32_w]
          rfl
        refine pure_ (i := 4) (N := some 39) (v := ?_) (a' := ?_) #[true, true, true, true, true, false, false, false, false, false, false, false, false, false, false, false, false] rfl rfl (by kernel_rfl) (fun _ _ _ h => h) (Or.inl ⟨by rfl, ?_⟩) ?_ ?_
        rotate_left
        · intro w'
          go_simp
          with_reducible rfl
        rotate_left
        · simp only [Act.put, List.setIfInBounds_toArray, List.set_cons_zero, List.set_cons_succ, i64_w, i32_w]
          rfl
        refine pure_ (i := 5) (N := some 40) (v := ?_) (a' := ?_) #[true, true, true, true, true, true, false, false, false, false, false, false, false, false, false, false, false] rfl rfl (by kernel_rfl) (fun _ _ _ h => h) (Or.inl ⟨by rfl, ?_⟩) ?_ ?_
        rotate_left
        · intro w'
          go_simp
          with_reducible rfl
        rotate_left
        · simp only [Act.put, List.setIfInBounds_toArray, List.set_cons_zero, List.set_cons_succ, i64_w, i32_w]
          rfl
        refine pure_ (i := 6) (N := some 41) (v := ?_) (a' := ?_) #[true, true, true, true, true, true, true, false, false, false, false, false, false, false, false, false, false] rfl rfl (by kernel_rfl) (fun _ _ _ h => h) (Or.inl ⟨by rfl, ?_⟩) ?_ ?_
        rotate_left
        · intro w'
          go_simp
          with_reducible rfl
        rotate_left
        · simp only [Act.put, List.setIfInBounds_toArray, List.set_cons_zero, List.set_cons_succ, i64_w, i32_w]
          rfl
        refine pure_ (i := 7) (N := some 42) (v := ?_) (a' := ?_) #[true, true, true, true, true, true, true, true, false, false, false, false, false, false, false, false, false] rfl rfl (by kernel_rfl) (fun _ _ _ h => h) (Or.inl ⟨by rfl, ?_⟩) ?_ ?_
        rotate_left
        · intro w'
          go_simp
          with_reducible rfl
        rotate_left
        · simp only [Act.put, List.setIfInBounds_toArray, List.set_cons_zero, List.set_cons_succ, i64_w, i32_w]
          rfl
        refine take_ (i := 8) (N := some 43) (v := ?_) (a' := ?_) #[true, true, true, true, true, true, true, true, true, false, false, false, false, false, false, false, false] rfl rfl (by kernel_rfl) (fun _ _ _ h => h) (Or.inl ⟨by rfl, ?_⟩) hHeld ?_ ?_
        rotate_left
        · rintro w' ⟨s0, s1, s2, s3⟩
          go_simp
          with_reducible rfl
        rotate_left
        · simp only [Act.put, List.setIfInBounds_toArray, List.set_cons_zero, List.set_cons_succ, i64_w, i32_w]
          rfl
        refine pure_ (i := 9) (N := some 44) (v := ?_) (a' := ?_) #[true, true, true, true, true, true, true, true, true, true, false, false, false, false, false, false, false] rfl rfl (by kernel_rfl) (fun _ _ _ h => h) (Or.inl ⟨by rfl, ?_⟩) ?_ ?_
        rotate_left
        · intro w'
          go_simp
          with_reducible rfl
        rotate_left
        · simp only [Act.put, List.setIfInBounds_toArray, List.set_cons_zero, List.set_cons_succ, i64_w, i32_w]
          rfl
        refine pure_ (i := 10) (N := some 45) (v := ?_) (a' := ?_) #[true, true, true, true, true, true, true, true, true, true, true, false, false, false, false, false, false] rfl rfl (by kernel_rfl) (fun _ _ _ h => h) (Or.inl ⟨by rfl, ?_⟩) ?_ ?_
        rotate_left
        · intro w'
          go_simp
          with_reducible rfl
        rotate_left
        · simp only [Act.put, List.setIfInBounds_toArray, List.set_cons_zero, List.set_cons_succ, i64_w, i32_w]
          rfl
        refine take_ (i := 11) (N := some 46) (v := ?_) (a' := ?_) #[true, true, true, true, true, true, true, true, true, true, true, true, false, false, false, false, false] rfl rfl (by kernel_rfl) (fun _ _ _ h => h) (Or.inl ⟨by rfl, ?_⟩) hHeld ?_ ?_
        rotate_left
        · rintro w' ⟨s0, s1, s2, s3⟩
          go_simp
          with_reducible rfl
        rotate_left
        · simp only [Act.put, List.setIfInBounds_toArray, List.set_cons_zero, List.set_cons_succ, i64_w, i32_w]
          rfl
        refine take_ (i := 12) (N := some 47) (v := ?_) (a' := ?_) #[true, true, true, true, true, true, true, true, true, true, true, true, true, false, false, false, false] rfl rfl (by kernel_rfl) (fun _ _ _ h => h) (Or.inl ⟨by rfl, ?_⟩) hHeld ?_ ?_
        rotate_left
        · rintro w' ⟨s0, s1, s2, s3⟩
          go_simp
          with_reducible rfl
        rotate_left
        · simp only [Act.put, List.setIfInBounds_toArray, List.set_cons_zero, List.set_cons_succ, i64_w, i32_w]
          rfl
        refine one_ (i := 13) (N := some 48) #[true, true, true, true, true, true, true, true, true, true, true, true, true, true, false, false, false] rfl rfl (by kernel_rfl) (by decide) (fun K hK => ?_)
        refine value_ (v := .slice (some ⟨Wd.heap.size, 0, none⟩) 1 1) (w1 := Wd.alloc (.cells #[.string ⟨l.toArray⟩, .string ⟨v.toArray⟩] 63)) (by rfl) rfl (by go_simp) ?_
        refine hK.out _ _ (HS1.out _) (fun hHeld => ?_)
        clear hK K
        refine norm_ (a' := ?_) ?_ ?_
        rotate_left
        · simp only [Act.put, List.setIfInBounds_toArray, List.set_cons_zero, List.set_cons_succ, i64_w, i32_w]
          rfl
        refine one_ (i := 14) (N := some 49) #[true, true, true, true, true, true, true, true, true, true, true, true, true, true, true, false, false] rfl rfl (by kernel_rfl) (by decide) (fun K hK => ?_)
        rw [if_pos (by rfl)]
        refine wp_append_room_ KS.hs KS.h1 _ _ 64 rfl _ i0 _ 32 Tryd.underlying64 hi0_ hz0_ hz1_ hz2_ rfl _ r (by rfl) (HRW.out _) (l, v) ⟨Wd.heap.size, 0, none⟩ 1 (by rfl) (HNews.out) (by omega) (by unfold maxLen; omega) ?_
        intro g2 cap2 w5 hr5 hg5 hat5
        have hf5 := HFz.out _ _ hg5
        refine hK.out _ _ (HS2.out _ _ hg5) (fun hHeld => ?_)
        clear hK K
        refine norm_ (a' := ?_) ?_ ?_
        rotate_left
        · simp only [Act.put, List.setIfInBounds_toArray, List.set_cons_zero, List.set_cons_succ, i64_w, i32_w]
          rfl
        refine pure_ (i := 15) (N := some 50) (v := ?_) (a' := ?_) #[true, true, true, true, true, true, true, true, true, true, true, true, true, true, true, true, false] rfl rfl (by kernel_rfl) (fun _ _ _ h => h) (Or.inl ⟨by rfl, ?_⟩) ?_ ?_
        rotate_left
        · intro w'
          go_simp
          with_reducible rfl
        rotate_left
        · simp only [Act.put, List.setIfInBounds_toArray, List.set_cons_zero, List.set_cons_succ, i64_w, i32_w]
          rfl
        refine last_ (i := 16) (N := none) #[true, true, true, true, true, true, true, true, true, true, true, true, true, true, true, true, true] rfl rfl (by kernel_rfl) (by decide) (fun K hK => ?_)
        refine skip_ (w1 := ?_) (by rfl) rfl ?_ ?_
        rotate_left
        · go_simp
          rfl
        refine hK.out _ _ ?_
        clear hK K
        refine done_ (by kernel_rfl) ?_
        have HM5 := Lib.hid (hnext.out _ w5 _ _ (HBd.out.alloc (by omega) _) HCu.out hg5 hr5 (by
          intro b hb
          obtain rfl : g2 = b := by simpa [rb] using hb
          rcases hat5 with h | h
          · exact .inl h
          · exact .inr (Nat.le_of_eq h.symm)))
        clear hr5 hg5 hat5 hf5 hHeld
        go_wp2_with fail
        go_roundw
        case rel => exact ⟨j + 1, by omega, by go_num, HM5.out⟩
        case measure => simp [intOf]; omega
      · have hje : j = r0.length := by omega
        unfold Mid at hM
        rw [hje, List.take_of_length_le (Nat.le_refl _)] at hM
        obtain ⟨cn, hD1, hFr1, hft1⟩ := hM
        have hc11 := hD1.cells.2.1
        have hc12 := hD1.cells.2.2.1
        have e2 : oldV { L with cn := cn } { d with now := Dm.take (hsh T) d.now r0 } = .slice (some ⟨L.go, 0, none⟩) d.old.length L.co.size := by unfold oldV; rw [if_neg HO.out]
        rw [e2] at hc11
        obtain ⟨_, _, _, hcg, hfg⟩ := (hD1.old HO.out).room HR0.out
        simp only at hc11 hc12 hcg hfg
        have HD1 := Lib.hid hD1
        have HF1 := Lib.hid hFr1
        have HT1 := Lib.hid hft1
        clear hje hD1 hFr1 hft1 e2
        go_wp2_with fail
        go_region
        obtain ⟨hD2', hF2', hft2⟩ := old_set HD1.out HR0.out HU.out (Fr.refl _ wr) (room_nil wr) (by intro b hb; simp [rb] at hb)
        obtain ⟨W2, hW2⟩ : ∃ W2, W2 = (wr.setCell ⟨L.go, d.next, none⟩ (.slice none 0 0)).drew := ⟨_, rfl⟩
        rw [← hW2]
        have hD2 := hD2'.kept (w' := W2) (fun b _ => by rw [hW2]; rfl)
        have hF2 : Fr (foot { L with cn := cn } { d with now := Dm.take (hsh T) d.now r0 }) wr W2 := by rw [hW2]; exact hF2'.drew
        clear hD2' hF2' hW2
        have hc21 := hD2.cells.2.1
        have hc22 := hD2.cells.2.2.1
        have hfr2 := hD2.free
        have hne2 : d.old.set d.next [] ≠ [] := by intro e; exact HO.out (by rw [← List.length_eq_zero_iff] at e ⊢; rw [List.length_set] at e; exact e)
        have e3 : oldV { L with cn := cn, co := L.co.setIfInBounds d.next (.slice none 0 0) } { d with now := Dm.take (hsh T) d.now r0, old := d.old.set d.next [] } = .slice (some ⟨L.go, 0, none⟩) d.old.length L.co.size := by
          unfold oldV; rw [if_neg hne2]; simp
        rw [e3] at hc21
        simp only at hc21 hc22 hfr2
        have HD2 := Lib.hid hD2
        have HFr2 := Lib.hid (HF1.out.trans hF2 HT1.out)
        have HT2 := Lib.hid (fun b hb => show foot L d b ∨ w.heap.size ≤ b from by
          rcases hft2 b hb with h | h
          · exact HT1.out b h
          · exact .inr (Nat.le_trans HF1.out.size h))
        have E3 := Lib.hid e3
        have HN2 := Lib.hid hne2
        clear hD2 hF2 hft2 hne2 e3 HF1 HT1 HD1 hc11 hc12 hcg hfg HR0 HU
        go_wp2_with fail
        obtain ⟨W3, hW3⟩ : ∃ W3, W3 = W2.setCell ⟨L.bp, 2, none⟩ (.int .i64 ((d.next : Int) + 1)) := ⟨_, rfl⟩
        rw [← hW3]
        have hb3 : W3.heap[L.bp]? = some (.cells #[.slice (some ⟨L.gn, 0, none⟩) (Dm.take (hsh T) d.now r0).length cn.size, .slice (some ⟨L.go, 0, none⟩) d.old.length L.co.size, .int .i64 ((d.next + 1 : Nat) : Int), .int .i64 d.many] 55 (0, 0)) := by
          rw [hW3]
          have := setCell_blk (i := 2) HD2.out.blk (.int .i64 ((d.next : Int) + 1))
          rw [E3.out] at this
          exact this
        have hF3 : Fr (fun k => k = L.bp) W2 W3 := by rw [hW3]; exact fr_own _
        have hD3 := own_at HD2.out d.many (d.next + 1) (w1 := W3) (by rw [E3.out]; exact hb3) hF3
        have HA3 := Lib.hid (HFr2.out.trans hF3 (fun i e => HT2.out i (.inl e)))
        clear hW3 hF3
        have hc31 := hD3.cells.2.1
        have hc32 := hD3.cells.2.2.1
        have hfr3 := hD3.free
        have e4 : oldV { L with cn := cn, co := L.co.setIfInBounds d.next (.slice none 0 0) } { d with now := Dm.take (hsh T) d.now r0, old := d.old.set d.next [], next := d.next + 1 } = .slice (some ⟨L.go, 0, none⟩) d.old.length L.co.size := E3.out
        rw [show oldV { L with cn := cn, co := L.co.setIfInBounds d.next (.slice none 0 0) } { d with now := Dm.take (hsh T) d.now r0, old := d.old.set d.next [], next := d.next + 1, many := d.many } = .slice (some ⟨L.go, 0, none⟩) d.old.length L.co.size from e4] at hc31
        simp only at hc31 hc32 hfr3
        have HD3 := Lib.hid hD3
        have HB3 := Lib.hid hb3
        clear e4 hD3 hb3 hc21 hc22 hfr2 HD2 HFr2 E3
        by_cases hlast : d.next + 1 = d.old.length
        · have t1 : (((d.next : Int) + 1) == (d.old.length : Int)) = true := by rw [beq_iff_eq]; omega
          have hst : Dm.step (hsh T) d = { d with now := Dm.take (hsh T) d.now r0, old := [], next := 0 } := by unfold Dm.step; rw [if_neg HO.out, if_pos hlast, HG0.out]
          have HST := Lib.hid hst
          clear hst
          have hc32' : W3.cell? ⟨L.bp, 2, none⟩ = some (.int .i64 ((d.next : Int) + 1)) := hc32
          clear hc32 hlast
          go_quiet (fail)
          go_wp2
          go_ret
          refine ⟨by rw [decide_eq_false HO.out]; rfl, ?_⟩
          rw [HST.out]
          obtain ⟨h1, h2⟩ := own_drop (w1 := ((W3.drewN nq).setCell ⟨L.bp, 1, none⟩ (.slice none 0 0)).setCell ⟨L.bp, 2, none⟩ (.int .i64 0)) (HD3.out.drewN nq) d.many 0 (setCell_blk (setCell_blk (w := W3.drewN nq) HB3.out _) _)
            ((fr_own _).trans (fr_own _) (fun _ e => .inl e))
          exact ⟨{ L with cn := cn, co := L.co.setIfInBounds d.next (.slice none 0 0) }, rfl, h1, (HA3.out.drewN nq).trans ((fr_own _).trans (fr_own _) (fun _ e => .inl e)) (fun i e => HT2.out i (.inl e)), fun b hb => HT2.out b (h2 b hb)⟩
        · have t1 : (((d.next : Int) + 1) == (d.old.length : Int)) = false := by rw [beq_eq_false_iff_ne]; omega
          have hst : Dm.step (hsh T) d = { d with now := Dm.take (hsh T) d.now r0, old := d.old.set d.next [], next := d.next + 1 } := by unfold Dm.step; rw [if_neg HO.out, if_neg hlast, HG0.out]
          have HST := Lib.hid hst
          clear hst
          have hc32' : W3.cell? ⟨L.bp, 2, none⟩ = some (.int .i64 ((d.next : Int) + 1)) := hc32
          clear hc32 hlast
          go_quiet (fail)
          go_wp2
          go_ret
          refine ⟨by rw [decide_eq_false HO.out]; rfl, ?_⟩
          rw [HST.out]
          exact ⟨{ L with cn := cn, co := L.co.setIfInBounds d.next (.slice none 0 0) }, rfl, HD3.out.drewN _, HA3.out.drewN _, HT2.out⟩
end Go.Proofs.YtflndbgaidhbaaaDoor.Str
