/-
  The dict of texts: Put, walked. Conditions: those that each theorem states.
-/
import Derived.Test.YtflndbgaidhbaaaDoorX7S
import Derived.Test.YtflndbgaidhbaaaDoorMem4
namespace Go.Proofs.YtflndbgaidhbaaaDoor.Str
open Go.RowKit Dm Go.Proofs.YtflndbgaidhbaaaDoorW.PrintLast

theorem Fit.step {α : Type} {T : Nat → Int} {d : D α} (h : Fit T d) : Fit T (Dm.step (hsh T) d) := by
  refine ⟨step_inv _ h.inv, by rw [step_now_length]; exact h.now, ?_, by rw [step_many]; exact h.many, fun x hx => h.names x ((step_cont _ h.inv).mem_iff.1 hx)⟩
  unfold Dm.step
  split
  · exact h.old
  · split
    · simp
    · rw [List.length_set]; exact h.old

theorem roomI_set {r : Room Nm} {k : Nat} {x : Nm × Nm} (h : r[k]? = some x) (v : Nm) : (roomCells KS.enc r).set (k * 2 + 1) (.string ⟨v.toArray⟩) = roomCells KS.enc (r.set k (x.1, v)) := by
  induction r generalizing k with
  | nil => simp at h
  | cons y r ih =>
    cases k with
    | zero =>
      obtain rfl : y = x := by simpa using h
      simp [roomCells, itemCells, KS]
    | succ k =>
      have := ih (k := k) (by simpa using h)
      have e : (k + 1) * 2 + 1 = (k * 2 + 1) + 1 + 1 := by omega
      rw [List.set_cons_succ]
      unfold roomCells at this ⊢
      rw [List.flatMap_cons, List.flatMap_cons, ← this, e]
      simp [itemCells, KS]
theorem roomI_put {w : World} {g cap k : Nat} {A : Option Addr} {r : Room Nm} {x : Nm × Nm} (h : RoomAt 63 2 KS.enc w (.slice A r.length cap) r) (hg : rb (.slice A r.length cap) = some g) (hk : r[k]? = some x) (v : Nm) :
    RoomAt 63 2 KS.enc (w.setCell ⟨g, k * 2 + 1, none⟩ (.string ⟨v.toArray⟩)) (.slice A r.length cap) (r.set k (x.1, v)) := by
  have hkl := (List.getElem?_eq_some_iff.1 hk).1
  rcases h with ⟨rfl, _⟩ | ⟨g', cap', cur, he, hb, hl, hm, hc, ht⟩
  · simp at hk
  · rw [he] at hg ⊢
    obtain rfl : g' = g := by simpa [rb] using hg
    refine .inr ⟨g', cap', _, by simp, setCell_blk hb _, by simpa using hl, hm, by simpa using hc, ?_⟩
    rw [List.length_set, Array.toList_setIfInBounds, List.take_set, ht]
    exact roomI_set hk v

theorem below_drewN {B : Nat} {a b : World} (h : Below B a b) (n : Nat) : Below B a (b.drewN n) := ⟨h.os, h.tape, h.output, h.size, h.block⟩

theorem put2_none_eq {T : Nat → Int} {d : D Nm} {n : Nm} {v : Nm} (h : find (hsh T) d n = none) : put2 (hsh T) d n v =
    if d.old = [] ∧ d.now.length < d.many + 1 then begin_ { ({ d with now := put1 (hsh T) d.now (n, v) } : D Nm) with many := d.many + 1 } (2 * d.now.length) else { ({ d with now := put1 (hsh T) d.now (n, v) } : D Nm) with many := d.many + 1 } := by
  unfold put2; rw [h]

theorem add_next {T : Nat → Int} {L : Lo} {d : D Nm} {w W w5 : World} {u u' : Value} {n : Nm} {v : Nm} (hD : DictAt KS w L d) (hpos : 0 < d.now.length) :
    Below w.heap.size w W → L.cn[at_ (hsh T) d.now n]? = some u → W.grownBy w5 (rb u) →
      RoomAt 63 2 KS.enc w5 u' (d.now.getD (at_ (hsh T) d.now n) [] ++ [(n, v)]) → (∀ b, rb u' = some b → rb u = some b ∨ W.heap.size ≤ b) →
      After KS w L d { d with now := put1 (hsh T) d.now (n, v) } (w5.setCell ⟨L.gn, at_ (hsh T) d.now n, none⟩ u') := by
  intro hb hu hg hr hn
  refine After.before hb ?_
  have hi : at_ (hsh T) d.now n < d.now.length := Nat.mod_lt _ hpos
  obtain ⟨h1, h2, h3⟩ := now_set (hD.below hb) (getD_get (d := ([] : Room Nm)) hi) hu (Fr.of_grown hg) hr hn
  exact ⟨{ L with cn := L.cn.setIfInBounds (at_ (hsh T) d.now n) u' }, rfl, h1, h2, h3⟩

set_option maxHeartbeats 3200000 in
set_option maxRecDepth 100000 in
theorem put_any (s : ByteArray) (v : Nm) (L : Lo) (d : D Nm) (T : Nat → Int) (w : World) (hd : DictAt KS w L d) (hT : Tab T w) (hfit : Fit T d) (h0 : ¬ foot L d 0) (hmax : s.size ≤ 140737488351232) :
    Calls Tryd.prog 9 #[.pointer (some ⟨L.bp, 0, none⟩), .string s, .string ⟨v.toArray⟩] w fun e w' =>
      e = .returned (.bool (find (hsh T) (Dm.step (hsh T) d) s.data.toList).isSome) ∧ After KS w L d (Dm.put (hsh T) d s.data.toList v) w' := by
  have HS := Lib.hid (step_any L d T w hd hT hfit h0)
  have HFit := Lib.hid hfit.step
  have HT := Lib.hid hT
  have H0 := Lib.hid h0
  have HP := Lib.hid (show Dm.put (hsh T) d s.data.toList v = put2 (hsh T) (Dm.step (hsh T) d) s.data.toList v from rfl)
  clear hd hT hfit h0
  generalize Dm.step (hsh T) d = d1 at HS HFit HP ⊢
  rw [HP.out]
  clear HP
  go_enter Tryd.func9, Tryd.ntmps9
  go_wp2_with fail
  refine HS.out.mono ?_
  rintro e w1 ⟨rfl, hA⟩
  obtain ⟨L1, hbp, hD1, hFr1, hft1⟩ := hA
  have HT1 := Lib.hid (tab_fr HT.out hFr1 H0.out)
  have HFa := Lib.hid (fun dF wF (h : After KS w1 L1 d1 dF wF) => After.trans hbp hFr1 hft1 h)
  have HF := Lib.hid (find_any s L1 d1 T w1 hD1 HT1.out HFit.out.inv.pos hmax (by have := HFit.out.now; omega) (by have := HFit.out.old; omega)
    (fun r hr => by have := HFit.out.room (.inl hr); omega) (fun r hr => by have := HFit.out.room (.inr hr); omega))
  have HBP := Lib.hid hbp
  have HD1 := Lib.hid hD1
  rw [hbp] at HF
  clear hD1 hFr1 hft1 HT H0 HS hbp
  cases hf : find (hsh T) d1 s.data.toList with
  | some bk =>
    obtain ⟨b, k⟩ := bk
    obtain ⟨i, r, p, x, q, hi, hie, hr, hl, hx⟩ := find_some (hsh T) hf
    have hrk : r[k]? = some x := by rw [hr, List.getElem?_append_right (by omega), hl]; simp
    have hg : put2 (hsh T) d1 s.data.toList v = edit d1 b i (r.set k (x.1, v)) := by
      unfold put2; rw [hf]
      simp only
      rw [← hie, hx, List.getD_eq_getElem?_getD, hi]
      rfl
    have hkr : k < r.length := (List.getElem?_eq_some_iff.1 hrk).1
    have hrl : r.length ≤ 400000 := by
      cases b <;> simp only [Bool.false_eq_true, if_true, if_false] at hi
      · exact HFit.out.room (.inl (List.mem_of_getElem? hi))
      · exact HFit.out.room (.inr (List.mem_of_getElem? hi))
    have room : ∃ u, RoomAt 63 2 KS.enc w1 u r ∧ w1.cell? (fPtr T L1 d1 s.data.toList b) = some u ∧ (tabOf L1 b)[i]? = some u ∧ (fPtr T L1 d1 s.data.toList b).block < w1.heap.size := by
      unfold fPtr tabOf
      rw [← hie]
      cases b <;> simp only [Bool.false_eq_true, if_true, if_false] at hi ⊢
      · obtain ⟨u, h0, h1, h2, _⟩ := HD1.out.now.room hi
        exact ⟨u, h1, h2, h0, lt_of_heap HD1.out.now.1⟩
      · have ho : d1.old ≠ [] := by intro e; rw [e] at hi; simp at hi
        obtain ⟨u, h0, h1, h2, _⟩ := (HD1.out.old ho).room hi
        exact ⟨u, h1, h2, h0, lt_of_heap (HD1.out.old ho).1⟩
    obtain ⟨u, hru, hcu, htu, hpb⟩ := room
    obtain ⟨g, cap, rfl, hrb, hit⟩ := hru.item KS.hs hrk
    have hglt := (hru.lt hrb).1
    have hc1 := hit 1 _ rfl
    have hfin : ∀ w2, Below w1.heap.size w1 w2 → After KS w L d (edit d1 b i (r.set k (x.1, v))) (w2.setCell ⟨g, k * 2 + 1, none⟩ (.string ⟨v.toArray⟩)) := fun w2 hb =>
      HFa.out _ _ (After.before hb (edit_in (HD1.out.below hb) hi htu ((Fr.refl _ w2).setCell (.inl hrb) _) (roomI_put (hru.kept fun c hc => hb.block c (hru.lt hc).1) hrb hrk v)))
    have HFin := Lib.hid hfin
    have HF2 := Lib.hid hf
    have HG := Lib.hid hg
    clear hf hg hi hie hr hl hx hrk hit hru hrb htu HD1 HBP HT1 HFit HFa hfin
    go_wp2_with fail
    refine HF.out.mono ?_
    rintro e w2 ⟨p, rfl, hp, hb⟩
    rw [hp b k HF2.out, HF2.out]
    have e1 : fInt (some (b, k)) = (k : Int) := rfl
    rw [e1]
    have hcu2 := (hb.cell hpb).trans hcu
    have hfr2 : w2.frozen? ⟨g, k * 2 + 1, none⟩ = false := (hb.frozen (p := ⟨g, k * 2 + 1, none⟩) hglt).trans hc1.2
    have hcc2 := (hb.cell (p := ⟨g, k * 2 + 1, none⟩) hglt).trans hc1.1
    have HB := Lib.hid hb
    clear hb e1 hp HF hc1 hcu
    go_wp2_with fail
    go_ret
    exact ⟨by rw [HF2.out]; rfl, by rw [HG.out]; exact HFin.out _ HB.out⟩
  | none =>
    have HF2 := Lib.hid hf
    clear hf
    go_wp2_with fail
    refine HF.out.mono ?_
    rintro e w2 ⟨p, rfl, _, hb⟩
    rw [HF2.out]
    have e1 : fInt none = -1 := rfl
    rw [e1]
    have HD2 := Lib.hid (HD1.out.below hb)
    have HT2 := Lib.hid (tab_below HT1.out hb)
    have HFb := Lib.hid (fun dF wF (h : After KS w2 L1 d1 dF wF) => HFa.out _ _ (h.before hb))
    clear hb e1 HF HD1 HT1 HFa
    have hc10 := HD2.out.cells.1
    have hpos := HFit.out.inv.pos
    have hmany := HFit.out.many
    have hnow := HFit.out.now
    rw [HBP.out] at hc10
    have hbp2 : L.bp < w2.heap.size := by rw [← HBP.out]; exact lt_of_heap HD2.out.blk
    have hgn2 := lt_of_heap HD2.out.now.1
    have hi : at_ (hsh T) d1.now s.data.toList < d1.now.length := Nat.mod_lt _ hpos
    have hrm := getD_get (d := ([] : Room Nm)) hi
    obtain ⟨u, hu, hru, hcu, hfu⟩ := HD2.out.now.room hrm
    have hrl : (d1.now.getD (at_ (hsh T) d1.now s.data.toList) []).length ≤ 400000 := HFit.out.room (.inl (List.mem_of_getElem? hrm))
    have hroom := Lib.hid (room_nat s d1.now.length T)
    have hat : hsh T s.data.toList % d1.now.length = at_ (hsh T) d1.now s.data.toList := rfl
    rw [hat] at hroom
    have hnext := Lib.hid (fun W w5 u u' => add_next (T := T) (L := L1) (d := d1) (w := w2) (W := W) (w5 := w5) (u := u) (u' := u') (n := s.data.toList) (v := v) HD2.out hpos)
    have HUB := Lib.hid (fun b (hb : rb u = some b) => show b ≠ L.bp ∧ b ≠ L1.gn ∧ b < w2.heap.size from ⟨(HBP.out ▸ (HD2.out.in_ne (.inl ⟨_, u, hi, hu, hb⟩)).1), (HD2.out.in_ne (.inl ⟨_, u, hi, hu, hb⟩)).2.1, (hru.lt hb).1⟩)
    have HPut := Lib.hid (put2_none_eq (v := v) HF2.out)
    have hdm := hnow
    have hgb : L1.gn ≠ L.bp := by rw [← HBP.out]; exact HD2.out.gn_ne
    have HGB := Lib.hid hgb
    clear hat hgb
    generalize hd2e : ({ d1 with now := put1 (hsh T) d1.now (s.data.toList, v) } : D Nm) = d2 at hnext HPut
    have ho2 : d2.old = d1.old := by rw [← hd2e]
    have hm2 : d2.many = d1.many := by rw [← hd2e]
    have hn2 : d2.now.length = d1.now.length := by rw [← hd2e]; exact put1_length _ _ _
    have HO2 := Lib.hid ho2
    have HM2 := Lib.hid hm2
    have HN2 := Lib.hid hn2
    clear hd2e ho2 hm2 hn2
    generalize at_ (hsh T) d1.now s.data.toList = i at hi hrm hcu hfu hroom hu hrl hnext hru HUB
    generalize d1.now.getD i [] = r at hrm hru hrl hnext
    have HRu := Lib.hid hru
    have HCu := Lib.hid hu
    have hi0 : (0 : Int) ≤ (i : Int) := by omega
    have hi1 : (i : Int) < (d1.now.length : Int) := by omega
    clear hrm hru hu
    go_wp2_with fail
    refine (hroom.out w2 (by omega) hmax ?_).mono ?_
    · exact HT2.out
    rintro e W1 ⟨rfl, hb1⟩
    go_wp2_with fail
    obtain ⟨i0, hi0_, hz0_, hz1_, hz2_⟩ := info_parts info63
    obtain ⟨Wd, hWd⟩ : ∃ Wd, Wd = W1.drew := ⟨_, rfl⟩
    have hBd : Below w2.heap.size w2 Wd := by rw [hWd]; exact hb1.drew
    have hbpd : L.bp < Wd.heap.size := Nat.lt_of_lt_of_le hbp2 hBd.size
    have hgnd : L1.gn < Wd.heap.size := Nat.lt_of_lt_of_le hgn2 hBd.size
    have s0 : Wd.cell? ⟨L.bp, 0, none⟩ = some (.slice (some ⟨L1.gn, 0, none⟩) d1.now.length L1.cn.size) := (hBd.cell (p := ⟨L.bp, 0, none⟩) hbp2).trans hc10
    have s1 : Wd.cell? ⟨L1.gn, i, none⟩ = some u := (hBd.cell (p := ⟨L1.gn, i, none⟩) hgn2).trans hcu
    have hRd : RoomAt 63 2 KS.enc Wd u r := HRu.out.kept fun b hb => hBd.block b (HUB.out b hb).2.2
    have HS0 := Lib.hid (show _ ∧ _ from ⟨s0, s1⟩)
    have HS1 := Lib.hid (fun (o : Obj) => show _ ∧ _ from ⟨(World.cell?_alloc_lt Wd o ⟨L.bp, 0, none⟩ (by show L.bp < _; omega)).trans s0, (World.cell?_alloc_lt Wd o ⟨L1.gn, i, none⟩ (by show L1.gn < _; omega)).trans s1⟩)
    have HRW := Lib.hid (fun (o : Obj) => hRd.kept (w' := Wd.alloc o) fun b hb => Below.heap_alloc Wd o b (hRd.lt hb).1)
    have HNews := Lib.hid (World.news_of_block (heap_alloc_new Wd (.cells #[.string s, .string ⟨v.toArray⟩] 63)))
    have HS2 := Lib.hid (fun (w5 : World) (o : Obj) (hg : (Wd.alloc o).grownBy w5 (rb u)) => show _ ∧ _ from
      ⟨hg.cell (a := ⟨L.bp, 0, none⟩) (HS1.out o).1 (fun e => (HUB.out _ e.symm).1 rfl), hg.cell (a := ⟨L1.gn, i, none⟩) (HS1.out o).2 (fun e => (HUB.out _ e.symm).2.1 rfl)⟩)
    have HFz := Lib.hid (fun (w5 : World) (o : Obj) (hg : (Wd.alloc o).grownBy w5 (rb u)) => show w5.frozen? ⟨L1.gn, i, none⟩ = false from
      (hg.frozen_far ⟨L1.gn, i, none⟩ (by simp; omega) (fun e => (HUB.out _ e.symm).2.1 rfl)).trans ((World.frozen?_of_block (w := Wd) (Below.heap_alloc Wd o L1.gn (by omega))).trans ((hBd.frozen (p := ⟨L1.gn, i, none⟩) hgn2).trans hfu)))
    have HWd := Lib.hid hWd
    have HBd := Lib.hid hBd
    obtain ⟨Au, cu, rfl, _, _⟩ := HRu.out.shape
    clear hWd hBd s0 s1 hRd hb1 hc10 hcu hfu
    refine start_ (n := 19) (S := fun w' => w'.cell? ⟨L.bp, 0, none⟩ = some (.slice (some ⟨L1.gn, 0, none⟩) d1.now.length L1.cn.size) ∧ w'.cell? ⟨L1.gn, i, none⟩ = some (.slice Au r.length cu)) (ds := [18]) #[false, false, false, false, false, false, false, false, false, false, false, false, false, false, false, false, false, false, false] (by kernel_rfl) rfl rfl (by rw [← HWd.out]; exact HS0.out) (fun hHeld => ?_)
    rw [← HWd.out] at hHeld ⊢
    refine pure_ (i := 0) (N := some 34) (v := ?_) (a' := ?_) #[true, false, false, false, false, false, false, false, false, false, false, false, false, false, false, false, false, false, false] rfl rfl (by kernel_rfl) (fun _ _ _ h => h) (Or.inl ⟨by rfl, ?_⟩) ?_ ?_
    rotate_left
    · intro w'
      go_simp
      with_reducible rfl
    rotate_left
    · simp only [Act.put, List.setIfInBounds_toArray, List.set_cons_zero, List.set_cons_succ, i64_w, i32_w]
      rfl
    refine pure_ (i := 1) (N := some 35) (v := ?_) (a' := ?_) #[true, true, false, false, false, false, false, false, false, false, false, false, false, false, false, false, false, false, false] rfl rfl (by kernel_rfl) (fun _ _ _ h => h) (Or.inl ⟨by rfl, ?_⟩) ?_ ?_
    rotate_left
    · intro w'
      go_simp
      with_reducible rfl
    rotate_left
    · simp only [Act.put, List.setIfInBounds_toArray, List.set_cons_zero, List.set_cons_succ, i64_w, i32_w]
      rfl
    refine pure_ (i := 2) (N := some 36) (v := ?_) (a' := ?_) #[true, true, true, false, false, false, false, false, false, false, false, false, false, false, false, false, false, false, false] rfl rfl (by kernel_rfl) (fun _ _ _ h => h) (Or.inl ⟨by rfl, ?_⟩) ?_ ?_
    rotate_left
    · intro w'
      go_simp
      with_reducible rfl
    rotate_left
    · simp only [Act.put, List.setIfInBounds_toArray, List.set_cons_zero, List.set_cons_succ, i64_w, i32_w]
      rfl
    refine take_ (i := 3) (N := some 37) (v := ?_) (a' := ?_) #[true, true, true, true, false, false, false, false, false, false, false, false, false, false, false, false, false, false, false] rfl rfl (by kernel_rfl) (fun _ _ _ h => h) (Or.inl ⟨by rfl, ?_⟩) hHeld ?_ ?_
    rotate_left
    · rintro w' ⟨s0, s1⟩
      go_simp
      with_reducible rfl
    rotate_left
    · simp only [Act.put, List.setIfInBounds_toArray, List.set_cons_zero, List.set_cons_succ, i64_w, i32_w]
      rfl
    refine pure_ (i := 4) (N := some 38) (v := ?_) (a' := ?_) #[true, true, true, true, true, false, false, false, false, false, false, false, false, false, false, false, false, false, false] rfl rfl (by kernel_rfl) (fun _ _ _ h => h) (Or.inl ⟨by rfl, ?_⟩) ?_ ?_
    rotate_left
    · intro w'
      go_simp
      with_reducible rfl
    rotate_left
    · simp only [Act.put, List.setIfInBounds_toArray, List.set_cons_zero, List.set_cons_succ, i64_w, i32_w]
      rfl
    refine pure_ (i := 5) (N := some 39) (v := ?_) (a' := ?_) #[true, true, true, true, true, true, false, false, false, false, false, false, false, false, false, false, false, false, false] rfl rfl (by kernel_rfl) (fun _ _ _ h => h) (Or.inl ⟨by rfl, ?_⟩) ?_ ?_
    rotate_left
    · intro w'
      go_simp
      with_reducible rfl
    rotate_left
    · simp only [Act.put, List.setIfInBounds_toArray, List.set_cons_zero, List.set_cons_succ, i64_w, i32_w]
      rfl
    refine pure_ (i := 6) (N := some 40) (v := ?_) (a' := ?_) #[true, true, true, true, true, true, true, false, false, false, false, false, false, false, false, false, false, false, false] rfl rfl (by kernel_rfl) (fun _ _ _ h => h) (Or.inl ⟨by rfl, ?_⟩) ?_ ?_
    rotate_left
    · intro w'
      go_simp
      with_reducible rfl
    rotate_left
    · simp only [Act.put, List.setIfInBounds_toArray, List.set_cons_zero, List.set_cons_succ, i64_w, i32_w]
      rfl
    refine pure_ (i := 7) (N := some 41) (v := ?_) (a' := ?_) #[true, true, true, true, true, true, true, true, false, false, false, false, false, false, false, false, false, false, false] rfl rfl (by kernel_rfl) (fun _ _ _ h => h) (Or.inl ⟨by rfl, ?_⟩) ?_ ?_
    rotate_left
    · intro w'
      go_simp
      with_reducible rfl
    rotate_left
    · simp only [Act.put, List.setIfInBounds_toArray, List.set_cons_zero, List.set_cons_succ, i64_w, i32_w]
      rfl
    refine take_ (i := 8) (N := some 42) (v := ?_) (a' := ?_) #[true, true, true, true, true, true, true, true, true, false, false, false, false, false, false, false, false, false, false] rfl rfl (by kernel_rfl) (fun _ _ _ h => h) (Or.inl ⟨by rfl, ?_⟩) hHeld ?_ ?_
    rotate_left
    · rintro w' ⟨s0, s1⟩
      go_simp
      with_reducible rfl
    rotate_left
    · simp only [Act.put, List.setIfInBounds_toArray, List.set_cons_zero, List.set_cons_succ, i64_w, i32_w]
      rfl
    refine pure_ (i := 9) (N := some 43) (v := ?_) (a' := ?_) #[true, true, true, true, true, true, true, true, true, true, false, false, false, false, false, false, false, false, false] rfl rfl (by kernel_rfl) (fun _ _ _ h => h) (Or.inl ⟨by rfl, ?_⟩) ?_ ?_
    rotate_left
    · intro w'
      go_simp
      with_reducible rfl
    rotate_left
    · simp only [Act.put, List.setIfInBounds_toArray, List.set_cons_zero, List.set_cons_succ, i64_w, i32_w]
      rfl
    refine pure_ (i := 10) (N := some 44) (v := ?_) (a' := ?_) #[true, true, true, true, true, true, true, true, true, true, true, false, false, false, false, false, false, false, false] rfl rfl (by kernel_rfl) (fun _ _ _ h => h) (Or.inl ⟨by rfl, ?_⟩) ?_ ?_
    rotate_left
    · intro w'
      go_simp
      with_reducible rfl
    rotate_left
    · simp only [Act.put, List.setIfInBounds_toArray, List.set_cons_zero, List.set_cons_succ, i64_w, i32_w]
      rfl
    refine take_ (i := 11) (N := some 45) (v := ?_) (a' := ?_) #[true, true, true, true, true, true, true, true, true, true, true, true, false, false, false, false, false, false, false] rfl rfl (by kernel_rfl) (fun _ _ _ h => h) (Or.inl ⟨by rfl, ?_⟩) hHeld ?_ ?_
    rotate_left
    · rintro w' ⟨s0, s1⟩
      go_simp
      with_reducible rfl
    rotate_left
    · simp only [Act.put, List.setIfInBounds_toArray, List.set_cons_zero, List.set_cons_succ, i64_w, i32_w]
      rfl
    refine pure_ (i := 12) (N := some 46) (v := ?_) (a' := ?_) #[true, true, true, true, true, true, true, true, true, true, true, true, true, false, false, false, false, false, false] rfl rfl (by kernel_rfl) (fun _ _ _ h => h) (Or.inl ⟨by rfl, ?_⟩) ?_ ?_
    rotate_left
    · intro w'
      go_simp
      with_reducible rfl
    rotate_left
    · simp only [Act.put, List.setIfInBounds_toArray, List.set_cons_zero, List.set_cons_succ, i64_w, i32_w]
      rfl
    refine pure_ (i := 13) (N := some 47) (v := ?_) (a' := ?_) #[true, true, true, true, true, true, true, true, true, true, true, true, true, true, false, false, false, false, false] rfl rfl (by kernel_rfl) (fun _ _ _ h => h) (Or.inl ⟨by rfl, ?_⟩) ?_ ?_
    rotate_left
    · intro w'
      go_simp
      with_reducible rfl
    rotate_left
    · simp only [Act.put, List.setIfInBounds_toArray, List.set_cons_zero, List.set_cons_succ, i64_w, i32_w]
      rfl
    refine pure_ (i := 14) (N := some 48) (v := ?_) (a' := ?_) #[true, true, true, true, true, true, true, true, true, true, true, true, true, true, true, false, false, false, false] rfl rfl (by kernel_rfl) (fun _ _ _ h => h) (Or.inl ⟨by rfl, ?_⟩) ?_ ?_
    rotate_left
    · intro w'
      go_simp
      with_reducible rfl
    rotate_left
    · simp only [Act.put, List.setIfInBounds_toArray, List.set_cons_zero, List.set_cons_succ, i64_w, i32_w]
      rfl
    refine one_ (i := 15) (N := some 49) #[true, true, true, true, true, true, true, true, true, true, true, true, true, true, true, true, false, false, false] rfl rfl (by kernel_rfl) (by decide) (fun K hK => ?_)
    refine value_ (v := .slice (some ⟨Wd.heap.size, 0, none⟩) 1 1) (w1 := Wd.alloc (.cells #[.string s, .string ⟨v.toArray⟩] 63)) (by rfl) rfl (by go_simp) ?_
    refine hK.out _ _ (HS1.out _) (fun hHeld => ?_)
    clear hK K
    refine norm_ (a' := ?_) ?_ ?_
    rotate_left
    · simp only [Act.put, List.setIfInBounds_toArray, List.set_cons_zero, List.set_cons_succ, i64_w, i32_w]
      rfl
    refine one_ (i := 16) (N := some 50) #[true, true, true, true, true, true, true, true, true, true, true, true, true, true, true, true, true, false, false] rfl rfl (by kernel_rfl) (by decide) (fun K hK => ?_)
    rw [if_pos (by rfl)]
    refine wp_append_room_ KS.hs KS.h1 _ _ 64 rfl _ i0 _ 32 Tryd.underlying64 hi0_ hz0_ hz1_ hz2_ rfl _ r (by rfl) (HRW.out _) (s.data.toList, v) ⟨Wd.heap.size, 0, none⟩ 1 (by rfl) (HNews.out) (by omega) (by unfold maxLen; omega) ?_
    intro g2 cap2 w5 hr5 hg5 hat5
    have hf5 := HFz.out _ _ hg5
    refine hK.out _ _ (HS2.out _ _ hg5) (fun hHeld => ?_)
    clear hK K
    refine norm_ (a' := ?_) ?_ ?_
    rotate_left
    · simp only [Act.put, List.setIfInBounds_toArray, List.set_cons_zero, List.set_cons_succ, i64_w, i32_w]
      rfl
    refine pure_ (i := 17) (N := some 51) (v := ?_) (a' := ?_) #[true, true, true, true, true, true, true, true, true, true, true, true, true, true, true, true, true, true, false] rfl rfl (by kernel_rfl) (fun _ _ _ h => h) (Or.inl ⟨by rfl, ?_⟩) ?_ ?_
    rotate_left
    · intro w'
      go_simp
      with_reducible rfl
    rotate_left
    · simp only [Act.put, List.setIfInBounds_toArray, List.set_cons_zero, List.set_cons_succ, i64_w, i32_w]
      rfl
    refine last_ (i := 18) (N := none) #[true, true, true, true, true, true, true, true, true, true, true, true, true, true, true, true, true, true, true] rfl rfl (by kernel_rfl) (by decide) (fun K hK => ?_)
    refine skip_ (w1 := ?_) (by rfl) rfl ?_ ?_
    rotate_left
    · go_simp
      rfl
    refine hK.out _ _ ?_
    clear hK K
    refine done_ (by kernel_rfl) ?_
    have HM5 := Lib.hid (hnext.out _ w5 _ _ (HBd.out.alloc HBd.out.size _) HCu.out hg5 hr5 (by
      intro b hb
      obtain rfl : g2 = b := by simpa [rb] using hb
      rcases hat5 with h | h
      · exact .inl h
      · exact .inr (Nat.le_of_eq h.symm)))
    clear hr5 hg5 hat5 hf5 hHeld HS0 HS1 HS2 HFz HRW HNews HWd HBd HRu HCu HUB hnext hroom
    generalize w5.setCell ⟨L1.gn, i, none⟩ (.slice (some ⟨g2, 0, none⟩) (r.length + 1) (cap2 + 1)) = wX at HM5 ⊢
    obtain ⟨L2, hbp3, hD3, hFr3, hft3⟩ := HM5.out
    have HFc := Lib.hid (fun dF wF (h : After KS wX L2 d2 dF wF) => HFb.out _ _ (After.trans hbp3 hFr3 hft3 h))
    have hb20 := hbp3.trans HBP.out
    have HBP2 := Lib.hid hb20
    have hc3 := hD3.cells.2.2.2
    have hf3 := hD3.free 3
    rw [HM2.out] at hc3
    rw [hb20] at hc3 hf3
    have HD3 := Lib.hid hD3
    clear hbp3 hD3 hFr3 hft3 HM5 HFb hb20
    go_wp2_with fail
    have hA4 := many_after HD3.out (d1.many + 1) (.int .i64 ((d1.many : Int) + 1)) (by push_cast; rfl)
    rw [HBP2.out] at hA4
    generalize wX.setCell ⟨L.bp, 3, none⟩ (.int .i64 ((d1.many : Int) + 1)) = wY at hA4 ⊢
    obtain ⟨L3, hbp4, hD4, hFr4, hft4⟩ := hA4
    have HFd := Lib.hid (fun dF wF (h : After KS wY L3 { d2 with many := d1.many + 1 } dF wF) => HFc.out _ _ (After.trans hbp4 hFr4 hft4 h))
    have hb30 := hbp4.trans HBP2.out
    obtain ⟨hc0, hc1, _, hc3⟩ := hD4.cells
    have hpos4 : 0 < ({ d2 with many := d1.many + 1 } : D Nm).now.length := by rw [show ({ d2 with many := d1.many + 1 } : D Nm).now = d2.now from rfl, HN2.out]; exact hpos
    rw [hb30] at hc0 hc1 hc3
    rw [show ({ d2 with many := d1.many + 1 } : D Nm).now.length = d1.now.length from HN2.out] at hc0
    have hc3 : wY.cell? ⟨L.bp, 3, none⟩ = some (.int .i64 ((d1.many : Int) + 1)) := by rw [hc3]; push_cast; rfl
    have HD4 := Lib.hid hD4
    have HBP3 := Lib.hid hb30
    have HP4 := Lib.hid hpos4
    clear hbp4 hD4 hFr4 hft4 HFc HD3 hb30 hpos4 hHeld HD2 HT2 HFit
    by_cases ho : d1.old = []
    · have e1 : oldV L3 { d2 with many := d1.many + 1 } = .slice none 0 0 := by unfold oldV; rw [if_pos (HO2.out.trans ho)]
      rw [e1] at hc1
      by_cases hm : d1.now.length < d1.many + 1
      · have hg : decide ((d1.many : Int) + 1 > (d1.now.length : Int)) = true := decide_eq_true (by omega)
        have HB := Lib.hid (fun n => begin_any L3 { d2 with many := d1.many + 1 } (2 * d1.now.length) (wY.drewN n) (HD4.out.below (below_drewN (Below.refl _ wY) n)) HP4.out (by omega))
        rw [HBP3.out] at HB
        have HPut' := HPut.out
        rw [if_pos ⟨ho, hm⟩] at HPut'
        have HPP := Lib.hid HPut'
        clear HPut' HPut ho e1 hm HO2 HM2 HN2
        go_quiet (fail)
        go_wp2_with fail
        refine (HB.out _).mono ?_
        rintro e wE ⟨rfl, hA⟩
        have HA := Lib.hid (HFd.out _ _ (After.before (below_drewN (Below.refl _ wY) _) hA))
        clear hA
        go_wp2_with fail
        go_ret
        refine ⟨by rw [HF2.out]; rfl, ?_⟩
        rw [HPP.out]
        exact HA.out
      · have hg : decide ((d1.many : Int) + 1 > (d1.now.length : Int)) = false := decide_eq_false (by omega)
        have HPut' := HPut.out
        rw [if_neg (fun h => hm h.2)] at HPut'
        have HPP := Lib.hid HPut'
        clear HPut' HPut ho e1 hm HO2 HM2 HN2
        go_quiet (fail)
        go_wp2_with fail
        go_ret
        refine ⟨by rw [HF2.out]; rfl, ?_⟩
        rw [HPP.out]
        exact HFd.out _ _ (.refl HD4.out (below_drewN (Below.refl _ wY) _))
    · have hlen : ((d1.old.length : Int) == 0) = false := by rw [beq_eq_false_iff_ne]; have := List.length_pos_iff.2 ho; omega
      have hlen2 : (d1.old.length == 0) = false := by rw [beq_eq_false_iff_ne]; have := List.length_pos_iff.2 ho; omega
      have e1 : oldV L3 { d2 with many := d1.many + 1 } = .slice (some ⟨L3.go, 0, none⟩) d1.old.length L3.co.size := by
        unfold oldV; rw [if_neg (fun h => ho (HO2.out.symm.trans h))]; simp only [HO2.out]
      rw [e1] at hc1
      have HPut' := HPut.out
      rw [if_neg (fun h => ho h.1)] at HPut'
      have HPP := Lib.hid HPut'
      clear HPut' HPut ho e1 HO2 HM2 HN2
      go_quiet (fail)
      go_wp2_with fail
      go_ret
      refine ⟨by rw [HF2.out]; rfl, ?_⟩
      rw [HPP.out]
      exact HFd.out _ _ (.refl HD4.out (below_drewN (Below.refl _ wY) _))

end Go.Proofs.YtflndbgaidhbaaaDoor.Str
