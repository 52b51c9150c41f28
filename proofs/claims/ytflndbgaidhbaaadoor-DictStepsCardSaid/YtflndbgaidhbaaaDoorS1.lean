/-
  DictSteps, walked: it tells true for every script. Conditions: those that each theorem states.
-/
import Derived.Test.YtflndbgaidhbaaaDoorA1
namespace Go.Proofs.YtflndbgaidhbaaaDoor
open Go.RowKit Dm Go.Proofs.YtflndbgaidhbaaaDoorW.PrintLast

/-- A script that is read. -/
def OpsAt (w : World) (v : Value) (l : List (Int × Int × ByteArray)) : Prop := ∃ A c, v = .slice A l.length c ∧ ∀ (j : Nat) (o : Int × Int × ByteArray), l[j]? = some o → ∃ b off, A = some ⟨b, off, none⟩ ∧ b < w.heap.size ∧
  w.cell? ⟨b, off + j * 3, none⟩ = some (.int .i64 o.1) ∧ w.cell? ⟨b, off + j * 3 + 1, none⟩ = some (.int .i64 o.2.1) ∧ w.cell? ⟨b, off + j * 3 + 2, none⟩ = some (.string o.2.2)
def IntsAt (w : World) (v : Value) (l : List Int) : Prop := ∃ A c, v = .slice A l.length c ∧ ∀ (j : Nat) (o : Int), l[j]? = some o → ∃ b off, A = some ⟨b, off, none⟩ ∧ b < w.heap.size ∧ w.cell? ⟨b, off + j, none⟩ = some (.int .i64 o)

/-- Two dicts of the call's own, apart. -/
structure St (w wr : World) (Ld : Lo) (d : D Int) (Le : Lo) (e : D Int) : Prop where
  own1 : Own w wr Ld d
  own2 : Own w wr Le e
  apart : ∀ b, foot Ld d b → ¬ foot Le e b
theorem St.symm {w wr : World} {Ld Le : Lo} {d e : D Int} (h : St w wr Ld d Le e) : St w wr Le e Ld d := ⟨h.own2, h.own1, fun b h1 h2 => h.apart b h2 h1⟩
theorem St.below {w wr w' : World} {Ld Le : Lo} {d e : D Int} (h : St w wr Ld d Le e) (hb : Below wr.heap.size wr w') : St w w' Ld d Le e := ⟨h.own1.below hb, h.own2.below hb, h.apart⟩
theorem St.left {w wr w' : World} {Ld Le : Lo} {d e d' : D Int} (h : St w wr Ld d Le e) (ha : After KI wr Ld d d' w') : ∃ Ld', Ld'.bp = Ld.bp ∧ St w w' Ld' d' Le e := by
  obtain ⟨L', e1, hO, hft, hfr⟩ := h.own1.after ha
  refine ⟨L', e1, hO, ⟨h.own2.1.fr hfr (fun b hb hk => h.apart b hk hb), h.own2.2.1, hO.2.2⟩, fun b hb hk => ?_⟩
  rcases hft b hb with h1 | h1
  · exact h.apart b h1 hk
  · have := h.own2.1.lt hk; omega
theorem St.right {w wr w' : World} {Ld Le : Lo} {d e e' : D Int} (h : St w wr Ld d Le e) (ha : After KI wr Le e e' w') : ∃ Le', Le'.bp = Le.bp ∧ St w w' Ld d Le' e' := by
  obtain ⟨L', e1, hS⟩ := h.symm.left ha
  exact ⟨L', e1, hS.symm⟩

/-- The names, in order. -/
def sn (d : D Int) : List Nm := (nms d.cont).mergeSort fun x y => decide (x ≤ y)
theorem sn_len (d : D Int) : (sn d).length = (nms d.cont).length := by unfold sn; simp
theorem names2_any (L : Lo) (d : D Int) (T : Nat → Int) (w : World) (hd : DictAt KI w L d) (hfit : Fit T d) :
    Calls Tryd.prog 20 #[.pointer (some ⟨L.bp, 0, none⟩)] w fun e w' => ∃ v, e = .returned v ∧ StrAt w' v (sn d) ∧ Below w.heap.size w w' := by
  refine (names_any L d T w hd hfit).mono ?_
  rintro e w' ⟨v, rfl, ho, hb⟩
  refine ⟨v, rfl, StrAt.of_own (B := w.heap.size) ?_, hb⟩
  rw [sn_len]
  exact ho
theorem sn_mem {d : D Int} {n : Nm} (h : n ∈ sn d) : n ∈ nms d.cont := (List.mergeSort_perm _ _).mem_iff.1 h
theorem sn_le {T : Nat → Int} {k : Nat} {d : D Int} (h : Small T k d) (hk : k ≤ 1000) : (sn d).length ≤ 1000 := by
  rw [sn_len]; unfold nms; rw [List.length_map, ← h.inv.many]; have := h.many; omega

/-- The loop over the script. -/
def Lp (T : Nat → Int) (w : World) (bd be k : Nat) (wr : World) : Prop := ∃ (Ld Le : Lo) (d e : D Int), Ld.bp = bd ∧ Le.bp = be ∧ St w wr Ld d Le e ∧ Alike d e ∧ Small T k d ∧ Small T k e

set_option maxHeartbeats 12800000 in
set_option maxRecDepth 100000 in
theorem steps_any (u1 u2 : Value) (script : List (Int × Int × ByteArray)) (ats : List Int) (T : Nat → Int) (w : World) (hT : Tab T w) (h1 : OpsAt w u1 script) (h2 : IntsAt w u2 ats)
    (hs : ∀ o ∈ script, o.2.2.size ≤ 140737488351232) (hl1 : script.length ≤ 9223372036854775807) (hl2 : ats.length ≤ 9223372036854775807) :
    Calls Tryd.prog 5 #[u1, u2] w fun e w' => e = .returned (.bool true) ∧ Below w.heap.size w w' := by
  obtain ⟨A1, c1, rfl, hA1⟩ := h1
  obtain ⟨A2, c2, rfl, hA2⟩ := h2
  have HT := Lib.hid hT
  have HA1 := Lib.hid hA1
  have HA2 := Lib.hid hA2
  have HS := Lib.hid hs
  have HAl := Lib.hid (fun w' (hb : Below w.heap.size w w') => alive_any T w' (tab_below hT hb))
  obtain ⟨n1, hn1⟩ : ∃ n, n = script.length := ⟨_, rfl⟩
  obtain ⟨n2, hn2⟩ : ∃ n, n = ats.length := ⟨_, rfl⟩
  rw [← hn1] at hl1 ⊢
  rw [← hn2] at hl2 ⊢
  have HN1 := Lib.hid hn1
  have HN2 := Lib.hid hn2
  clear hT hA1 hA2 hs hn1 hn2
  go_enter Tryd.func5, Tryd.ntmps5
  go_wp2_with fail
  refine (new_any _).mono ?_
  rintro e w1 ⟨Ld, rfl, hd, hb, hf⟩
  have HO1 := Lib.hid (show Own w w1 Ld Dm.new from ⟨hd, hf, hb⟩)
  clear hd hb hf
  go_wp2_with fail
  refine (new_any _).mono ?_
  rintro e w2 ⟨Le, rfl, hd, hb, hf⟩
  have hSt : St w w2 Ld Dm.new Le Dm.new := ⟨HO1.out.below hb, ⟨hd, fun b hb' => Nat.le_trans HO1.out.2.2.size (hf b hb'), HO1.out.2.2.trans (hb.mono HO1.out.2.2.size)⟩, fun b h1 h2 => by have := HO1.out.1.lt h1; have := hf b h2; omega⟩
  have HSt := Lib.hid (show Lp T w Ld.bp Le.bp 0 w2 from ⟨Ld, Le, _, _, rfl, rfl, hSt, Alike.refl _, Small.new T, Small.new T⟩)
  have HB2 := Lib.hid hSt.own1.2.2
  clear hd hb hf hSt HO1
  by_cases hc1 : 600 < n1
  · have hg1 : decide ((n1 : Int) > 600) = true := decide_eq_true (by omega)
    have hg2 : decide (600 < (n1 : Int)) = true := decide_eq_true (by omega)
    go_wp2_with fail
    refine (HAl.out _ HB2.out).mono ?_
    rintro e w3 ⟨rfl, hb3⟩
    go_wp2_with fail
    go_ret
    exact ⟨rfl, HB2.out.trans (hb3.mono HB2.out.size)⟩
  · have hg1 : decide ((n1 : Int) > 600) = false := decide_eq_false (by omega)
    have hg2 : decide (600 < (n1 : Int)) = false := decide_eq_false (by omega)
    by_cases hc2 : 600 < n2
    · have hg3 : decide ((n2 : Int) > 600) = true := decide_eq_true (by omega)
      have hg4 : decide (600 < (n2 : Int)) = true := decide_eq_true (by omega)
      go_wp2_with fail
      refine (HAl.out _ HB2.out).mono ?_
      rintro e w3 ⟨rfl, hb3⟩
      go_wp2_with fail
      go_ret
      exact ⟨rfl, HB2.out.trans (hb3.mono HB2.out.size)⟩
    · have hg3 : decide ((n2 : Int) > 600) = false := decide_eq_false (by omega)
      have hg4 : decide (600 < (n2 : Int)) = false := decide_eq_false (by omega)
      have hc1' : n1 ≤ 600 := by omega
      have hc2' : n2 ≤ 600 := by omega
      go_wp2_with fail
      clear hg1 hg2 hg3 hg4 hc1 hc2 hl1 hl2
      go_loopw [44] (fun i wr => ∃ (k : Nat), k ≤ n1 ∧ i = .int .i64 (k : Int) ∧ Lp T w Ld.bp Le.bp k wr) (fun i _ => n1 - (intOf i).toNat)
      case atStart => exact ⟨0, Nat.zero_le _, rfl, HSt.out⟩
      case round =>
        obtain ⟨k, hk, rfl, hLp⟩ := hrel
        by_cases hkl : k < n1
        · have hdk : decide ((k : Int) < (n1 : Int)) = true := decide_eq_true (by omega)
          have ho : script[k]? = some script[k] := List.getElem?_eq_getElem (by rw [← HN1.out]; exact hkl)
          have hsz := HS.out _ (List.mem_of_getElem? ho)
          obtain ⟨b, off, rfl, hbl, hc0, hc1, hc2⟩ := HA1.out k _ ho
          generalize script[k] = o at ho hsz hc0 hc1 hc2
          obtain ⟨kind, v, s⟩ := o
          simp only at hsz hc0 hc1 hc2
          obtain ⟨Ld1, Le1, d, e, hbd, hbe, hSt, hAl, hsd, hse⟩ := hLp
          have hbw := hSt.own1.2.2
          have r0 := (hbw.cell (p := ⟨b, off + k * 3, none⟩) hbl).trans hc0
          have r1 := (hbw.cell (p := ⟨b, off + k * 3 + 1, none⟩) hbl).trans hc1
          have r2 := (hbw.cell (p := ⟨b, off + k * 3 + 2, none⟩) hbl).trans hc2
          have HBd := Lib.hid hbd
          have HBe := Lib.hid hbe
          have HSt1 := Lib.hid hSt
          have HAlk := Lib.hid hAl
          have HSd := Lib.hid hsd
          have HSe := Lib.hid hse
          have HBw := Lib.hid hbw
          clear hbd hbe hSt hAl hsd hse hbw hc0 hc1 hc2 ho HSt
          go_wp2_with fail
          obtain ⟨Wd8, hWd8⟩ : ∃ W, W = (wr.alloc (.cells #[.int .i64 kind, .int .i64 v, .string s] 45)).drew := ⟨_, rfl⟩
          have hb8 : Below wr.heap.size wr Wd8 := by rw [hWd8]; exact ((Below.refl _ wr).alloc (Nat.le_refl _) _).drew
          have hx8 : Wd8.heap[wr.heap.size]? = some (.cells #[.int .i64 kind, .int .i64 v, .string s] 45 (0, 0)) := by rw [hWd8]; exact heap_alloc_new wr _
          have hlx8 := lt_of_heap hx8
          have HSS8 := Lib.hid (fun (w' : World) (hb : Below Wd8.heap.size Wd8 w') => show w'.cell? ⟨wr.heap.size, 0, none⟩ = some (.int .i64 kind) ∧ w'.cell? ⟨wr.heap.size, 1, none⟩ = some (.int .i64 v) ∧ w'.cell? ⟨wr.heap.size, 2, none⟩ = some (.string s) from by
            have hx := (hb.block _ hlx8).trans hx8
            exact ⟨by rw [cell_of_row w' _ 0 _ _ (0, 0) hx]; rfl, by rw [cell_of_row w' _ 1 _ _ (0, 0) hx]; rfl, by rw [cell_of_row w' _ 2 _ _ (0, 0) hx]; rfl⟩)
          have HSx8 := Lib.hid (HSS8.out Wd8 (Below.refl _ _))
          have HSt8 := Lib.hid (HSt1.out.below hb8)
          have HD8 := Lib.hid (fun (w' : World) (hb : Below Wd8.heap.size Wd8 w') => does_any kind v s Ld1 d T w' (HSt8.out.below hb).own1.1 (tab_below HT.out (HSt8.out.below hb).own1.2.2) (HSd.out.fit (by omega)) ((HSt8.out.below hb).own1.zero HT.out) hsz)
          rw [HBd.out] at HD8
          have HX8 := Lib.hid hx8
          have HNf8 := Lib.hid (show ¬ foot Ld1 d wr.heap.size from fun h => by have := HSt1.out.own1.1.lt h; omega)
          have HNf9 := Lib.hid (show ¬ foot Le1 e wr.heap.size from fun h => by have := HSt1.out.own2.1.lt h; omega)
          have HWd8 := Lib.hid hWd8
          clear hWd8 hb8 hx8 r0 r1 r2
          refine start_ (n := 4) (S := fun w' => w'.cell? ⟨wr.heap.size, 0, none⟩ = some (.int .i64 kind) ∧ w'.cell? ⟨wr.heap.size, 1, none⟩ = some (.int .i64 v) ∧ w'.cell? ⟨wr.heap.size, 2, none⟩ = some (.string s)) (ds := [3]) #[false, false, false, false] (by kernel_rfl) rfl rfl (by rw [← HWd8.out]; exact HSx8.out) (fun hHeld => ?_)
          rw [← HWd8.out] at hHeld ⊢
          refine pure_ (i := 0) (N := some 49) (v := ?_) (a' := ?_) #[true, false, false, false] rfl rfl (by kernel_rfl) (fun _ _ _ h => h) (Or.inl ⟨by rfl, ?_⟩) ?_ ?_
          rotate_left
          · intro w'
            go_simp
            with_reducible rfl
          rotate_left
          · simp only [Act.put, List.setIfInBounds_toArray, List.set_cons_zero, List.set_cons_succ, i64_w, i32_w]
            rfl
          refine take_ (i := 2) (N := some 51) (v := ?_) (a' := ?_) #[true, false, true, false] rfl rfl (by kernel_rfl) (fun _ _ _ h => h) (Or.inl ⟨by rfl, ?_⟩) hHeld ?_ ?_
          rotate_left
          · rintro w' ⟨s0, s1, s2⟩
            go_simp
            with_reducible rfl
          rotate_left
          · simp only [Act.put, List.setIfInBounds_toArray, List.set_cons_zero, List.set_cons_succ, i64_w, i32_w]
            rfl
          refine one_ (i := 1) (N := some 50) #[true, true, true, false] rfl rfl (by kernel_rfl) (by decide) (fun K hK => ?_)
          refine goes_ Tryd.func18 (by kernel_rfl) rfl #[] (by rfl) rfl rfl (by first | rfl | simp) ?_
          refine (rnew_any _).mono ?_
          rintro ee w5 ⟨rfl, hb5⟩
          have HB8 := Lib.hid hb5
          clear hb5
          refine ⟨_, rfl, ?_⟩
          refine hK.out _ _ (HSS8.out _ HB8.out) (fun hHeld => ?_)
          clear hK K
          refine norm_ (a' := ?_) ?_ ?_
          rotate_left
          · simp only [Act.put, List.setIfInBounds_toArray, List.set_cons_zero, List.set_cons_succ, i64_w, i32_w]
            rfl
          refine last_ (i := 3) (N := some 52) #[true, true, true, true] rfl rfl (by kernel_rfl) (by decide) (fun K hK => ?_)
          refine goes_ Tryd.func17 (by kernel_rfl) rfl #[.pointer (some ⟨Ld.bp, 0, none⟩), refV (.slice none 0 0) 4 0, .agg #[.int .i64 kind, .int .i64 v, .string s]] (by rfl) rfl rfl (by (try simp only [List.map_toArray, List.map_cons, List.map_nil]); first | done | rfl) ?_
          refine (HD8.out _ HB8.out).mono ?_
          rintro ee w6 ⟨⟨r8, bb8, rfl⟩, hA⟩
          have HA8 := Lib.hid hA
          clear hA
          refine ⟨_, rfl, ?_⟩
          refine hK.out _ _ ?_
          clear hK K
          refine done_ (by kernel_rfl) ?_
          obtain ⟨Ld2, hbd2, hS6⟩ := (HSt8.out.below HB8.out).left HA8.out
          have hx6 : w6.heap[wr.heap.size]? = some (.cells #[.int .i64 kind, .int .i64 v, .string s] 45 (0, 0)) := (HA8.out.blk (Nat.lt_of_lt_of_le hlx8 HB8.out.size) HNf8.out).trans ((HB8.out.block _ hlx8).trans HX8.out)
          have HBd2 := Lib.hid (hbd2.trans HBd.out)
          clear hbd2 hHeld HD8 HSS8 HSx8
          go_wp2_with fail
          obtain ⟨Wd9, hWd9⟩ : ∃ W, W = w6.drew := ⟨_, rfl⟩
          have hb9 : Below w6.heap.size w6 Wd9 := by rw [hWd9]; exact (Below.refl _ w6).drew
          have hx9 : Wd9.heap[wr.heap.size]? = some (.cells #[.int .i64 kind, .int .i64 v, .string s] 45 (0, 0)) := (hb9.block _ (lt_of_heap hx6)).trans hx6
          have hlx9 := lt_of_heap hx9
          have HSS9 := Lib.hid (fun (w' : World) (hb : Below Wd9.heap.size Wd9 w') => show w'.cell? ⟨wr.heap.size, 0, none⟩ = some (.int .i64 kind) ∧ w'.cell? ⟨wr.heap.size, 1, none⟩ = some (.int .i64 v) ∧ w'.cell? ⟨wr.heap.size, 2, none⟩ = some (.string s) from by
            have hx := (hb.block _ hlx9).trans hx9
            exact ⟨by rw [cell_of_row w' _ 0 _ _ (0, 0) hx]; rfl, by rw [cell_of_row w' _ 1 _ _ (0, 0) hx]; rfl, by rw [cell_of_row w' _ 2 _ _ (0, 0) hx]; rfl⟩)
          have HSx9 := Lib.hid (HSS9.out Wd9 (Below.refl _ _))
          have HSt9 := Lib.hid (hS6.below hb9)
          have HD9 := Lib.hid (fun (w' : World) (hb : Below Wd9.heap.size Wd9 w') => does_any kind v s Le1 e T w' (HSt9.out.below hb).own2.1 (tab_below HT.out (HSt9.out.below hb).own2.2.2) (HSe.out.fit (by omega)) ((HSt9.out.below hb).own2.zero HT.out) hsz)
          rw [HBe.out] at HD9
          have HWd9 := Lib.hid hWd9
          clear hWd9 hb9 hx9 hx6 hS6 hlx8
          refine start_ (n := 4) (S := fun w' => w'.cell? ⟨wr.heap.size, 0, none⟩ = some (.int .i64 kind) ∧ w'.cell? ⟨wr.heap.size, 1, none⟩ = some (.int .i64 v) ∧ w'.cell? ⟨wr.heap.size, 2, none⟩ = some (.string s)) (ds := [3]) #[false, false, false, false] (by kernel_rfl) rfl rfl (by rw [← HWd9.out]; exact HSx9.out) (fun hHeld => ?_)
          rw [← HWd9.out] at hHeld ⊢
          refine pure_ (i := 0) (N := some 53) (v := ?_) (a' := ?_) #[true, false, false, false] rfl rfl (by kernel_rfl) (fun _ _ _ h => h) (Or.inl ⟨by rfl, ?_⟩) ?_ ?_
          rotate_left
          · intro w'
            go_simp
            with_reducible rfl
          rotate_left
          · simp only [Act.put, List.setIfInBounds_toArray, List.set_cons_zero, List.set_cons_succ, i64_w, i32_w]
            rfl
          refine take_ (i := 2) (N := some 55) (v := ?_) (a' := ?_) #[true, false, true, false] rfl rfl (by kernel_rfl) (fun _ _ _ h => h) (Or.inl ⟨by rfl, ?_⟩) hHeld ?_ ?_
          rotate_left
          · rintro w' ⟨s0, s1, s2⟩
            go_simp
            with_reducible rfl
          rotate_left
          · simp only [Act.put, List.setIfInBounds_toArray, List.set_cons_zero, List.set_cons_succ, i64_w, i32_w]
            rfl
          refine one_ (i := 1) (N := some 54) #[true, true, true, false] rfl rfl (by kernel_rfl) (by decide) (fun K hK => ?_)
          refine goes_ Tryd.func18 (by kernel_rfl) rfl #[] (by rfl) rfl rfl (by first | rfl | simp) ?_
          refine (rnew_any _).mono ?_
          rintro ee w7 ⟨rfl, hb5⟩
          have HB9 := Lib.hid hb5
          clear hb5
          refine ⟨_, rfl, ?_⟩
          refine hK.out _ _ (HSS9.out _ HB9.out) (fun hHeld => ?_)
          clear hK K
          refine norm_ (a' := ?_) ?_ ?_
          rotate_left
          · simp only [Act.put, List.setIfInBounds_toArray, List.set_cons_zero, List.set_cons_succ, i64_w, i32_w]
            rfl
          refine last_ (i := 3) (N := some 56) #[true, true, true, true] rfl rfl (by kernel_rfl) (by decide) (fun K hK => ?_)
          refine goes_ Tryd.func17 (by kernel_rfl) rfl #[.pointer (some ⟨Le.bp, 0, none⟩), refV (.slice none 0 0) 4 0, .agg #[.int .i64 kind, .int .i64 v, .string s]] (by rfl) rfl rfl (by (try simp only [List.map_toArray, List.map_cons, List.map_nil]); first | done | rfl) ?_
          refine (HD9.out _ HB9.out).mono ?_
          rintro ee w8 ⟨⟨r9, bb9, rfl⟩, hA⟩
          have HA9 := Lib.hid hA
          clear hA
          refine ⟨_, rfl, ?_⟩
          refine hK.out _ _ ?_
          clear hK K
          refine done_ (by kernel_rfl) ?_
          obtain ⟨Le2, hbe2, hS8⟩ := (HSt9.out.below HB9.out).right HA9.out
          have HBe2 := Lib.hid (hbe2.trans HBe.out)
          have HSt10 := Lib.hid hS8
          have HAl2 := Lib.hid (HAlk.out.op (T := T) HSd.out.inv HSe.out.inv kind v s.data.toList)
          have HSd2 := Lib.hid (HSd.out.op (by omega) kind v s.data.toList (by simpa using hsz))
          have HSe2 := Lib.hid (HSe.out.op (by omega) kind v s.data.toList (by simpa using hsz))
          clear hbe2 hS8 hHeld HD9 HSS9 HSx9
          by_cases hk2 : k < n2
          · have hdk2 : decide ((k : Int) < (n2 : Int)) = true := decide_eq_true (by omega)
            have ha : ats[k]? = some ats[k] := List.getElem?_eq_getElem (by rw [← HN2.out]; exact hk2)
            obtain ⟨b2, off2, rfl, hbl2, hca⟩ := HA2.out k _ ha
            generalize ats[k] = av at ha hca
            have hca8 := (HSt10.out.own1.2.2.cell (p := ⟨b2, off2 + k, none⟩) hbl2).trans hca
            clear ha hca
            have hd1 : (opD T d kind v s.data.toList) = opD T d kind v s.data.toList := rfl
            generalize opD T d kind v s.data.toList = d' at HSt10 HAl2 HSd2
            generalize opD T e kind v s.data.toList = e' at HSt10 HAl2 HSe2
            clear hd1 HA8 HA9 HSt9
            go_wp2_with fail
            clear hca8
            obtain ⟨mm, hmm, hm20⟩ : ∃ mm : Nat, max (min av 20) 0 = (mm : Int) ∧ mm ≤ 20 := ⟨(max (min av 20) 0).toNat, by omega, by omega⟩
            rw [hmm]
            clear hmm
            go_loopw [67] (fun i w3 => ∃ (q : Nat) (Le3 : Lo) (e3 : D Int), q ≤ mm ∧ i = .int .i64 (q : Int) ∧ Le3.bp = Le.bp ∧ St w w3 Ld2 d' Le3 e3 ∧ Alike d' e3 ∧ Small T (k + 1) e3) (fun i _ => mm - (intOf i).toNat)
            case atStart => exact ⟨0, Le2, e', Nat.zero_le _, rfl, HBe2.out, HSt10.out, HAl2.out, HSe2.out⟩
            case round =>
              obtain ⟨q, Le3, e3, hq, rfl, hbe3, hSt3, hAl3, hSe3⟩ := hrel
              by_cases hql : q < mm
              · have hdq : decide ((q : Int) < (mm : Int)) = true := decide_eq_true (by omega)
                have HC := Lib.hid (step_any Le3 e3 T wr hSt3.own2.1 (tab_below HT.out hSt3.own2.2.2) (hSe3.fit (by omega)) (hSt3.own2.zero HT.out))
                rw [hbe3] at HC
                have HSt3 := Lib.hid hSt3
                have HAl3 := Lib.hid (hAl3.step hSe3.inv)
                have HSe3 := Lib.hid hSe3.step
                have HBe3 := Lib.hid hbe3
                clear hSt3 hAl3 hSe3 hbe3
                go_wp2_with fail
                refine HC.out.mono ?_
                rintro ee w9 ⟨rfl, hA⟩
                obtain ⟨Le4, hbe4, hS4⟩ := HSt3.out.right hA
                have HR := Lib.hid (show _ ∧ _ ∧ _ ∧ _ from ⟨hbe4.trans HBe3.out, hS4, HAl3.out, HSe3.out⟩)
                clear hA hbe4 hS4
                go_wp2_with fail
                go_roundw
                case rel => exact ⟨q + 1, Le4, _, by omega, by go_num, HR.out⟩
                case measure => simp [intOf]; omega
              · have hqe : q = mm := by omega
                subst hqe
                have HR := Lib.hid (show Lp T w Ld.bp Le.bp (k + 1) wr from ⟨Ld2, Le3, d', e3, HBd2.out, hbe3, hSt3, hAl3, HSd2.out, hSe3⟩)
                clear hSt3 hAl3 hSe3 hbe3
                go_wp2_with fail
                go_roundw
                case rel => exact ⟨k + 1, by omega, by go_num, HR.out⟩
                case measure => simp [intOf]; omega
          · have hdk2 : decide ((k : Int) < (n2 : Int)) = false := decide_eq_false (by omega)
            have HR := Lib.hid (show Lp T w Ld.bp Le.bp (k + 1) w8 from ⟨Ld2, Le2, _, _, HBd2.out, HBe2.out, HSt10.out, HAl2.out, HSd2.out, HSe2.out⟩)
            go_wp2_with fail
            go_roundw
            case rel => exact ⟨k + 1, by omega, by go_num, HR.out⟩
            case measure => simp [intOf]; omega
        · have hke : k = n1 := by omega
          subst hke
          clear HSt
          obtain ⟨Ld1, Le1, d, e, hbd, hbe, hSt, hAl, hsd, hse⟩ := hLp
          have hfd := hsd.fit (by omega)
          have hfe := hse.fit (by omega)
          have HNd := Lib.hid (names2_any Ld1 d T wr hSt.own1.1 hfd)
          have HNe := Lib.hid (fun w' (hb : Below wr.heap.size wr w') => names2_any Le1 e T w' (hSt.own2.1.below hb) hfe)
          have HNd2 := Lib.hid (fun w' (hb : Below wr.heap.size wr w') => names2_any Ld1 d T w' (hSt.own1.1.below hb) hfd)
          have HLd := Lib.hid (fun w' (hb : Below wr.heap.size wr w') => len_any Ld1 d w' (hSt.own1.1.below hb))
          have HLe := Lib.hid (fun w' (hb : Below wr.heap.size wr w') => len_any Le1 e w' (hSt.own2.1.below hb))
          have HGd := Lib.hid (fun w' (hb : Below wr.heap.size wr w') (s : ByteArray) (hs : s.size ≤ 140737488351232) => get_any s Ld1 d T w' (hSt.own1.1.below hb) (tab_below HT.out (hSt.own1.2.2.trans (hb.mono hSt.own1.2.2.size))) hsd.inv.pos hs (by have := hsd.now; omega) (by have := hsd.old; omega) (fun r hr => by have := hfd.room (.inl hr); omega) (fun r hr => by have := hfd.room (.inr hr); omega))
          have HGe := Lib.hid (fun w' (hb : Below wr.heap.size wr w') (s : ByteArray) (hs : s.size ≤ 140737488351232) => get_any s Le1 e T w' (hSt.own2.1.below hb) (tab_below HT.out (hSt.own1.2.2.trans (hb.mono hSt.own1.2.2.size))) hse.inv.pos hs (by have := hse.now; omega) (by have := hse.old; omega) (fun r hr => by have := hfe.room (.inl hr); omega) (fun r hr => by have := hfe.room (.inr hr); omega))
          rw [hbd] at HNd HNd2 HLd HGd
          rw [hbe] at HNe HLe HGe
          have hnm : sn e = sn d := (hAl.names hsd.inv hse.inv).symm
          have hmm : e.many = d.many := (hAl.many hsd.inv hse.inv).symm
          rw [hnm] at HNe
          rw [hmm] at HLe
          have hsl := sn_le hsd (by omega)
          have HGet := Lib.hid (fun (q : Nat) (nm : Nm) (hq : (sn d)[q]? = some nm) => show (⟨nm.toArray⟩ : ByteArray).size ≤ 140737488351232 ∧ ∃ gv, Dm.get (hsh T) d (⟨nm.toArray⟩ : ByteArray).data.toList = some gv ∧ Dm.get (hsh T) e (⟨nm.toArray⟩ : ByteArray).data.toList = some gv from by
            have hm := sn_mem (List.mem_of_getElem? hq)
            obtain ⟨gv, hg⟩ := get_some_of_name hsd.inv hm
            obtain ⟨x, hx, rfl⟩ := List.mem_map.1 hm
            refine ⟨by simpa [ByteArray.size] using hsd.names x hx, gv, by simpa using hg, ?_⟩
            have := hAl.get hsd.inv hse.inv x.1
            rw [hg] at this
            simpa using this.symm)
          have HBw := Lib.hid hSt.own1.2.2
          clear hnm hmm hSt hAl hsd hse hfd hfe hbd hbe
          generalize sn d = ns at HNd HNe HNd2 HGet hsl
          generalize d.many = dm at HLd HLe
          have hdm : ((dm : Int) == (dm : Int)) = true := by simp
          go_wp2_with fail
          refine HNd.out.mono ?_
          rintro ee wa ⟨v1, rfl, ho1, hb1⟩
          have HO1 := Lib.hid ho1
          clear ho1
          go_wp2_with fail
          refine (HNe.out wa hb1).mono ?_
          rintro ee wb ⟨v2, rfl, ho2, hb2⟩
          have HSm := Lib.hid ((rsame_any v1 v2 ns ns wb (HO1.out.below hb2) ho2 (by omega) (by omega)).mono (R' := fun ee w' => ee = .returned (.bool true) ∧ Below wb.heap.size wb w') (fun ee w' h => ⟨by rw [h.1]; simp, h.2⟩))
          have hb12 := hb1.trans (hb2.mono hb1.size)
          clear ho2 hb1 hb2 HO1
          go_wp2_with fail
          refine HSm.out.mono ?_
          rintro ee wc ⟨rfl, hb3⟩
          have hb13 := hb12.trans (hb3.mono hb12.size)
          clear hb12 hb3
          go_wp2_with fail
          refine (HLd.out wc hb13).mono ?_
          rintro ee wd ⟨rfl, rfl⟩
          go_wp2_with fail
          refine (HLe.out wc hb13).mono ?_
          rintro ee wd ⟨rfl, rfl⟩
          go_wp2_with fail
          refine (HNd2.out wc hb13).mono ?_
          rintro ee wx ⟨v3, rfl, ho3, hb4⟩
          have hbx := hb13.trans (hb4.mono hb13.size)
          have HBx := Lib.hid hbx
          obtain ⟨A3, c3, rfl, hA3⟩ := ho3
          have HA3 := Lib.hid hA3
          clear hb13 hb4 hA3 hbx
          go_wp2_with fail
          go_loopw [89] (fun i w3 => ∃ (q : Nat), q ≤ ns.length ∧ i = .int .i64 (q : Int) ∧ Below wx.heap.size wx w3) (fun i _ => ns.length - (intOf i).toNat)
          case atStart => exact ⟨0, Nat.zero_le _, rfl, Below.refl _ _⟩
          case round =>
            obtain ⟨q, hq, rfl, hbq⟩ := hrel
            by_cases hql : q < ns.length
            · have hn : ns[q]? = some ns[q] := List.getElem?_eq_getElem hql
              generalize ns[q] = nm at hn
              obtain ⟨g, rfl, hcg, hgl⟩ := HA3.out q nm hn
              obtain ⟨hsz, gv, hg1, hg2⟩ := HGet.out q nm hn
              have hcq := (hbq.cell (p := ⟨g, q, none⟩) hgl).trans hcg
              simp only [encStr] at hcq
              have hbr := HBx.out.trans (hbq.mono HBx.out.size)
              have HC1 := Lib.hid (fun w' (hb : Below _ wr w') => HGd.out w' (hbr.trans (hb.mono hbr.size)) ⟨nm.toArray⟩ hsz)
              have HC2 := Lib.hid (fun w' (hb : Below _ wr w') => HGe.out w' (hbr.trans (hb.mono hbr.size)) ⟨nm.toArray⟩ hsz)
              rw [hg1] at HC1
              rw [hg2] at HC2
              have HBq := Lib.hid hbq
              have hgv : (gv == gv) = true := by simp
              clear hbr hbq hcg hn hg1 hg2 hsz
              go_wp2_with fail
              refine (HC1.out wr (Below.refl _ _)).mono ?_
              rintro ee wy ⟨rfl, hb5⟩
              go_wp2_with fail
              refine (HC2.out wy hb5).mono ?_
              rintro ee wz ⟨rfl, hb6⟩
              have HR := Lib.hid (HBq.out.trans ((hb5.trans (hb6.mono hb5.size)).mono HBq.out.size))
              clear hb5 hb6
              go_wp2_with fail
              go_roundw
              case rel => exact ⟨q + 1, by omega, by go_num, HR.out⟩
              case measure => simp [intOf]; omega
            · have hqe : q = ns.length := by omega
              subst hqe
              have hbf := HBw.out.trans ((HBx.out.trans (hbq.mono HBx.out.size)).mono HBw.out.size)
              have HAf := Lib.hid (HAl.out wr hbf)
              have HBf := Lib.hid hbf
              clear hbf hbq
              go_wp2_with fail
              refine HAf.out.mono ?_
              rintro ee wy ⟨rfl, hb5⟩
              go_wp2_with fail
              go_ret
              exact ⟨rfl, HBf.out.trans (hb5.mono HBf.out.size)⟩
end Go.Proofs.YtflndbgaidhbaaaDoor
