/-
  DictOrder: what its two dicts hold, and its walk. Conditions: those that each theorem states.
-/
import Derived.Test.YtflndbgaidhbaaaDoorP1S
import Derived.Deep.Upon
namespace Go.Proofs.YtflndbgaidhbaaaDoor.Str
open Go.RowKit Go.Deep Dm Go.Proofs.YtflndbgaidhbaaaDoorW.PrintLast

/-- A name's value. -/
def vv (n : Nm) : Nm := 118 :: n
/-- A dict behind the first k puts of a list. -/
def Puts (T : Nat → Int) (l : List Nm) (k : Nat) (d : D Nm) : Prop := Small T k d ∧ ∀ x, x ∈ d.cont ↔ ∃ n, n ∈ l.take k ∧ x = (n, vv n)
theorem Puts.start (T : Nat → Int) (l : List Nm) : Puts T l 0 (Dm.new : D Nm) := ⟨Small.new T, fun x => by simp [Dm.new, D.cont]⟩
theorem Puts.next {T : Nat → Int} {l : List Nm} {k : Nat} {d : D Nm} (h : Puts T l k d) (hk : k ≤ 1000) {n : Nm} (hn : l[k]? = some n) (hs : n.length ≤ 140737488351232) : Puts T l (k + 1) (Dm.put (hsh T) d n (vv n)) := by
  obtain ⟨h1, h2⟩ := h
  obtain ⟨hl, rfl⟩ := List.getElem?_eq_some_iff.1 hn
  refine ⟨h1.put hk _ _ hs, fun x => ?_⟩
  rw [put_mem _ h1.inv, h2 x, List.take_succ_eq_append_getElem hl]
  constructor
  · rintro (rfl | ⟨⟨m, hm, rfl⟩, _⟩)
    · exact ⟨_, List.mem_append_right _ (List.mem_singleton.2 rfl), rfl⟩
    · exact ⟨m, List.mem_append_left _ hm, rfl⟩
  · rintro ⟨m, hm, rfl⟩
    by_cases e : m = l[k]
    · left; rw [e]
    · right
      refine ⟨⟨m, ?_, rfl⟩, e⟩
      rcases List.mem_append.1 hm with h | h
      · exact h
      · exact absurd (List.mem_singleton.1 h) e
theorem Puts.alike {T : Nat → Int} {l m : List Nm} {d e : D Nm} (hd : Puts T l l.length d) (he : Puts T m m.length e) (h : ∀ x, x ∈ l ↔ x ∈ m) : Alike d e := by
  intro x
  rw [hd.2 x, he.2 x, List.take_length, List.take_length]
  constructor
  · rintro ⟨n, hn, e⟩; exact ⟨n, (h n).1 hn, e⟩
  · rintro ⟨n, hn, e⟩; exact ⟨n, (h n).2 hn, e⟩
theorem Puts.get {T : Nat → Int} {l : List Nm} {d : D Nm} (hd : Puts T l l.length d) {n : Nm} (hn : n ∈ l) : Dm.get (hsh T) d n = some (vv n) :=
  (get_mem _ hd.1.inv _ _).2 ((hd.2 _).2 ⟨n, by rw [List.take_length]; exact hn, rfl⟩)

theorem swap_mem {l : List Nm} {i j : Nat} {x y : Nm} (hx : l[i]? = some x) (hy : l[j]? = some y) (z : Nm) : z ∈ (l.set i y).set j x ↔ z ∈ l := by
  have hi := (List.getElem?_eq_some_iff.1 hx).1
  have hj := (List.getElem?_eq_some_iff.1 hy).1
  rw [List.mem_iff_getElem?, List.mem_iff_getElem?]
  constructor
  · rintro ⟨k, hk⟩
    rw [List.getElem?_set] at hk
    by_cases e : j = k
    · rw [if_pos e, if_pos (by simpa using hj)] at hk
      exact ⟨i, hx.trans hk⟩
    · rw [if_neg e, List.getElem?_set] at hk
      by_cases e2 : i = k
      · rw [if_pos e2, if_pos hi] at hk
        exact ⟨j, hy.trans hk⟩
      · rw [if_neg e2] at hk
        exact ⟨k, hk⟩
  · rintro ⟨k, hk⟩
    by_cases hki : k = i
    · subst hki
      obtain rfl : x = z := Option.some.inj (hx.symm.trans hk)
      exact ⟨j, by rw [List.getElem?_set, if_pos rfl, if_pos (by simpa using hj)]⟩
    · by_cases hkj : k = j
      · subst hkj
        obtain rfl : y = z := Option.some.inj (hy.symm.trans hk)
        by_cases e : i = k
        · exact absurd e.symm hki
        · exact ⟨i, by rw [List.getElem?_set, if_neg (fun h => e h.symm), List.getElem?_set, if_pos rfl, if_pos hi]⟩
      · exact ⟨k, by rw [List.getElem?_set, if_neg (fun h => hkj h.symm), List.getElem?_set, if_neg (fun h => hki h.symm)]; exact hk⟩

/-- Strings that came in. -/
def StrsAt (w : World) (v : Value) (ns : List Nm) : Prop := ∃ A c, v = .slice A ns.length c ∧ ∀ (j : Nat) (s : Nm), ns[j]? = some s → ∃ b off, A = some ⟨b, off, none⟩ ∧ b < w.heap.size ∧ w.cell? ⟨b, off + j, none⟩ = some (.string ⟨s.toArray⟩)
def IntsAt (w : World) (v : Value) (l : List Int) : Prop := ∃ A c, v = .slice A l.length c ∧ ∀ (j : Nat) (o : Int), l[j]? = some o → ∃ b off, A = some ⟨b, off, none⟩ ∧ b < w.heap.size ∧ w.cell? ⟨b, off + j, none⟩ = some (.int .i64 o)

theorem wpList_append_strs {ops : Array Oper} {rest : List Oper} {o : Oper} {a : Act} {Q : Exit → Act → World → Prop} (hgd : o.guard = none) (s x : Operand)
    (ho : o.op = .call { callee := .builtin .append, args := #[s, x], argTypes := #[22, 22] }) (w : World) (base : Nat) (v : Value) (hs : a.eval s = v) (hown : w.ownsRow base 9 1 v 0 [])
    (A : Option Addr) (c : Nat) (ns : List Nm) (hx : a.eval x = .slice A ns.length c) (hc : ∀ (j : Nat) (s : Nm), ns[j]? = some s → ∃ b off, A = some ⟨b, off, none⟩ ∧ w.cell? ⟨b, off + j, none⟩ = some (.string ⟨s.toArray⟩))
    (hl : ns.length ≤ 1000) (hbase : base ≤ w.heap.size)
    (h : ∀ v' w', w'.ownsRow base 9 1 v' ns.length (ns.map encStr) → w.grownBy w' v.ownBlock → wpList Tryd.prog ops Q rest (a.put o.dst v') w') : wpList Tryd.prog ops Q (o :: rest) a w := by
  obtain ⟨i0, hi0, hz0, hz1, hz2⟩ := info_parts info9
  cases A with
  | none =>
    have hns : ns = [] := by
      cases ns with
      | nil => rfl
      | cons x l => obtain ⟨b, off, e, _⟩ := hc 0 x rfl; cases e
    subst hns
    obtain ⟨B, cp, rfl⟩ : ∃ B cp, v = .slice B 0 cp := by
      rcases hown.2 with ⟨rfl, _⟩ | ⟨g, cap, cur, rfl, _⟩
      · exact ⟨_, _, rfl⟩
      · exact ⟨_, _, rfl⟩
    have hrun := run_append_nothing (P := Tryd.prog) w 22 22 o.type 9 i0 Tryd.underlying22 hi0 B 0 cp (Nat.zero_le _) (.slice none 0 c) (Src.ofNil w Tryd.underlying22 c)
    refine wpList_plain hgd fun _ hK => ?_
    unfold Oper.wp execOp
    simp only [ho, resolve, invoke, builtin, Sem.run_bind, Sem.run_pure, Result.andThen_ok, List.map_toArray, List.map_cons, List.map_nil, hs, hx, List.length_nil, hrun]
    exact hK _ _ (h _ w (by simpa using hown) (World.grownBy.refl _ _))
  | some ad =>
    refine wpList_append_own _ hgd s x 22 ho base 9 i0 _ 1 16 Tryd.underlying22 hi0 hz0 hz1 hz2 rfl (by decide) v 0 [] hs hown ad ns.length c (ns.map encStr) hx (by simp) (fun j u hj => ?_) (fun u hu => ?_) (by unfold maxLen; omega) (by omega) hbase (fun v' w' e1 e2 _ => h v' w' (by simpa using e1) e2)
    · rw [List.getElem?_map] at hj
      obtain ⟨s', hs', rfl⟩ := Option.map_eq_some_iff.1 hj
      obtain ⟨b, off, e, hcell⟩ := hc j s' hs'
      obtain rfl := Option.some.inj e
      rw [Addr.add_lit]
      exact hcell
    · obtain ⟨s', _, rfl⟩ := List.mem_map.1 hu
      rfl

theorem cat_vv (x : Nm) : ((⟨#[118]⟩ : ByteArray) ++ (⟨x.toArray⟩ : ByteArray)) = ⟨(vv x).toArray⟩ := by
  apply ByteArray.ext
  simp [vv, ByteArray.data_append]
/-- The loop of puts. -/
def Lq (T : Nat → Int) (w : World) (bd be : Nat) (ns lst : List Nm) (Av : Option Addr) (W4 : World) (k : Nat) (wr : World) : Prop := ∃ (Ld Le : Lo) (d e : D Nm), Ld.bp = bd ∧ Le.bp = be ∧ St w wr Ld d Le e ∧ Puts T ns k d ∧ Puts T lst k e ∧
  ∀ g cur, Av = some ⟨g, 0, none⟩ → W4.heap[g]? = some (.cells cur 9 (0, 0)) → wr.heap[g]? = some (.cells cur 9 (0, 0))
theorem foot_ty {w : World} {L : Lo} {d : D Nm} (h : DictAt KS w L d) {b : Nat} (hb : foot L d b) {cur : Array Value} {t : Nat} (hc : w.heap[b]? = some (.cells cur t (0, 0))) : t ≠ 9 := by
  have key : ∀ {c : Array Value} {t' : Nat}, w.heap[b]? = some (.cells c t' (0, 0)) → t = t' := fun h2 => by
    rw [hc] at h2
    injection h2 with h2
    injection h2 with _ h2
  rcases hb with rfl | rfl | ⟨ho, rfl⟩ | hb | hb
  · have e := key h.blk; rw [e]; decide
  · have e := key h.now.1; rw [e]; decide
  · have e := key (h.old ho).1; rw [e]; decide
  · obtain ⟨_, c, h2⟩ := h.now.lt hb; have e := key h2; rw [e]; decide
  · by_cases ho : d.old = []
    · rw [ho] at hb; exact absurd hb in_nil
    · obtain ⟨_, c, h2⟩ := (h.old ho).lt hb; have e := key h2; rw [e]; decide

set_option maxHeartbeats 12800000 in
set_option maxRecDepth 100000 in
theorem order_any (u1 u2 : Value) (ns : List Nm) (order : List Int) (T : Nat → Int) (w : World) (hT : Tab T w) (h1 : StrsAt w u1 ns) (h2 : IntsAt w u2 order)
    (hs : ∀ n ∈ ns, n.length ≤ 140737488351232) (hl1 : ns.length ≤ 9223372036854775807) (hl2 : order.length ≤ 9223372036854775807) :
    Calls Tryd.prog 3 #[u1, u2] w fun e w' => e = .returned (.bool true) ∧ Below w.heap.size w w' := by
  obtain ⟨A1, c1, rfl, hA1⟩ := h1
  obtain ⟨A2, c2, rfl, hA2⟩ := h2
  have HT := Lib.hid hT
  have HA1 := Lib.hid hA1
  have HA2 := Lib.hid hA2
  have HS := Lib.hid hs
  have HAl := Lib.hid (fun w' (hb : Below w.heap.size w w') => alive_any T w' (tab_below hT hb))
  obtain ⟨n1, hn1⟩ : ∃ n, n = ns.length := ⟨_, rfl⟩
  obtain ⟨n2, hn2⟩ : ∃ n, n = order.length := ⟨_, rfl⟩
  rw [← hn1] at hl1 ⊢
  rw [← hn2] at hl2 ⊢
  have HN1 := Lib.hid hn1
  have HN2 := Lib.hid hn2
  clear hT hA1 hA2 hs hn1 hn2
  go_enter Tryd.func3, Tryd.ntmps3
  go_wp2_with fail
  refine (new_any _).mono ?_
  rintro e w1 ⟨Ld, rfl, hd, hb, hf⟩
  have HO1 := Lib.hid (show Own w w1 Ld Dm.new from ⟨hd, hf, hb⟩)
  clear hd hb hf
  go_wp2_with fail
  refine (new_any _).mono ?_
  rintro e w2 ⟨Le, rfl, hd, hb, hf⟩
  have HSt := Lib.hid (show St w w2 Ld Dm.new Le Dm.new from ⟨HO1.out.below hb, ⟨hd, fun b hb' => Nat.le_trans HO1.out.2.2.size (hf b hb'), HO1.out.2.2.trans (hb.mono HO1.out.2.2.size)⟩, fun b h1 h2 => by have := HO1.out.1.lt h1; have := hf b h2; omega⟩)
  have HB2 := Lib.hid HSt.out.own1.2.2
  clear hd hb hf HO1
  by_cases hc1 : 300 < n1
  · have hg1 : decide ((n1 : Int) > 300) = true := decide_eq_true (by omega)
    have hg2 : decide (300 < (n1 : Int)) = true := decide_eq_true (by omega)
    go_wp2_with fail
    refine (HAl.out _ HB2.out).mono ?_
    rintro e w3 ⟨rfl, hb3⟩
    go_wp2_with fail
    go_ret
    exact ⟨rfl, HB2.out.trans (hb3.mono HB2.out.size)⟩
  · have hg1 : decide ((n1 : Int) > 300) = false := decide_eq_false (by omega)
    have hg2 : decide (300 < (n1 : Int)) = false := decide_eq_false (by omega)
    have hc1' : n1 ≤ 300 := by omega
    clear hc1 hl1
    go_wp2_with (at_builtin; refine wpList_append_strs rfl (.tmp 37) (.tmp 38) rfl _ w2.heap.size (.slice (some ⟨w2.heap.size, 0, none⟩) 0 0) ?q1 ?q2 A1 c1 ns ?q3 ?q4 ?q5 ?q6 ?_)
    try (case q1 => rfl)
    try (case q3 => rw [← HN1.out]; rfl)
    try (case q2 => exact World.ownsRow_made w2 #[] 0 (Nat.le_refl _) (Nat.zero_le _) rfl)
    case q4 =>
      intro j s hj
      obtain ⟨b, off, e, hb, hc⟩ := HA1.out j s hj
      exact ⟨b, off, e, (World.cell?_alloc_lt w2 _ ⟨b, off + j, none⟩ (Nat.lt_of_lt_of_le hb HB2.out.size)).trans ((HB2.out.cell (p := ⟨b, off + j, none⟩) hb).trans hc)⟩
    case q5 => have := HN1.out; omega
    case q6 => simp
    intro v' w3 hown hgr
    have hb23 : Below w2.heap.size w2 w3 := ((Below.refl _ w2).alloc (Nat.le_refl _) _).grown hgr (by simp) (by intro k hk; simp [Value.ownBlock] at hk; omega)
    obtain ⟨Av, cv, rfl⟩ : ∃ A c, v' = .slice A n1 c := by
      rcases hown.2 with ⟨rfl, e⟩ | ⟨g, cap, cur, rfl, _⟩
      · exact ⟨none, 0, by rw [HN1.out, e]⟩
      · exact ⟨_, _, by rw [HN1.out]⟩
    have HOwn := Lib.hid hown
    have HB3 := Lib.hid hb23
    clear hown hgr hb23
    go_wp2_with fail
    go_loopw [42] (fun i wr => ∃ (j : Nat) (lst : List Nm), j ≤ n2 ∧ i = .int .i64 (j : Int) ∧ (∀ x, x ∈ lst ↔ x ∈ ns) ∧ lst.length = n1 ∧ wr.ownsRow w2.heap.size 9 1 (.slice Av n1 cv) n1 (lst.map encStr) ∧ Below w2.heap.size w2 wr) (fun i _ => n2 - (intOf i).toNat)
    case atStart => exact ⟨0, ns, Nat.zero_le _, rfl, fun _ => Iff.rfl, HN1.out.symm, by rw [HN1.out] at HOwn ⊢; exact HOwn.out, HB3.out⟩
    case round =>
      obtain ⟨j, lst, hj, rfl, hMm⟩ := hrel
      have HM := Lib.hid hMm
      clear hMm
      by_cases hjl : j < n2
      · have ho : order[j]? = some order[j] := List.getElem?_eq_getElem (by rw [← HN2.out]; exact hjl)
        obtain ⟨b2, off2, rfl, hbl2, hca⟩ := HA2.out j _ ho
        generalize order[j] = av at ho hca
        have hcw := ((HM.out.2.2.2.cell (p := ⟨b2, off2 + j, none⟩) (Nat.lt_of_lt_of_le hbl2 HB2.out.size)).trans ((HB2.out.cell (p := ⟨b2, off2 + j, none⟩) hbl2))).trans hca
        have hdj : decide ((j : Int) < (n2 : Int)) = true := decide_eq_true (by omega)
        clear ho hca
        by_cases c1 : j < n1
        · have k1 : decide ((j : Int) < (n1 : Int)) = true := decide_eq_true (by omega)
          by_cases c2 : 0 ≤ av
          · have k2 : decide (av ≥ 0) = true := decide_eq_true (by omega)
            have k2' : decide (0 ≤ av) = true := decide_eq_true (by omega)
            by_cases c3 : av < n1
            · have k3 : decide (av < (n1 : Int)) = true := decide_eq_true (by omega)
              obtain ⟨m, rfl⟩ : ∃ m : Nat, av = (m : Int) := ⟨av.toNat, by omega⟩
              have hm : m < n1 := by omega
              obtain ⟨hmem, hlen, hrow, hbl⟩ := HM.out
              rcases hrow.2 with ⟨_, h0⟩ | ⟨g, cap, cur, he, hgB, hg, hle, hmx, hsz, htk⟩
              · omega
              injection he with he1 he2 he3
              subst he1 he3
              clear he2
              have hx : lst[j]? = some lst[j] := List.getElem?_eq_getElem (by omega)
              have hy : lst[m]? = some lst[m] := List.getElem?_eq_getElem (by omega)
              generalize lst[j] = x at hx
              generalize lst[m] = y at hy
              obtain ⟨Wd, hWd⟩ : ∃ W, W = wr.drew := ⟨_, rfl⟩
              have hrowd : Wd.ownsRow w2.heap.size 9 1 (.slice (some ⟨g, 0, none⟩) n1 cv) n1 (lst.map encStr) := by rw [hWd]; exact hrow
              have hgd : Wd.heap[g]? = some (.cells cur 9 (0, 0)) := by rw [hWd]; exact hg
              have s0 : Wd.cell? ⟨g, j, none⟩ = some (.string ⟨x.toArray⟩) := (hrowd.cellAt j (by omega)).trans (by rw [List.getElem?_map, hx]; rfl)
              have s1 : Wd.cell? ⟨g, m, none⟩ = some (.string ⟨y.toArray⟩) := (hrowd.cellAt m (by omega)).trans (by rw [List.getElem?_map, hy]; rfl)
              have hz1 : Wd.frozen? ⟨g, j, none⟩ = false := by simp [World.frozen?, hgd]
              have hgd2 := setCell_blk (i := j) hgd (.string ⟨y.toArray⟩)
              have hz2 : (Wd.setCell ⟨g, j, none⟩ (.string ⟨y.toArray⟩)).frozen? ⟨g, m, none⟩ = false := by simp [World.frozen?, hgd2]
              have s2 : ∃ q, (Wd.setCell ⟨g, j, none⟩ (.string ⟨y.toArray⟩)).cell? ⟨g, m, none⟩ = some q := by
                rw [cell_of_row _ _ m _ _ (0, 0) hgd2]
                exact ⟨_, Array.getElem?_eq_getElem (by simp; omega)⟩
              obtain ⟨q, s2⟩ := s2
              have hr2 := ((hrowd.stored j (.string ⟨y.toArray⟩)).1.stored m (.string ⟨x.toArray⟩)).1
              have HR := Lib.hid (show _ ∧ _ ∧ _ ∧ _ from ⟨fun z => (swap_mem hx hy z).trans (hmem z), (show ((lst.set j y).set m x).length = n1 by simp [hlen]), (show ((Wd.setCell ⟨g, j, none⟩ (.string ⟨y.toArray⟩)).setCell ⟨g, m, none⟩ (.string ⟨x.toArray⟩)).ownsRow w2.heap.size 9 1 (.slice (some ⟨g, 0, none⟩) n1 cv) n1 (((lst.set j y).set m x).map encStr) by rw [List.map_set, List.map_set]; exact hr2),
                (show Below w2.heap.size w2 ((Wd.setCell ⟨g, j, none⟩ (.string ⟨y.toArray⟩)).setCell ⟨g, m, none⟩ (.string ⟨x.toArray⟩)) by rw [hWd]; exact (hbl.drew.setCell (p := ⟨g, j, none⟩) hgB _).setCell (p := ⟨g, m, none⟩) hgB _)⟩)
              have HS0 := Lib.hid (show _ ∧ _ from ⟨s0, s1⟩)
              have HWd := Lib.hid hWd
              clear hWd hrowd hgd hgd2 hr2 hmem hlen hrow hbl hx hy hg hle hmx hsz htk HM
              go_wp2_with fail
              refine start_ (n := 16) (S := fun w' => w'.cell? ⟨g, j, none⟩ = some (.string ⟨x.toArray⟩) ∧ w'.cell? ⟨g, m, none⟩ = some (.string ⟨y.toArray⟩)) (ds := [13, 15]) #[false, false, false, false, false, false, false, false, false, false, false, false, false, false, false, false] (by kernel_rfl) rfl rfl (by rw [← HWd.out]; exact HS0.out) (fun hHeld => ?_)
              rw [← HWd.out] at hHeld ⊢
              refine pure_ (i := 0) (N := some 61) (v := ?_) (a' := ?_) #[true, false, false, false, false, false, false, false, false, false, false, false, false, false, false, false] rfl rfl (by kernel_rfl) (fun _ _ _ h => h) (Or.inl ⟨by rfl, ?_⟩) ?_ ?_
              rotate_left
              · intro w'
                go_simp
                with_reducible rfl
              rotate_left
              · simp only [Act.put, List.setIfInBounds_toArray, List.set_cons_zero, List.set_cons_succ, i64_w, i32_w]
                rfl
              refine pure_ (i := 1) (N := some 62) (v := ?_) (a' := ?_) #[true, true, false, false, false, false, false, false, false, false, false, false, false, false, false, false] rfl rfl (by kernel_rfl) (fun _ _ _ h => h) (Or.inl ⟨by rfl, ?_⟩) ?_ ?_
              rotate_left
              · intro w'
                go_simp
                with_reducible rfl
              rotate_left
              · simp only [Act.put, List.setIfInBounds_toArray, List.set_cons_zero, List.set_cons_succ, i64_w, i32_w]
                rfl
              refine pure_ (i := 2) (N := some 63) (v := ?_) (a' := ?_) #[true, true, true, false, false, false, false, false, false, false, false, false, false, false, false, false] rfl rfl (by kernel_rfl) (fun _ _ _ h => h) (Or.inl ⟨by rfl, ?_⟩) ?_ ?_
              rotate_left
              · intro w'
                go_simp
                with_reducible rfl
              rotate_left
              · simp only [Act.put, List.setIfInBounds_toArray, List.set_cons_zero, List.set_cons_succ, i64_w, i32_w]
                rfl
              refine pure_ (i := 3) (N := some 64) (v := ?_) (a' := ?_) #[true, true, true, true, false, false, false, false, false, false, false, false, false, false, false, false] rfl rfl (by kernel_rfl) (fun _ _ _ h => h) (Or.inl ⟨by rfl, ?_⟩) ?_ ?_
              rotate_left
              · intro w'
                go_simp
                with_reducible rfl
              rotate_left
              · simp only [Act.put, List.setIfInBounds_toArray, List.set_cons_zero, List.set_cons_succ, i64_w, i32_w]
                rfl
              refine pure_ (i := 4) (N := some 65) (v := ?_) (a' := ?_) #[true, true, true, true, true, false, false, false, false, false, false, false, false, false, false, false] rfl rfl (by kernel_rfl) (fun _ _ _ h => h) (Or.inl ⟨by rfl, ?_⟩) ?_ ?_
              rotate_left
              · intro w'
                go_simp
                with_reducible rfl
              rotate_left
              · simp only [Act.put, List.setIfInBounds_toArray, List.set_cons_zero, List.set_cons_succ, i64_w, i32_w]
                rfl
              refine pure_ (i := 5) (N := some 66) (v := ?_) (a' := ?_) #[true, true, true, true, true, true, false, false, false, false, false, false, false, false, false, false] rfl rfl (by kernel_rfl) (fun _ _ _ h => h) (Or.inl ⟨by rfl, ?_⟩) ?_ ?_
              rotate_left
              · intro w'
                go_simp
                with_reducible rfl
              rotate_left
              · simp only [Act.put, List.setIfInBounds_toArray, List.set_cons_zero, List.set_cons_succ, i64_w, i32_w]
                rfl
              refine pure_ (i := 6) (N := some 67) (v := ?_) (a' := ?_) #[true, true, true, true, true, true, true, false, false, false, false, false, false, false, false, false] rfl rfl (by kernel_rfl) (fun _ _ _ h => h) (Or.inl ⟨by rfl, ?_⟩) ?_ ?_
              rotate_left
              · intro w'
                go_simp
                with_reducible rfl
              rotate_left
              · simp only [Act.put, List.setIfInBounds_toArray, List.set_cons_zero, List.set_cons_succ, i64_w, i32_w]
                rfl
              refine take_ (i := 7) (N := some 68) (v := ?_) (a' := ?_) #[true, true, true, true, true, true, true, true, false, false, false, false, false, false, false, false] rfl rfl (by kernel_rfl) (fun _ _ _ h => h) (Or.inl ⟨by rfl, ?_⟩) hHeld ?_ ?_
              rotate_left
              · rintro w' ⟨s0, s1⟩
                go_simp
                with_reducible rfl
              rotate_left
              · simp only [Act.put, List.setIfInBounds_toArray, List.set_cons_zero, List.set_cons_succ, i64_w, i32_w]
                rfl
              refine pure_ (i := 8) (N := some 69) (v := ?_) (a' := ?_) #[true, true, true, true, true, true, true, true, true, false, false, false, false, false, false, false] rfl rfl (by kernel_rfl) (fun _ _ _ h => h) (Or.inl ⟨by rfl, ?_⟩) ?_ ?_
              rotate_left
              · intro w'
                go_simp
                with_reducible rfl
              rotate_left
              · simp only [Act.put, List.setIfInBounds_toArray, List.set_cons_zero, List.set_cons_succ, i64_w, i32_w]
                rfl
              refine pure_ (i := 9) (N := some 70) (v := ?_) (a' := ?_) #[true, true, true, true, true, true, true, true, true, true, false, false, false, false, false, false] rfl rfl (by kernel_rfl) (fun _ _ _ h => h) (Or.inl ⟨by rfl, ?_⟩) ?_ ?_
              rotate_left
              · intro w'
                go_simp
                with_reducible rfl
              rotate_left
              · simp only [Act.put, List.setIfInBounds_toArray, List.set_cons_zero, List.set_cons_succ, i64_w, i32_w]
                rfl
              refine pure_ (i := 10) (N := some 71) (v := ?_) (a' := ?_) #[true, true, true, true, true, true, true, true, true, true, true, false, false, false, false, false] rfl rfl (by kernel_rfl) (fun _ _ _ h => h) (Or.inl ⟨by rfl, ?_⟩) ?_ ?_
              rotate_left
              · intro w'
                go_simp
                with_reducible rfl
              rotate_left
              · simp only [Act.put, List.setIfInBounds_toArray, List.set_cons_zero, List.set_cons_succ, i64_w, i32_w]
                rfl
              refine take_ (i := 11) (N := some 72) (v := ?_) (a' := ?_) #[true, true, true, true, true, true, true, true, true, true, true, true, false, false, false, false] rfl rfl (by kernel_rfl) (fun _ _ _ h => h) (Or.inl ⟨by rfl, ?_⟩) hHeld ?_ ?_
              rotate_left
              · rintro w' ⟨s0, s1⟩
                go_simp
                with_reducible rfl
              rotate_left
              · simp only [Act.put, List.setIfInBounds_toArray, List.set_cons_zero, List.set_cons_succ, i64_w, i32_w]
                rfl
              refine pure_ (i := 12) (N := some 73) (v := ?_) (a' := ?_) #[true, true, true, true, true, true, true, true, true, true, true, true, true, false, false, false] rfl rfl (by kernel_rfl) (fun _ _ _ h => h) (Or.inl ⟨by rfl, ?_⟩) ?_ ?_
              rotate_left
              · intro w'
                go_simp
                with_reducible rfl
              rotate_left
              · simp only [Act.put, List.setIfInBounds_toArray, List.set_cons_zero, List.set_cons_succ, i64_w, i32_w]
                rfl
              refine last_ (i := 13) (N := none) #[true, true, true, true, true, true, true, true, true, true, true, true, true, true, false, false] rfl rfl (by kernel_rfl) (by decide) (fun K hK => ?_)
              refine skip_ (w1 := Wd.setCell ⟨g, j, none⟩ (.string ⟨y.toArray⟩)) (by rfl) rfl (by go_simp) ?_
              refine hK.out _ _ ?_
              clear hK K
              refine pure_ (i := 14) (N := some 74) (v := ?_) (a' := ?_) #[true, true, true, true, true, true, true, true, true, true, true, true, true, true, true, false] rfl rfl (by kernel_rfl) (fun _ _ _ h => h) (Or.inl ⟨by rfl, ?_⟩) ?_ ?_
              rotate_left
              · intro w'
                go_simp
                with_reducible rfl
              rotate_left
              · simp only [Act.put, List.setIfInBounds_toArray, List.set_cons_zero, List.set_cons_succ, i64_w, i32_w]
                rfl
              refine last_ (i := 15) (N := none) #[true, true, true, true, true, true, true, true, true, true, true, true, true, true, true, true] rfl rfl (by kernel_rfl) (by decide) (fun K hK => ?_)
              refine skip_ (w1 := (Wd.setCell ⟨g, j, none⟩ (.string ⟨y.toArray⟩)).setCell ⟨g, m, none⟩ (.string ⟨x.toArray⟩)) (by rfl) rfl (by go_simp) ?_
              refine hK.out _ _ ?_
              clear hK K
              refine done_ (by kernel_rfl) ?_
              go_wp2_with fail
              go_roundw
              case rel => exact ⟨j + 1, _, by omega, by go_num, HR.out⟩
              case measure => simp [intOf]; omega
            · have k3 : decide (av < (n1 : Int)) = false := decide_eq_false (by omega)
              go_wp2_with fail
              go_roundw
              case rel => exact ⟨j + 1, lst, by omega, by go_num, HM.out⟩
              case measure => simp [intOf]; omega
          · have k2 : decide (av ≥ 0) = false := decide_eq_false (by omega)
            have k2' : decide (0 ≤ av) = false := decide_eq_false (by omega)
            go_wp2_with fail
            go_roundw
            case rel => exact ⟨j + 1, lst, by omega, by go_num, HM.out⟩
            case measure => simp [intOf]; omega
        · have k1 : decide ((j : Int) < (n1 : Int)) = false := decide_eq_false (by omega)
          go_wp2_with fail
          go_roundw
          case rel => exact ⟨j + 1, lst, by omega, by go_num, HM.out⟩
          case measure => simp [intOf]; omega
      · have hje : j = n2 := by omega
        subst hje
        obtain ⟨hmem, hlen, hrow, hbl⟩ := HM.out
        have hSt4 := HSt.out.below hbl
        have hrw : ∀ (k : Nat) (x : Nm), lst[k]? = some x → ∃ g cur, Av = some ⟨g, 0, none⟩ ∧ wr.heap[g]? = some (.cells cur 9 (0, 0)) ∧ cur[k]? = some (.string ⟨x.toArray⟩) := by
          intro k x hx
          have hkl := (List.getElem?_eq_some_iff.1 hx).1
          rcases hrow.2 with ⟨_, h0⟩ | ⟨g, cap, cur, he, hgB, hg, hle, hmx, hsz, htk⟩
          · omega
          injection he with he1 _ _
          refine ⟨g, cur, he1, hg, ?_⟩
          have e := congrArg (fun l => l[k]?) htk
          simp only [List.getElem?_take, List.getElem?_map, hx, Option.map_some] at e
          rw [if_pos (by omega)] at e
          simpa using e
        obtain ⟨W4, hW4⟩ : ∃ W, W = wr := ⟨_, rfl⟩
        have HRw := Lib.hid (show ∀ (k : Nat) (x : Nm), lst[k]? = some x → ∃ g cur, Av = some ⟨g, 0, none⟩ ∧ W4.heap[g]? = some (.cells cur 9 (0, 0)) ∧ cur[k]? = some (.string ⟨x.toArray⟩) from by rw [hW4]; exact hrw)
        have HR4 := Lib.hid (show Lq T w Ld.bp Le.bp ns lst Av W4 0 wr from ⟨Ld, Le, _, _, rfl, rfl, hSt4, Puts.start T ns, Puts.start T lst, fun g cur _ h => by rw [hW4] at h; exact h⟩)
        have HMem := Lib.hid hmem
        have HLen := Lib.hid hlen
        clear hmem hlen hrow hbl hSt4 hrw hW4 HM HOwn HB3 HSt
        go_wp2_with fail
        go_loopw [78] (fun i wr => ∃ (k : Nat), k ≤ n1 ∧ i = .int .i64 (k : Int) ∧ Lq T w Ld.bp Le.bp ns lst Av W4 k wr) (fun i _ => n1 - (intOf i).toNat)
        case atStart => exact ⟨0, Nat.zero_le _, rfl, HR4.out⟩
        case round =>
          obtain ⟨k, hk, rfl, hL⟩ := hrel
          by_cases hkl : k < n1
          · obtain ⟨x, hx⟩ : ∃ x, ns[k]? = some x := ⟨_, List.getElem?_eq_getElem (by rw [← HN1.out]; exact hkl)⟩
            obtain ⟨y, hy⟩ : ∃ y, lst[k]? = some y := ⟨_, List.getElem?_eq_getElem (by rw [HLen.out]; exact hkl)⟩
            have hsx := HS.out x (List.mem_of_getElem? hx)
            have hsy := HS.out y ((HMem.out y).1 (List.mem_of_getElem? hy))
            obtain ⟨Ld1, Le1, d, e, hbd, hbe, hSt, hpd, hpe, hrk⟩ := hL
            obtain ⟨b, off, rfl, hbl, hcx⟩ := HA1.out k x hx
            obtain ⟨g, cur, rfl, hg4, hcy⟩ := HRw.out k y hy
            have hbw := hSt.own1.2.2
            have hcw := (hbw.cell (p := ⟨b, off + k, none⟩) hbl).trans hcx
            have hgw := hrk g cur rfl hg4
            have HBd := Lib.hid hbd
            have HBe := Lib.hid hbe
            have HSt1 := Lib.hid hSt
            have HPd := Lib.hid hpd
            have HPe := Lib.hid hpe
            have HXk := Lib.hid hx
            have HYk := Lib.hid hy
            have HGw := Lib.hid (show wr.heap[g]? = some (.cells cur 9 (0, 0)) from hgw)
            have HCy := Lib.hid hcy
            have hdk : decide ((k : Int) < (n1 : Int)) = true := decide_eq_true (by omega)
            have hlx : (9223372036854775807 < 1 + List.length x) = False := eq_false (by omega)
            have hly : (9223372036854775807 < 1 + List.length y) = False := eq_false (by omega)
            clear hbd hbe hSt hpd hpe hx hy hgw hcy hrk hbw hcx
            go_wp2_with fail
            obtain ⟨Wd8, hWd8⟩ : ∃ W, W = wr.drew := ⟨_, rfl⟩
            have hb8 : Below wr.heap.size wr Wd8 := by rw [hWd8]; exact (Below.refl _ wr).drew
            have HSx8 := Lib.hid (show Wd8.cell? ⟨b, off + k, none⟩ = some (.string ⟨x.toArray⟩) by rw [hWd8]; exact hcw)
            have HSt8 := Lib.hid (HSt1.out.below hb8)
            have HD8 := Lib.hid (put_any ⟨x.toArray⟩ (vv x) Ld1 d T Wd8 HSt8.out.own1.1 (tab_below HT.out HSt8.out.own1.2.2) (HPd.out.1.fit (by omega)) (HSt8.out.own1.zero HT.out) (by simpa [ByteArray.size] using hsx))
            rw [HBd.out] at HD8
            have HWd8 := Lib.hid hWd8
            clear hWd8 hcw
            refine start_ (n := 11) (S := fun w' => w'.cell? ⟨b, off + k, none⟩ = some (.string ⟨x.toArray⟩)) (ds := [10]) #[false, false, false, false, false, false, false, false, false, false, false] (by kernel_rfl) rfl rfl (by rw [← HWd8.out]; exact HSx8.out) (fun hHeld => ?_)
            rw [← HWd8.out] at hHeld ⊢
            refine pure_ (i := 0) (N := some 81) (v := ?_) (a' := ?_) #[true, false, false, false, false, false, false, false, false, false, false] rfl rfl (by kernel_rfl) (fun _ _ _ h => h) (Or.inl ⟨by rfl, ?_⟩) ?_ ?_
            rotate_left
            · intro w'
              go_simp
              with_reducible rfl
            rotate_left
            · simp only [Act.put, List.setIfInBounds_toArray, List.set_cons_zero, List.set_cons_succ, i64_w, i32_w, cat_vv]
              rfl
            refine pure_ (i := 1) (N := some 82) (v := ?_) (a' := ?_) #[true, true, false, false, false, false, false, false, false, false, false] rfl rfl (by kernel_rfl) (fun _ _ _ h => h) (Or.inl ⟨by rfl, ?_⟩) ?_ ?_
            rotate_left
            · intro w'
              go_simp
              with_reducible rfl
            rotate_left
            · simp only [Act.put, List.setIfInBounds_toArray, List.set_cons_zero, List.set_cons_succ, i64_w, i32_w, cat_vv]
              rfl
            refine pure_ (i := 2) (N := some 83) (v := ?_) (a' := ?_) #[true, true, true, false, false, false, false, false, false, false, false] rfl rfl (by kernel_rfl) (fun _ _ _ h => h) (Or.inl ⟨by rfl, ?_⟩) ?_ ?_
            rotate_left
            · intro w'
              go_simp
              with_reducible rfl
            rotate_left
            · simp only [Act.put, List.setIfInBounds_toArray, List.set_cons_zero, List.set_cons_succ, i64_w, i32_w, cat_vv]
              rfl
            refine pure_ (i := 3) (N := some 84) (v := ?_) (a' := ?_) #[true, true, true, true, false, false, false, false, false, false, false] rfl rfl (by kernel_rfl) (fun _ _ _ h => h) (Or.inl ⟨by rfl, ?_⟩) ?_ ?_
            rotate_left
            · intro w'
              go_simp
              with_reducible rfl
            rotate_left
            · simp only [Act.put, List.setIfInBounds_toArray, List.set_cons_zero, List.set_cons_succ, i64_w, i32_w, cat_vv]
              rfl
            refine take_ (i := 4) (N := some 85) (v := ?_) (a' := ?_) #[true, true, true, true, true, false, false, false, false, false, false] rfl rfl (by kernel_rfl) (fun _ _ _ h => h) (Or.inl ⟨by rfl, ?_⟩) hHeld ?_ ?_
            rotate_left
            · intro w' s0; try dsimp only at s0
              go_simp
              with_reducible rfl
            rotate_left
            · simp only [Act.put, List.setIfInBounds_toArray, List.set_cons_zero, List.set_cons_succ, i64_w, i32_w, cat_vv]
              rfl
            refine pure_ (i := 5) (N := some 86) (v := ?_) (a' := ?_) #[true, true, true, true, true, true, false, false, false, false, false] rfl rfl (by kernel_rfl) (fun _ _ _ h => h) (Or.inl ⟨by rfl, ?_⟩) ?_ ?_
            rotate_left
            · intro w'
              go_simp
              with_reducible rfl
            rotate_left
            · simp only [Act.put, List.setIfInBounds_toArray, List.set_cons_zero, List.set_cons_succ, i64_w, i32_w, cat_vv]
              rfl
            refine pure_ (i := 6) (N := some 87) (v := ?_) (a' := ?_) #[true, true, true, true, true, true, true, false, false, false, false] rfl rfl (by kernel_rfl) (fun _ _ _ h => h) (Or.inl ⟨by rfl, ?_⟩) ?_ ?_
            rotate_left
            · intro w'
              go_simp
              with_reducible rfl
            rotate_left
            · simp only [Act.put, List.setIfInBounds_toArray, List.set_cons_zero, List.set_cons_succ, i64_w, i32_w, cat_vv]
              rfl
            refine pure_ (i := 7) (N := some 88) (v := ?_) (a' := ?_) #[true, true, true, true, true, true, true, true, false, false, false] rfl rfl (by kernel_rfl) (fun _ _ _ h => h) (Or.inl ⟨by rfl, ?_⟩) ?_ ?_
            rotate_left
            · intro w'
              go_simp
              with_reducible rfl
            rotate_left
            · simp only [Act.put, List.setIfInBounds_toArray, List.set_cons_zero, List.set_cons_succ, i64_w, i32_w, cat_vv]
              rfl
            refine take_ (i := 8) (N := some 89) (v := ?_) (a' := ?_) #[true, true, true, true, true, true, true, true, true, false, false] rfl rfl (by kernel_rfl) (fun _ _ _ h => h) (Or.inl ⟨by rfl, ?_⟩) hHeld ?_ ?_
            rotate_left
            · intro w' s0; try dsimp only at s0
              go_simp
              with_reducible rfl
            rotate_left
            · simp only [Act.put, List.setIfInBounds_toArray, List.set_cons_zero, List.set_cons_succ, i64_w, i32_w, cat_vv]
              rfl
            refine pure_ (i := 9) (N := some 90) (v := ?_) (a' := ?_) #[true, true, true, true, true, true, true, true, true, true, false] rfl rfl (by kernel_rfl) (fun _ _ _ h => h) (Or.inl ⟨by rfl, ?_⟩) ?_ ?_
            rotate_left
            · intro w'
              go_simp
              with_reducible rfl
            rotate_left
            · simp only [Act.put, List.setIfInBounds_toArray, List.set_cons_zero, List.set_cons_succ, i64_w, i32_w, cat_vv]
              rfl
            refine last_ (i := 10) (N := some 91) #[true, true, true, true, true, true, true, true, true, true, true] rfl rfl (by kernel_rfl) (by decide) (fun K hK => ?_)
            refine goes_ Tryd.func9 (by kernel_rfl) rfl #[.pointer (some ⟨Ld.bp, 0, none⟩), .string ⟨x.toArray⟩, .string ⟨(vv x).toArray⟩] (by rfl) rfl rfl (by (try simp only [List.map_toArray, List.map_cons, List.map_nil]); first | done | rfl) ?_
            refine HD8.out.mono ?_
            rintro ee w6 ⟨rfl, hA⟩
            have HA8 := Lib.hid hA
            clear hA
            refine ⟨_, rfl, ?_⟩
            refine hK.out _ _ ?_
            clear hK K
            refine done_ (by kernel_rfl) ?_
            obtain ⟨Ld2, hbd2, hS6⟩ := HSt8.out.left HA8.out
            have hg8 : Wd8.heap[g]? = some (.cells cur 9 (0, 0)) := by rw [HWd8.out]; exact HGw.out
            have hg6 : w6.heap[g]? = some (.cells cur 9 (0, 0)) := (HA8.out.blk (lt_of_heap hg8) (fun hf => foot_ty HSt8.out.own1.1 hf hg8 rfl)).trans hg8
            have HBd2 := Lib.hid (hbd2.trans HBd.out)
            have HPd2 := Lib.hid (HPd.out.next (by omega) HXk.out hsx)
            have hcw9 : w6.cell? ⟨g, k, none⟩ = some (.string ⟨y.toArray⟩) := by rw [cell_of_row w6 g k cur 9 (0, 0) hg6]; exact HCy.out
            have HG6 := Lib.hid hg6
            have HS6 := Lib.hid hS6
            clear hbd2 hS6 hg8 hg6 hHeld HD8 HSx8
            go_wp2_with fail
            obtain ⟨Wd9, hWd9⟩ : ∃ W, W = w6.drew := ⟨_, rfl⟩
            have hb9 : Below w6.heap.size w6 Wd9 := by rw [hWd9]; exact (Below.refl _ w6).drew
            have HSx9 := Lib.hid (show Wd9.cell? ⟨g, k, none⟩ = some (.string ⟨y.toArray⟩) by rw [hWd9]; exact hcw9)
            have HSt9 := Lib.hid (HS6.out.below hb9)
            have HD9 := Lib.hid (put_any ⟨y.toArray⟩ (vv y) Le1 e T Wd9 HSt9.out.own2.1 (tab_below HT.out HSt9.out.own2.2.2) (HPe.out.1.fit (by omega)) (HSt9.out.own2.zero HT.out) (by simpa [ByteArray.size] using hsy))
            rw [HBe.out] at HD9
            have HWd9 := Lib.hid hWd9
            clear hWd9 hcw9
            refine start_ (n := 11) (S := fun w' => w'.cell? ⟨g, k, none⟩ = some (.string ⟨y.toArray⟩)) (ds := [10]) #[false, false, false, false, false, false, false, false, false, false, false] (by kernel_rfl) rfl rfl (by rw [← HWd9.out]; exact HSx9.out) (fun hHeld => ?_)
            rw [← HWd9.out] at hHeld ⊢
            refine pure_ (i := 0) (N := some 92) (v := ?_) (a' := ?_) #[true, false, false, false, false, false, false, false, false, false, false] rfl rfl (by kernel_rfl) (fun _ _ _ h => h) (Or.inl ⟨by rfl, ?_⟩) ?_ ?_
            rotate_left
            · intro w'
              go_simp
              with_reducible rfl
            rotate_left
            · simp only [Act.put, List.setIfInBounds_toArray, List.set_cons_zero, List.set_cons_succ, i64_w, i32_w, cat_vv]
              rfl
            refine pure_ (i := 1) (N := some 93) (v := ?_) (a' := ?_) #[true, true, false, false, false, false, false, false, false, false, false] rfl rfl (by kernel_rfl) (fun _ _ _ h => h) (Or.inl ⟨by rfl, ?_⟩) ?_ ?_
            rotate_left
            · intro w'
              go_simp
              with_reducible rfl
            rotate_left
            · simp only [Act.put, List.setIfInBounds_toArray, List.set_cons_zero, List.set_cons_succ, i64_w, i32_w, cat_vv]
              rfl
            refine pure_ (i := 2) (N := some 94) (v := ?_) (a' := ?_) #[true, true, true, false, false, false, false, false, false, false, false] rfl rfl (by kernel_rfl) (fun _ _ _ h => h) (Or.inl ⟨by rfl, ?_⟩) ?_ ?_
            rotate_left
            · intro w'
              go_simp
              with_reducible rfl
            rotate_left
            · simp only [Act.put, List.setIfInBounds_toArray, List.set_cons_zero, List.set_cons_succ, i64_w, i32_w, cat_vv]
              rfl
            refine pure_ (i := 3) (N := some 95) (v := ?_) (a' := ?_) #[true, true, true, true, false, false, false, false, false, false, false] rfl rfl (by kernel_rfl) (fun _ _ _ h => h) (Or.inl ⟨by rfl, ?_⟩) ?_ ?_
            rotate_left
            · intro w'
              go_simp
              with_reducible rfl
            rotate_left
            · simp only [Act.put, List.setIfInBounds_toArray, List.set_cons_zero, List.set_cons_succ, i64_w, i32_w, cat_vv]
              rfl
            refine take_ (i := 4) (N := some 96) (v := ?_) (a' := ?_) #[true, true, true, true, true, false, false, false, false, false, false] rfl rfl (by kernel_rfl) (fun _ _ _ h => h) (Or.inl ⟨by rfl, ?_⟩) hHeld ?_ ?_
            rotate_left
            · intro w' s0; try dsimp only at s0
              go_simp
              with_reducible rfl
            rotate_left
            · simp only [Act.put, List.setIfInBounds_toArray, List.set_cons_zero, List.set_cons_succ, i64_w, i32_w, cat_vv]
              rfl
            refine pure_ (i := 5) (N := some 97) (v := ?_) (a' := ?_) #[true, true, true, true, true, true, false, false, false, false, false] rfl rfl (by kernel_rfl) (fun _ _ _ h => h) (Or.inl ⟨by rfl, ?_⟩) ?_ ?_
            rotate_left
            · intro w'
              go_simp
              with_reducible rfl
            rotate_left
            · simp only [Act.put, List.setIfInBounds_toArray, List.set_cons_zero, List.set_cons_succ, i64_w, i32_w, cat_vv]
              rfl
            refine pure_ (i := 6) (N := some 98) (v := ?_) (a' := ?_) #[true, true, true, true, true, true, true, false, false, false, false] rfl rfl (by kernel_rfl) (fun _ _ _ h => h) (Or.inl ⟨by rfl, ?_⟩) ?_ ?_
            rotate_left
            · intro w'
              go_simp
              with_reducible rfl
            rotate_left
            · simp only [Act.put, List.setIfInBounds_toArray, List.set_cons_zero, List.set_cons_succ, i64_w, i32_w, cat_vv]
              rfl
            refine pure_ (i := 7) (N := some 99) (v := ?_) (a' := ?_) #[true, true, true, true, true, true, true, true, false, false, false] rfl rfl (by kernel_rfl) (fun _ _ _ h => h) (Or.inl ⟨by rfl, ?_⟩) ?_ ?_
            rotate_left
            · intro w'
              go_simp
              with_reducible rfl
            rotate_left
            · simp only [Act.put, List.setIfInBounds_toArray, List.set_cons_zero, List.set_cons_succ, i64_w, i32_w, cat_vv]
              rfl
            refine take_ (i := 8) (N := some 100) (v := ?_) (a' := ?_) #[true, true, true, true, true, true, true, true, true, false, false] rfl rfl (by kernel_rfl) (fun _ _ _ h => h) (Or.inl ⟨by rfl, ?_⟩) hHeld ?_ ?_
            rotate_left
            · intro w' s0; try dsimp only at s0
              go_simp
              with_reducible rfl
            rotate_left
            · simp only [Act.put, List.setIfInBounds_toArray, List.set_cons_zero, List.set_cons_succ, i64_w, i32_w, cat_vv]
              rfl
            refine pure_ (i := 9) (N := some 101) (v := ?_) (a' := ?_) #[true, true, true, true, true, true, true, true, true, true, false] rfl rfl (by kernel_rfl) (fun _ _ _ h => h) (Or.inl ⟨by rfl, ?_⟩) ?_ ?_
            rotate_left
            · intro w'
              go_simp
              with_reducible rfl
            rotate_left
            · simp only [Act.put, List.setIfInBounds_toArray, List.set_cons_zero, List.set_cons_succ, i64_w, i32_w, cat_vv]
              rfl
            refine last_ (i := 10) (N := some 102) #[true, true, true, true, true, true, true, true, true, true, true] rfl rfl (by kernel_rfl) (by decide) (fun K hK => ?_)
            refine goes_ Tryd.func9 (by kernel_rfl) rfl #[.pointer (some ⟨Le.bp, 0, none⟩), .string ⟨y.toArray⟩, .string ⟨(vv y).toArray⟩] (by rfl) rfl rfl (by (try simp only [List.map_toArray, List.map_cons, List.map_nil]); first | done | rfl) ?_
            refine HD9.out.mono ?_
            rintro ee w8 ⟨rfl, hA⟩
            have HA9 := Lib.hid hA
            clear hA
            refine ⟨_, rfl, ?_⟩
            refine hK.out _ _ ?_
            clear hK K
            refine done_ (by kernel_rfl) ?_
            obtain ⟨Le2, hbe2, hS8⟩ := HSt9.out.right HA9.out
            have hg9 : Wd9.heap[g]? = some (.cells cur 9 (0, 0)) := by rw [HWd9.out]; exact HG6.out
            have hg8 : w8.heap[g]? = some (.cells cur 9 (0, 0)) := (HA9.out.blk (lt_of_heap hg9) (fun hf => foot_ty HSt9.out.own2.1 hf hg9 rfl)).trans hg9
            have HR := Lib.hid (show Lq T w Ld.bp Le.bp ns lst (some ⟨g, 0, none⟩) W4 (k + 1) w8 from ⟨Ld2, Le2, _, _, HBd2.out, hbe2.trans HBe.out, hS8, HPd2.out, HPe.out.next (by omega) HYk.out hsy, fun g' cur' e' h4 => by
              injection e' with e'
              injection e' with e'
              subst e'
              have : some (Obj.cells cur' 9 (0, 0)) = some (Obj.cells cur 9 (0, 0)) := h4.symm.trans hg4
              rw [this]; exact hg8⟩)
            clear hbe2 hS8 hg9 hg8 hHeld HD9 HSx9
            go_wp2_with fail
            go_roundw
            case rel => exact ⟨k + 1, by omega, by go_num, HR.out⟩
            case measure => simp [intOf]; omega
          · have hke : k = n1 := by omega
            subst hke
            obtain ⟨Ld1, Le1, d, e, hbd, hbe, hSt, hpd, hpe, hrk⟩ := hL
            obtain ⟨wm, rfl⟩ : ∃ x, x = wr := ⟨wr, rfl⟩
            rw [HN1.out] at hpd
            rw [← HLen.out] at hpe
            have hal : Alike d e := hpd.alike hpe (fun x => (HMem.out x).symm)
            have hll : lst.length = ns.length := by rw [HLen.out]; exact HN1.out
            have hsd := hpd.1.mono (show ns.length ≤ 1000 by have := HN1.out; omega)
            have hse := hpe.1.mono (show lst.length ≤ 1000 by have := HLen.out; omega)
            have hfd := hsd.fit (by omega)
            have hfe := hse.fit (by omega)
            have HNd := Lib.hid (fun w' (hb : Below wm.heap.size wm w') => names2_any Ld1 d T w' (hSt.own1.1.below hb) hfd)
            have HNe := Lib.hid (fun w' (hb : Below wm.heap.size wm w') => names2_any Le1 e T w' (hSt.own2.1.below hb) hfe)
            have HLd := Lib.hid (fun w' (hb : Below wm.heap.size wm w') => len_any Ld1 d w' (hSt.own1.1.below hb))
            have HLe := Lib.hid (fun w' (hb : Below wm.heap.size wm w') => len_any Le1 e w' (hSt.own2.1.below hb))
            have HGe := Lib.hid (fun w' (hb : Below wm.heap.size wm w') (s : ByteArray) (hs : s.size ≤ 140737488351232) => get_any s Le1 e T w' (hSt.own2.1.below hb) (tab_below HT.out (hSt.own1.2.2.trans (hb.mono hSt.own1.2.2.size))) hse.inv.pos hs (by have := hse.now; omega) (by have := hse.old; omega) (fun r hr => by have := hfe.room (.inl hr); omega) (fun r hr => by have := hfe.room (.inr hr); omega))
            rw [hbd] at HNd HLd
            rw [hbe] at HNe HLe HGe
            have hnm : sn e = sn d := (hal.names hsd.inv hse.inv).symm
            have hmm : e.many = d.many := (hal.many hsd.inv hse.inv).symm
            rw [hnm] at HNe
            rw [hmm] at HLe
            have hsl := sn_le hsd (by omega)
            have HGet := Lib.hid (fun (n : Nm) (hn : n ∈ ns) => show Dm.get (hsh T) e n = some (vv n) from hpe.get ((HMem.out n).2 hn))
            have HBw := Lib.hid hSt.own1.2.2
            clear hnm hmm hSt hal hsd hse hfd hfe hbd hbe hpd hpe hrk hll
            generalize sn d = nn at HNd HNe hsl
            generalize d.many = dm at HLd HLe
            have hdm : ((dm : Int) == (dm : Int)) = true := by simp
            go_wp2_with fail
            go_loopw [106] (fun i w3 => ∃ (q : Nat), q ≤ k ∧ i = .int .i64 (q : Int) ∧ Below wm.heap.size wm w3) (fun i _ => k - (intOf i).toNat)
            case atStart => exact ⟨0, Nat.zero_le _, rfl, Below.refl _ _⟩
            case round =>
              obtain ⟨q, hq, rfl, hbq⟩ := hrel
              by_cases hql : q < k
              · obtain ⟨x, hx⟩ : ∃ x, ns[q]? = some x := ⟨_, List.getElem?_eq_getElem (by rw [← HN1.out]; exact hql)⟩
                have hmx := List.mem_of_getElem? hx
                have hsx := HS.out x hmx
                have hgx := HGet.out x hmx
                obtain ⟨b, off, rfl, hbl, hcx⟩ := HA1.out q x hx
                have hbr := HBw.out.trans (hbq.mono HBw.out.size)
                have hcw := (hbr.cell (p := ⟨b, off + q, none⟩) hbl).trans hcx
                have HC := Lib.hid (HGe.out wr hbq ⟨x.toArray⟩ (by simpa [ByteArray.size] using hsx))
                have hxx : (⟨x.toArray⟩ : ByteArray).data.toList = x := by simp
                rw [hxx, hgx] at HC
                have hlx : (9223372036854775807 < 1 + List.length x) = False := eq_false (by omega)
                have HBq := Lib.hid hbq
                clear hx hmx hgx hcx hbr hbq hxx
                go_wp2_with fail
                refine HC.out.mono ?_
                rintro ee wy ⟨rfl, hb5⟩
                have HR := Lib.hid (HBq.out.trans (hb5.mono HBq.out.size))
                have e1 : (some (vv x)).getD [] = vv x := rfl
                rw [e1]
                have hcmp : (vv x == (({ data := #[118] } : ByteArray) ++ ({ data := List.toArray x } : ByteArray)).toList) = true := by rw [cat_vv, ByteArray.toList_eq]; simp
                clear hb5
                go_wp2_with fail
                go_roundw
                case rel => exact ⟨q + 1, by omega, by go_num, HR.out⟩
                case measure => simp [intOf]; omega
              · have hqe : q = k := by omega
                subst hqe
                have hbf := HBw.out.trans (hbq.mono HBw.out.size)
                have HAf := Lib.hid (HAl.out wr hbf)
                have HBf := Lib.hid hbf
                have HBq := Lib.hid hbq
                clear hbf hbq
                go_wp2_with fail
                refine HAf.out.mono ?_
                rintro ee wa ⟨rfl, hb5⟩
                have hb1 := HBq.out.trans (hb5.mono HBq.out.size)
                clear hb5
                go_wp2_with fail
                refine (HNd.out wa hb1).mono ?_
                rintro ee wb ⟨v1, rfl, ho1, hb5⟩
                have hb2 := hb1.trans (hb5.mono hb1.size)
                have HO1 := Lib.hid ho1
                clear hb5 hb1 ho1
                go_wp2_with fail
                refine (HNe.out wb hb2).mono ?_
                rintro ee wc ⟨v2, rfl, ho2, hb5⟩
                have hb3 := hb2.trans (hb5.mono hb2.size)
                have HSm := Lib.hid ((rsame_any v1 v2 nn nn wc (HO1.out.below hb5) ho2 (by omega) (by omega)).mono (R' := fun ee w' => ee = .returned (.bool true) ∧ Below wc.heap.size wc w') (fun ee w' h => ⟨by rw [h.1]; simp, h.2⟩))
                clear hb5 hb2 ho2 HO1
                go_wp2_with fail
                refine HSm.out.mono ?_
                rintro ee wd ⟨rfl, hb5⟩
                have hb4 := hb3.trans (hb5.mono hb3.size)
                clear hb5 hb3
                go_wp2_with fail
                refine (HLd.out wd hb4).mono ?_
                rintro ee we ⟨rfl, rfl⟩
                go_wp2_with fail
                refine (HLe.out wd hb4).mono ?_
                rintro ee we ⟨rfl, rfl⟩
                go_wp2_with fail
                go_ret
                exact ⟨rfl, HBw.out.trans (hb4.mono HBw.out.size)⟩
end Go.Proofs.YtflndbgaidhbaaaDoor.Str
