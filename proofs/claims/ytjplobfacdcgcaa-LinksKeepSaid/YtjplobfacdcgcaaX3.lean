/-
  Slices.Clip and Send, walked. Conditions: those that each theorem states.
-/
import Derived.Test.YtjplobfacdcgcaaX2
import Derived.Maps.OwnOps
namespace Go.Proofs.Ytjplobfacdcgcaa
open Go.RowKit Go.Proofs.YtjplobfacdcgcaaW.PrintLast

set_option maxHeartbeats 800000 in
theorem clip_any (A : Option Addr) (n c : Nat) (w : World) (h : n ≤ c) (hc : c ≤ maxLen) (hA : A = none → c = 0) :
    Calls Try.prog 25 #[.slice A n c] w fun e w' => e = .returned (.slice A n n) ∧ w = w' := by
  unfold maxLen at hc
  cases A with
  | none =>
    obtain rfl := hA rfl
    obtain rfl : n = 0 := by omega
    go_enter Try.func25, Try.ntmps25
    go_wp2
    go_ret
    exact ⟨rfl, rfl⟩
  | some a =>
    go_enter Try.func25, Try.ntmps25
    go_wp2
    go_ret
    exact ⟨rfl, rfl⟩

/-- A letter as it is handed over. -/
def letV (x : Lt) (va vr : Value) : Value := .agg #[.int .i64 x.kind, .int .i64 x.number, .int .i64 x.slot, .int .i64 x.ends, .string x.key, .string x.text, va, .int .i64 x.reply.kind, .int .i64 x.reply.int, .string x.reply.text, vr, .bool x.good, .int .i64 x.asking]

/-- What a call on links leaves: the links as ws, and else only new memory. -/
def Sent (S : Nat → Prop) (bp b n : Nat) (ws : List Wy) (w w' : World) : Prop := LkAt S w' bp b n ws ∧ Off b w w'

theorem info33 : (Try.prog.info? 33).map (fun i => (i.zero, i.size, i.bytes)) = some (some (.agg #[.int .i64 0, .int .i64 0, .int .i64 0, .int .i64 0, .string ⟨#[]⟩, .string ⟨#[]⟩, .slice none 0 0, .int .i64 0, .int .i64 0, .string ⟨#[]⟩, .slice none 0 0, .bool false, .int .i64 0]), 13, 160) := by kernel_rfl

/-- An append that grows, at a step of a region. -/
theorem wp_append_grows_ {P : Program} (w : World) {o : Oper} {a : Act} {K : Act → World → Prop} {Q : Exit → Act → World → Prop}
    (s x : Operand) (t : TypeId) (hop : o.op = Op.call { callee := Callee.builtin Builtin.append, args := #[s, x], argTypes := #[t, t] })
    (e : TypeId) (i : TypeInfo) (z : Value) (size bytes : Nat) (h1 : P.underlying t = some (.slice e)) (h2 : P.info? e = some i) (h3 : i.zero = some z) (h4 : i.size = size) (h5 : i.bytes = bytes) (h6 : z.cells.size = size) (h7 : 0 < size)
    (ao : Option Addr) (n cap : Nat) (olds : List Value) (hs : a.eval s = .slice ao n cap) (hnone : ao = none → n = 0 ∧ cap = 0) (hlo : olds.length = n * size) (holds : ∀ b, ao = some b → ∀ (j : Nat) (u : Value), olds[j]? = some u → w.cell? (b.add j) = some u)
    (ad : Addr) (m c : Nat) (news : List Value) (hx : a.eval x = .slice (some ad) m c) (hn : news.length = m * size) (hc : ∀ (j : Nat) (u : Value), news[j]? = some u → w.cell? (ad.add j) = some u) (h1c : ∀ u ∈ news, u.oneCell' = true)
    (hfull : cap < n + m) (b1 : n + m ≤ maxLen) (b2 : (n + m) * bytes ≤ 140737488355328)
    (hK : ∀ v' w', w'.ownsRow w.heap.size e size v' (n + m) (olds ++ news) → w.grownBy w' none → K (a.put o.dst v') w') : o.wp P a w K Q := by
  cases ao with
  | some b =>
    obtain ⟨v', w', hrun, r1, r2⟩ := run_append_arg_grows (P := P) w t o.type e i z size bytes h1 h2 h3 h4 h5 h6 h7 b n cap olds hlo (holds b rfl) ad m c news hn hc hfull b1 b2
    unfold Oper.wp execOp
    simp only [hop, resolve, invoke, builtin, Sem.run_bind, Sem.run_pure, Result.andThen_ok, List.map_toArray, List.map_cons, List.map_nil, hs, hx, hrun]
    exact hK v' w' r1 r2
  | none =>
    obtain ⟨rfl, rfl⟩ := hnone rfl
    obtain rfl : olds = [] := List.eq_nil_of_length_eq_zero (by simpa using hlo)
    obtain ⟨v', w', hrun, r1, r2, _⟩ := run_append_own (P := P) w w.heap.size t o.type e i z size bytes h1 h2 h3 h4 h5 h6 h7 (.slice none 0 0) 0 [] (World.ownsRow_nil w _ e size) ad m c news hn hc h1c b1 b2 (Nat.le_refl _)
    unfold Oper.wp execOp
    simp only [hop, resolve, invoke, builtin, Sem.run_bind, Sem.run_pure, Result.andThen_ok, List.map_toArray, List.map_cons, List.map_nil, hs, hx, hrun]
    exact hK v' w' r1 r2

/-- A row of letters, its cells. -/
theorem lts_cells {S : Nat → Prop} {w : World} {A : Option Addr} {n c : Nat} {l : List Lt} (h : LtsAt S w (.slice A n c) l) : n = l.length ∧ n ≤ c ∧ c ≤ maxLen ∧ (A = none → c = 0) ∧ ∃ olds : List Value, olds.length = n * 13 ∧
    (∀ a, A = some a → ∀ (j : Nat) (u : Value), olds[j]? = some u → w.cell? (a.add j) = some u) ∧
    ∀ (w' : World) (v' : Value) (base : Nat) (x : Lt) (cs : List Value), Kp S w w' → w'.ownsRow base 33 13 v' (n + 1) (olds ++ cs) → (∀ k, base ≤ k → S k) → LtAt S w' x cs → LtsAt S w' v' (l ++ [x]) := by
  obtain ⟨A', c', e, h1, h2, h3, h4⟩ := h
  injection e with e1 e2 e3
  subst e1 e2 e3
  refine ⟨rfl, h1, h2, h3, ?_⟩
  have each : ∀ j : Fin l.length, ∃ cs, (∀ a, A = some a → ∀ (i : Nat) (u : Value), cs[i]? = some u → w.cell? (a.add (j.1 * 13 + i)) = some u) ∧ LtAt S w l[j] cs := by
    intro j
    obtain ⟨b, off, cs, hA, _, hc, hl⟩ := h4 j.1 l[j] (by simp)
    exact ⟨cs, fun a ha i u hi => by rw [hA] at ha; cases ha; rw [Addr.add_lit, ← Nat.add_assoc]; exact hc i u hi, hl⟩
  obtain ⟨f, hf⟩ := Classical.axiomOfChoice each
  obtain ⟨gg, hgg⟩ : ∃ gg : Nat → List Value, gg = fun i => if h : i < l.length then f ⟨i, h⟩ else [] := ⟨_, rfl⟩
  have hgl : ∀ i, i < l.length → (gg i).length = 13 := fun i hi => by rw [hgg]; simp only [hi, dif_pos]; exact (hf ⟨i, hi⟩).2.length
  refine ⟨flat 13 l.length gg, flat_length _ _ _, fun a ha j u hj => ?_, fun w' v' base x cs hk ho hS hx => ?_⟩
  · obtain ⟨i, j', hi, rfl, hx⟩ := flat_of hgl hj
    rw [hgg] at hx
    simp only [hi, dif_pos] at hx
    exact (hf ⟨i, hi⟩).1 a ha j' u hx
  · rcases own_cases ho with ⟨_, h0⟩ | ⟨g, cap, cur, rfl, hg, q1, q2, _, _, _, hc⟩
    · omega
    · refine ⟨_, _, by rw [List.length_append]; rfl, by simpa using q1, q2, (fun (e : some _ = none) => absurd e (by simp)), fun j y hj => ?_⟩
      by_cases e : j < l.length
      · rw [List.getElem?_append_left e] at hj
        obtain ⟨_, rfl⟩ := List.getElem?_eq_some_iff.1 hj
        refine ⟨g, 0, f ⟨j, e⟩, rfl, hS g hg, fun i u hi => ?_, (hf ⟨j, e⟩).2.keep hk⟩
        rw [Nat.zero_add]
        refine hc _ _ ?_
        have : (flat 13 l.length gg)[j * 13 + i]? = some u := flat_get hgl e (by rw [hgg]; simp only [e, dif_pos]; exact hi)
        rw [List.getElem?_append_left (List.getElem?_eq_some_iff.1 this).1]; exact this
      · rw [List.getElem?_append_right (by omega)] at hj
        have hj0 : j - l.length = 0 := by have := (List.getElem?_eq_some_iff.1 hj).1; simp at this; omega
        rw [hj0] at hj
        obtain rfl : x = y := by simpa using hj
        obtain rfl : j = l.length := by omega
        refine ⟨g, 0, cs, rfl, hS g hg, fun i u hi => ?_, hx⟩
        rw [Nat.zero_add]
        refine hc _ _ ?_
        rw [List.getElem?_append_right (by rw [flat_length]; omega), flat_length]
        have : l.length * 13 + i - l.length * 13 = i := by omega
        rw [this]; exact hi

/-- The row of a pair, one letter longer, laid in. -/
theorem LkAt.send {S : Nat → Prop} {W : World} {bp b n : Nat} {ws : List Wy} (h : LkAt S W bp b n ws) {p : Pr} (hp : Ok64 p) {x : Lt} {v : Value} (hv : LtsAt S W v (queue ws p ++ [x])) (hn : n < 1000000) :
    ∃ w', (Instr.mapUpdate 51 (.map (some b)) (keyV p) v).run Try.prog W = .ok () w' ∧ LkAt S w' bp b (n + 1) (ws ++ [⟨p, x⟩]) ∧ W.grownBy w' (some b) := by
  obtain ⟨f, hm, h1⟩ := h.map
  obtain ⟨w', hr, hm', hg⟩ := hm.update hp v (by unfold maxLen; omega)
  have hk : Kp S W w' := (Kp.refl S W).grown hg (fun j e => by cases e; exact .inr h.walk)
  refine ⟨w', hr, ⟨hk.blk _ _ h.lob h.blk rfl, h.lob, fun y hy => ?_, _, hm', fun q => ?_⟩, hg⟩
  · rcases List.mem_append.1 hy with hy | hy
    · exact h.ok y hy
    · obtain rfl := List.mem_singleton.1 hy; exact hp
  · rw [queue_send]
    by_cases e : p = q
    · subst e
      rw [if_pos rfl, if_pos rfl]
      exact .inr ⟨v, rfl, by simp, hv.keep hk⟩
    · rw [if_neg e, if_neg (fun e' => e e'.symm)]
      rcases h1 q with h2 | ⟨u, h2, h3, h4⟩
      · exact .inl h2
      · exact .inr ⟨u, h2, h3, h4.keep hk⟩

set_option maxHeartbeats 3200000 in
set_option maxRecDepth 100000 in
theorem send_any (S : Nat → Prop) (bp b n : Nat) (ws : List Wy) (p1 p2 : Int) (x : Lt) (va vr : Value) (w : World) (h : LkAt S w bp b n ws) (hp : Ok64 (p1, p2)) (hS : ∀ k, w.heap.size ≤ k → S k)
    (hva : StrsAt (Fro 0) w va x.args) (hvr : RpAt (Fro 0) w x.reply vr) (ha : x.args.length ≤ 1000000) (hr : x.reply.Fine 1000000) (hn : n < 1000000) (hw : ws.length < 1000000) :
    Calls Try.prog 13 #[.pointer (some ⟨bp, 0, none⟩), .int .i64 p1, .int .i64 p2, letV x va vr] w fun e w' => e = .returned (.tuple #[]) ∧ Sent S bp b (n + 1) (ws ++ [⟨(p1, p2), x⟩]) w w' := by
  obtain ⟨kind, number, slot, ends, key, text, args, reply, good, asking⟩ := x
  obtain ⟨rk, ri, rt, rn, rl⟩ := reply
  simp only [letV, Rp.kind, Rp.int, Rp.text] at *
  have HCa := Lib.hid (fun (w' : World) (hb : Below w.heap.size w w') => clone23_any va args w' (hva.keep (.of_below hb _)) ha)
  have HCr := Lib.hid (fun (w' : World) (hb : Below w.heap.size w w') => copied_any _ vr w' (hvr.keep (.of_below hb _)) hr)
  simp only [Rp.kind, Rp.int, Rp.text] at HCr
  obtain ⟨Aa, ca, rfl⟩ : ∃ A c, va = .slice A args.length c := by obtain ⟨A, c, e, _⟩ := hva; exact ⟨A, c, e⟩
  obtain ⟨Ar, cr, rfl⟩ : ∃ A c, vr = .slice A rn c := by obtain ⟨A, c, e, _⟩ := hvr; exact ⟨A, c, e⟩
  obtain ⟨na, hna⟩ : ∃ na, na = args.length := ⟨_, rfl⟩
  rw [← hna] at HCa ⊢
  have HNa := Lib.hid hna
  have HL := Lib.hid h
  have HSS := Lib.hid hS
  clear hva hvr hna h hS
  go_enter Try.func13, Try.ntmps13
  go_wp2_with fail
  obtain ⟨Wd, hWd⟩ : ∃ Wd, Wd = (w.alloc (.cells #[.int .i64 kind, .int .i64 number, .int .i64 slot, .int .i64 ends, .string key, .string text, .slice Aa na ca, .int .i64 rk, .int .i64 ri, .string rt, .slice Ar rn cr, .bool good, .int .i64 asking] 33)).drew := ⟨_, rfl⟩
  have hbd : Below w.heap.size w Wd := by rw [hWd]; exact ((Below.refl _ w).alloc (Nat.le_refl _) _).drew
  have hxd : Wd.heap[w.heap.size]? = some (.cells #[.int .i64 kind, .int .i64 number, .int .i64 slot, .int .i64 ends, .string key, .string text, .slice Aa na ca, .int .i64 rk, .int .i64 ri, .string rt, .slice Ar rn cr, .bool good, .int .i64 asking] 33 (0, 0)) := by rw [hWd]; exact World.alloc_heap_new w _
  have HS0 := Lib.hid (fun (w' : World) (hb : Below Wd.heap.size Wd w') => show w'.cell? ⟨w.heap.size, 6, none⟩ = some (.slice Aa na ca) ∧ w'.cell? ⟨w.heap.size, 7, none⟩ = some (.int .i64 rk) ∧ w'.cell? ⟨w.heap.size, 8, none⟩ = some (.int .i64 ri) ∧ w'.cell? ⟨w.heap.size, 9, none⟩ = some (.string rt) ∧ w'.cell? ⟨w.heap.size, 10, none⟩ = some (.slice Ar rn cr) from by
    have hx := (hb.block _ (lt_of_heap hxd)).trans hxd
    refine ⟨?_, ?_, ?_, ?_, ?_⟩ <;> rw [cell_of_row _ _ _ _ _ _ hx] <;> rfl)
  have HF0 := Lib.hid (fun (w' : World) (hb : Below Wd.heap.size Wd w') => show w'.frozen? ⟨w.heap.size, 6, none⟩ = false ∧ w'.frozen? ⟨w.heap.size, 7, none⟩ = false ∧ w'.frozen? ⟨w.heap.size, 8, none⟩ = false ∧ w'.frozen? ⟨w.heap.size, 9, none⟩ = false ∧ w'.frozen? ⟨w.heap.size, 10, none⟩ = false from by
    have hx := (hb.block _ (lt_of_heap hxd)).trans hxd
    refine ⟨?_, ?_, ?_, ?_, ?_⟩ <;> simp [World.frozen?, hx])
  have HX0 := Lib.hid (fun (w' : World) (hb : Below Wd.heap.size Wd w') => (hb.block _ (lt_of_heap hxd)).trans hxd)
  have HCa := Lib.hid (fun (w' : World) (hb : Below Wd.heap.size Wd w') => HCa.out w' (hbd.trans (hb.mono hbd.size)))
  have HCr := Lib.hid (fun (w' : World) (hb : Below Wd.heap.size Wd w') => HCr.out w' (hbd.trans (hb.mono hbd.size)))
  have HWd := Lib.hid hWd
  have HBd := Lib.hid hbd
  clear hWd hbd hxd
  refine start_ (n := 10) (S := fun w' => w'.cell? ⟨w.heap.size, 6, none⟩ = some (.slice Aa na ca) ∧ w'.cell? ⟨w.heap.size, 7, none⟩ = some (.int .i64 rk) ∧ w'.cell? ⟨w.heap.size, 8, none⟩ = some (.int .i64 ri) ∧ w'.cell? ⟨w.heap.size, 9, none⟩ = some (.string rt) ∧ w'.cell? ⟨w.heap.size, 10, none⟩ = some (.slice Ar rn cr)) (ds := [7, 9]) #[false, false, false, false, false, false, false, false, false, false] (by kernel_rfl) rfl rfl (by rw [← HWd.out]; exact HS0.out Wd (Below.refl _ _)) (fun hHeld => ?_)
  rw [← HWd.out] at hHeld ⊢
  refine pure_ (i := 0) (N := some 9) (v := ?_) (a' := ?_) #[true, false, false, false, false, false, false, false, false, false] rfl rfl (by kernel_rfl) (fun _ _ _ h => h) (Or.inl ⟨by rfl, ?_⟩) ?_ ?_
  rotate_left
  · intro w'
    go_simp
    with_reducible rfl
  rotate_left
  · simp only [Act.put, List.setIfInBounds_toArray, List.set_cons_zero, List.set_cons_succ, i64_w, i32_w]
    rfl
  refine take_ (i := 1) (N := some 10) (v := ?_) (a' := ?_) #[true, true, false, false, false, false, false, false, false, false] rfl rfl (by kernel_rfl) (fun _ _ _ h => h) (Or.inl ⟨by rfl, ?_⟩) hHeld ?_ ?_
  rotate_left
  · rintro w' ⟨s0, s1, s2, s3, s4⟩
    go_simp
    with_reducible rfl
  rotate_left
  · simp only [Act.put, List.setIfInBounds_toArray, List.set_cons_zero, List.set_cons_succ, i64_w, i32_w]
    rfl
  refine pure_ (i := 3) (N := some 12) (v := ?_) (a' := ?_) #[true, true, false, true, false, false, false, false, false, false] rfl rfl (by kernel_rfl) (fun _ _ _ h => h) (Or.inl ⟨by rfl, ?_⟩) ?_ ?_
  rotate_left
  · intro w'
    go_simp
    with_reducible rfl
  rotate_left
  · simp only [Act.put, List.setIfInBounds_toArray, List.set_cons_zero, List.set_cons_succ, i64_w, i32_w]
    rfl
  refine take_ (i := 4) (N := some 13) (v := ?_) (a' := ?_) #[true, true, false, true, true, false, false, false, false, false] rfl rfl (by kernel_rfl) (fun _ _ _ h => h) (Or.inl ⟨by rfl, ?_⟩) hHeld ?_ ?_
  rotate_left
  · rintro w' ⟨s0, s1, s2, s3, s4⟩
    go_simp
    with_reducible rfl
  rotate_left
  · simp only [Act.put, List.setIfInBounds_toArray, List.set_cons_zero, List.set_cons_succ, i64_w, i32_w]
    rfl
  refine one_ (i := 2) (N := some 11) #[true, true, true, true, true, false, false, false, false, false] rfl rfl (by kernel_rfl) (by decide) (fun K hK => ?_)
  refine goes_ Try.func23 (by kernel_rfl) rfl #[.slice Aa na ca] (by rfl) rfl rfl (by (try simp only [List.map_toArray, List.map_cons, List.map_nil]); first | done | rfl) ?_
  refine (HCa.out Wd (Below.refl _ _)).mono ?_
  rintro ee w4 ⟨v4, rfl, hv4, hb4⟩
  obtain ⟨A4, c4, rfl⟩ : ∃ A c, v4 = .slice A na c := by obtain ⟨A, c, e, _⟩ := hv4; exact ⟨A, c, by rw [e, HNa.out]⟩
  have HB4 := Lib.hid hb4
  have HV4 := Lib.hid hv4
  clear hb4 hv4
  refine ⟨_, rfl, ?_⟩
  refine hK.out _ _ (HS0.out _ HB4.out) (fun hHeld => ?_)
  clear hK K
  refine norm_ (a' := ?_) ?_ ?_
  rotate_left
  · simp only [Act.put, List.setIfInBounds_toArray, List.set_cons_zero, List.set_cons_succ, i64_w, i32_w]
    rfl
  refine pure_ (i := 6) (N := some 15) (v := ?_) (a' := ?_) #[true, true, true, true, true, false, true, false, false, false] rfl rfl (by kernel_rfl) (fun _ _ _ h => h) (Or.inl ⟨by rfl, ?_⟩) ?_ ?_
  rotate_left
  · intro w'
    go_simp
    with_reducible rfl
  rotate_left
  · simp only [Act.put, List.setIfInBounds_toArray, List.set_cons_zero, List.set_cons_succ, i64_w, i32_w]
    rfl
  refine one_ (i := 5) (N := some 14) #[true, true, true, true, true, true, true, false, false, false] rfl rfl (by kernel_rfl) (by decide) (fun K hK => ?_)
  refine goes_ Try.func24 (by kernel_rfl) rfl #[.agg #[.int .i64 rk, .int .i64 ri, .string rt, .slice Ar rn cr]] (by rfl) rfl rfl (by (try simp only [List.map_toArray, List.map_cons, List.map_nil]); first | done | rfl) ?_
  refine (HCr.out w4 HB4.out).mono ?_
  rintro ee w5 ⟨v5, rfl, hv5, hb5⟩
  simp only [Rp.kind, Rp.int, Rp.text]
  obtain ⟨A5, c5, rfl⟩ : ∃ A c, v5 = .slice A rn c := by obtain ⟨A, c, rfl, _⟩ := hv5; exact ⟨A, c, rfl⟩
  have HB5 := Lib.hid (HB4.out.trans (hb5.mono HB4.out.size))
  have HV4' := Lib.hid (HV4.out.keep (.of_below hb5 _))
  have HV5 := Lib.hid (hv5.mono (Fro.sub HB4.out.size))
  clear hb5 hv5 HV4
  refine ⟨_, rfl, ?_⟩
  refine hK.out _ _ (HS0.out _ HB5.out) (fun hHeld => ?_)
  clear hK K
  refine norm_ (a' := ?_) ?_ ?_
  rotate_left
  · simp only [Act.put, List.setIfInBounds_toArray, List.set_cons_zero, List.set_cons_succ, i64_w, i32_w]
    rfl
  obtain ⟨d6, d7, d8, d9, d10⟩ := HS0.out w5 HB5.out
  obtain ⟨f6, f7, f8, f9, f10⟩ := HF0.out w5 HB5.out
  refine last_ (i := 7) (N := none) #[true, true, true, true, true, true, true, true, false, false] rfl rfl (by kernel_rfl) (by decide) (fun K hK => ?_)
  refine skip_ (w1 := ?_) (by rfl) rfl ?_ ?_
  rotate_left
  · go_simp
    rfl
  refine hK.out _ _ ?_
  clear hK K
  refine pure_ (i := 8) (N := some 16) (v := ?_) (a' := ?_) #[true, true, true, true, true, true, true, true, true, false] rfl rfl (by kernel_rfl) (fun _ _ _ h => h) (Or.inl ⟨by rfl, ?_⟩) ?_ ?_
  rotate_left
  · intro w'
    go_simp
    with_reducible rfl
  rotate_left
  · simp only [Act.put, List.setIfInBounds_toArray, List.set_cons_zero, List.set_cons_succ, i64_w, i32_w]
    rfl
  refine last_ (i := 9) (N := none) #[true, true, true, true, true, true, true, true, true, true] rfl rfl (by kernel_rfl) (by decide) (fun K hK => ?_)
  refine skip_ (w1 := ?_) (by rfl) rfl ?_ ?_
  rotate_left
  · go_simp
    rfl
  refine hK.out _ _ ?_
  clear hK K
  refine done_ (by kernel_rfl) ?_
  have hcur := setCell_blk (setCell_blk (setCell_blk (setCell_blk (setCell_blk (HX0.out w5 HB5.out) (i := 6) (.slice A4 na c4)) (i := 7) (.int .i64 rk)) (i := 8) (.int .i64 ri)) (i := 9) (.string rt)) (i := 10) (.slice A5 rn c5)
  obtain ⟨w6, hw6⟩ : ∃ w6, w6 = (((((w5.setCell ⟨w.heap.size, 6, none⟩ (.slice A4 na c4)).setCell ⟨w.heap.size, 7, none⟩ (.int .i64 rk)).setCell ⟨w.heap.size, 8, none⟩ (.int .i64 ri)).setCell ⟨w.heap.size, 9, none⟩ (.string rt)).setCell ⟨w.heap.size, 10, none⟩ (.slice A5 rn c5)) := ⟨_, rfl⟩
  rw [← hw6] at hcur ⊢
  have hb6 : Below w.heap.size w w6 := by
    rw [hw6]
    exact (((((HBd.out.trans (HB5.out.mono HBd.out.size)).setCell (Nat.le_refl _) _).setCell (Nat.le_refl _) _).setCell (Nat.le_refl _) _).setCell (Nat.le_refl _) _).setCell (Nat.le_refl _) _
  have hdz : w.heap.size < Wd.heap.size := lt_of_heap (HX0.out Wd (Below.refl _ _))
  have hk6 : Kp (Fro Wd.heap.size) w5 w6 := by
    rw [hw6]
    exact ⟨by simp [World.setCell], fun k o (hk : Wd.heap.size ≤ k) ho _ => by rw [setCell_far _ (by omega), setCell_far _ (by omega), setCell_far _ (by omega), setCell_far _ (by omega), setCell_far _ (by omega)]; exact ho⟩
  have hS6 : ∀ k, Fro Wd.heap.size k → S k := fun k (hk : Wd.heap.size ≤ k) => HSS.out k (by omega)
  have HLt := Lib.hid (show LtAt S w6 ⟨kind, number, slot, ends, key, text, args, .mk rk ri rt rn rl, good, asking⟩ _ from ⟨_, _, rfl, (HV4'.out.keep hk6).mono hS6, (HV5.out.keep hk6).mono hS6⟩)
  simp only [ltCells, Rp.kind, Rp.int, Rp.text] at HLt
  have HL6 := Lib.hid (HL.out.below hb6)
  have HB6 := Lib.hid hb6
  have HC6 := Lib.hid hcur
  clear hw6 hb6 hk6 hS6 hcur d6 d7 d8 d9 d10 f6 f7 f8 f9 f10 hHeld HV4' HV5 HCa HCr HS0 HF0 HX0 HB4 HB5 HL
  go_wp2_with fail
  obtain ⟨We, hWe⟩ : ∃ We, We = (w6.alloc (.cells #[.int .i64 p1, .int .i64 p2] 40)).drew := ⟨_, rfl⟩
  have hbe : Below w6.heap.size w6 We := by rw [hWe]; exact ((Below.refl _ w6).alloc (Nat.le_refl _) _).drew
  have hpe : We.heap[w6.heap.size]? = some (.cells #[.int .i64 p1, .int .i64 p2] 40 (0, 0)) := by rw [hWe]; exact World.alloc_heap_new w6 _
  have hxe : We.heap[w.heap.size]? = _ := (hbe.block _ (lt_of_heap HC6.out)).trans HC6.out
  have hle := HL6.out.below hbe
  obtain ⟨vq, hlts, hlk⟩ := hle.look hp
  obtain ⟨Aq, nq, cq, rfl⟩ : ∃ A n c, vq = .slice A n c := by obtain ⟨A, c, e, _⟩ := hlts; exact ⟨A, _, c, e⟩
  simp only [keyV] at hlk
  have HS3 := Lib.hid (fun (w' : World) (hb : Below We.heap.size We w') => show w'.cell? ⟨bp, 0, none⟩ = some (.map (some b)) ∧ w'.cell? ⟨w6.heap.size, 0, none⟩ = some (.int .i64 p1) ∧ w'.cell? ⟨w6.heap.size, 1, none⟩ = some (.int .i64 p2) ∧ w'.cell? ⟨w.heap.size, 0, none⟩ = some (.int .i64 kind) ∧ w'.cell? ⟨w.heap.size, 1, none⟩ = some (.int .i64 number) ∧ w'.cell? ⟨w.heap.size, 2, none⟩ = some (.int .i64 slot) ∧ w'.cell? ⟨w.heap.size, 3, none⟩ = some (.int .i64 ends) ∧ w'.cell? ⟨w.heap.size, 4, none⟩ = some (.string key) ∧ w'.cell? ⟨w.heap.size, 5, none⟩ = some (.string text) ∧ w'.cell? ⟨w.heap.size, 6, none⟩ = some (.slice A4 na c4) ∧ w'.cell? ⟨w.heap.size, 7, none⟩ = some (.int .i64 rk) ∧ w'.cell? ⟨w.heap.size, 8, none⟩ = some (.int .i64 ri) ∧ w'.cell? ⟨w.heap.size, 9, none⟩ = some (.string rt) ∧ w'.cell? ⟨w.heap.size, 10, none⟩ = some (.slice A5 rn c5) ∧ w'.cell? ⟨w.heap.size, 11, none⟩ = some (.bool good) ∧ w'.cell? ⟨w.heap.size, 12, none⟩ = some (.int .i64 asking) ∧ (Instr.lookup 51 (.map (some b)) (.agg #[.int .i64 p1, .int .i64 p2]) false).run Try.prog w' = .ok (.slice Aq nq cq) w' from by
    have hp' := (hb.block _ (lt_of_heap hpe)).trans hpe
    have hx' := (hb.block _ (lt_of_heap hxe)).trans hxe
    refine ⟨(hle.below hb).cell, ?_, ?_, ?_⟩
    · rw [cell_of_row _ _ _ _ _ _ hp']; rfl
    · rw [cell_of_row _ _ _ _ _ _ hp']; rfl
    · refine ⟨?_, ?_, ?_, ?_, ?_, ?_, ?_, ?_, ?_, ?_, ?_, ?_, ?_, hlk w' (hb.block b hle.lt.2)⟩ <;> rw [cell_of_row _ _ _ _ _ _ hx'] <;> rfl)
  obtain ⟨hq0, hq1, hq2, hq3, olds, hol, hoc, hfin⟩ := lts_cells hlts
  have hnq : nq < 1000000 := by rw [hq0]; exact Nat.lt_of_le_of_lt (queue_le _ _) hw
  have HQ := Lib.hid (show nq ≤ cq ∧ cq ≤ maxLen ∧ (Aq = none → cq = 0) from ⟨hq1, hq2, hq3⟩)
  have HQn := Lib.hid (fun (e : Aq = none) => show nq = 0 ∧ nq = 0 from by have := hq3 e; omega)
  have HOl := Lib.hid hol
  have HOc := Lib.hid (fun b (e : Aq = some b) (j : Nat) (u : Value) (hj : olds[j]? = some u) => show (We.alloc (.cells #[.int .i64 kind, .int .i64 number, .int .i64 slot, .int .i64 ends, .string key, .string text, .slice A4 na c4, .int .i64 rk, .int .i64 ri, .string rt, .slice A5 rn c5, .bool good, .int .i64 asking] 33)).cell? (b.add j) = some u from Lib.cell?_alloc_some _ (hoc b e j u hj))
  have HNews := Lib.hid (World.news_of_block (World.alloc_heap_new We (.cells #[.int .i64 kind, .int .i64 number, .int .i64 slot, .int .i64 ends, .string key, .string text, .slice A4 na c4, .int .i64 rk, .int .i64 ri, .string rt, .slice A5 rn c5, .bool good, .int .i64 asking] 33)))
  have HOne := Lib.hid HLt.out.one
  have hbx : Below We.heap.size We (We.alloc (.cells #[.int .i64 kind, .int .i64 number, .int .i64 slot, .int .i64 ends, .string key, .string text, .slice A4 na c4, .int .i64 rk, .int .i64 ri, .string rt, .slice A5 rn c5, .bool good, .int .i64 asking] 33)) := (Below.refl _ We).alloc (Nat.le_refl _) _
  have hbg : ∀ w8, (We.alloc (.cells #[.int .i64 kind, .int .i64 number, .int .i64 slot, .int .i64 ends, .string key, .string text, .slice A4 na c4, .int .i64 rk, .int .i64 ri, .string rt, .slice A5 rn c5, .bool good, .int .i64 asking] 33)).grownBy w8 none → Below We.heap.size We w8 := fun w8 hg => hbx.grown hg (by simp) (fun k e => by cases e)
  have HSg := Lib.hid (fun (w8 : World) (hg : (We.alloc (.cells #[.int .i64 kind, .int .i64 number, .int .i64 slot, .int .i64 ends, .string key, .string text, .slice A4 na c4, .int .i64 rk, .int .i64 ri, .string rt, .slice A5 rn c5, .bool good, .int .i64 asking] 33)).grownBy w8 none) => HS3.out w8 (hbg w8 hg))
  have hwe : w.heap.size ≤ We.heap.size := Nat.le_trans HB6.out.size hbe.size
  have HUp := Lib.hid (fun (v8 : Value) (w8 : World) (ho : w8.ownsRow (We.alloc (.cells #[.int .i64 kind, .int .i64 number, .int .i64 slot, .int .i64 ends, .string key, .string text, .slice A4 na c4, .int .i64 rk, .int .i64 ri, .string rt, .slice A5 rn c5, .bool good, .int .i64 asking] 33)).heap.size 33 13 v8 (nq + 1) (olds ++ [.int .i64 kind, .int .i64 number, .int .i64 slot, .int .i64 ends, .string key, .string text, .slice A4 na c4, .int .i64 rk, .int .i64 ri, .string rt, .slice A5 rn c5, .bool good, .int .i64 asking])) (hg : (We.alloc (.cells #[.int .i64 kind, .int .i64 number, .int .i64 slot, .int .i64 ends, .string key, .string text, .slice A4 na c4, .int .i64 rk, .int .i64 ri, .string rt, .slice A5 rn c5, .bool good, .int .i64 asking] 33)).grownBy w8 none) =>
    (hle.below (hbg w8 hg)).send hp (x := ⟨kind, number, slot, ends, key, text, args, .mk rk ri rt rn rl, good, asking⟩) (v := v8) (hfin w8 v8 _ _ _ (.of_below (hbg w8 hg) S) ho (fun k hk => HSS.out k (by simp at hk; omega)) (HLt.out.keep (.of_below (hbe.trans ((hbg w8 hg).mono hbe.size)) S))) hn)
  simp only [keyV] at HUp
  have HBg := Lib.hid (fun (w8 : World) (hg : (We.alloc (.cells #[.int .i64 kind, .int .i64 number, .int .i64 slot, .int .i64 ends, .string key, .string text, .slice A4 na c4, .int .i64 rk, .int .i64 ri, .string rt, .slice A5 rn c5, .bool good, .int .i64 asking] 33)).grownBy w8 none) => HB6.out.trans ((hbe.trans ((hbg w8 hg).mono hbe.size)).mono HB6.out.size))
  have HWe := Lib.hid hWe
  obtain ⟨i0, hi0_, hz0_, hz1_, hz2_⟩ := info_parts info33
  have HBlt := Lib.hid HL6.out.lt
  clear hWe hbe hpe hxe hle hlts hlk hq1 hq2 hq3 hol hoc hfin hbx hbg hwe HLt HL6 HB6 HC6 hq0
  refine start_ (n := 16) (S := fun w' => w'.cell? ⟨bp, 0, none⟩ = some (.map (some b)) ∧ w'.cell? ⟨w6.heap.size, 0, none⟩ = some (.int .i64 p1) ∧ w'.cell? ⟨w6.heap.size, 1, none⟩ = some (.int .i64 p2) ∧ w'.cell? ⟨w.heap.size, 0, none⟩ = some (.int .i64 kind) ∧ w'.cell? ⟨w.heap.size, 1, none⟩ = some (.int .i64 number) ∧ w'.cell? ⟨w.heap.size, 2, none⟩ = some (.int .i64 slot) ∧ w'.cell? ⟨w.heap.size, 3, none⟩ = some (.int .i64 ends) ∧ w'.cell? ⟨w.heap.size, 4, none⟩ = some (.string key) ∧ w'.cell? ⟨w.heap.size, 5, none⟩ = some (.string text) ∧ w'.cell? ⟨w.heap.size, 6, none⟩ = some (.slice A4 na c4) ∧ w'.cell? ⟨w.heap.size, 7, none⟩ = some (.int .i64 rk) ∧ w'.cell? ⟨w.heap.size, 8, none⟩ = some (.int .i64 ri) ∧ w'.cell? ⟨w.heap.size, 9, none⟩ = some (.string rt) ∧ w'.cell? ⟨w.heap.size, 10, none⟩ = some (.slice A5 rn c5) ∧ w'.cell? ⟨w.heap.size, 11, none⟩ = some (.bool good) ∧ w'.cell? ⟨w.heap.size, 12, none⟩ = some (.int .i64 asking) ∧ (Instr.lookup 51 (.map (some b)) (.agg #[.int .i64 p1, .int .i64 p2]) false).run Try.prog w' = .ok (.slice Aq nq cq) w') (ds := [15]) #[false, false, false, false, false, false, false, false, false, false, false, false, false, false, false, false] (by kernel_rfl) rfl rfl (by rw [← HWe.out]; exact HS3.out We (Below.refl _ _)) (fun hHeld => ?_)
  rw [← HWe.out] at hHeld ⊢
  refine pure_ (i := 0) (N := some 20) (v := ?_) (a' := ?_) #[true, false, false, false, false, false, false, false, false, false, false, false, false, false, false, false] rfl rfl (by kernel_rfl) (fun _ _ _ h => h) (Or.inl ⟨by rfl, ?_⟩) ?_ ?_
  rotate_left
  · intro w'
    go_simp
    with_reducible rfl
  rotate_left
  · simp only [Act.put, List.setIfInBounds_toArray, List.set_cons_zero, List.set_cons_succ, i64_w, i32_w]
    rfl
  refine pure_ (i := 1) (N := some 21) (v := ?_) (a' := ?_) #[true, true, false, false, false, false, false, false, false, false, false, false, false, false, false, false] rfl rfl (by kernel_rfl) (fun _ _ _ h => h) (Or.inl ⟨by rfl, ?_⟩) ?_ ?_
  rotate_left
  · intro w'
    go_simp
    with_reducible rfl
  rotate_left
  · simp only [Act.put, List.setIfInBounds_toArray, List.set_cons_zero, List.set_cons_succ, i64_w, i32_w]
    rfl
  refine pure_ (i := 2) (N := some 22) (v := ?_) (a' := ?_) #[true, true, true, false, false, false, false, false, false, false, false, false, false, false, false, false] rfl rfl (by kernel_rfl) (fun _ _ _ h => h) (Or.inl ⟨by rfl, ?_⟩) ?_ ?_
  rotate_left
  · intro w'
    go_simp
    with_reducible rfl
  rotate_left
  · simp only [Act.put, List.setIfInBounds_toArray, List.set_cons_zero, List.set_cons_succ, i64_w, i32_w]
    rfl
  refine take_ (i := 3) (N := some 23) (v := ?_) (a' := ?_) #[true, true, true, true, false, false, false, false, false, false, false, false, false, false, false, false] rfl rfl (by kernel_rfl) (fun _ _ _ h => h) (Or.inl ⟨by rfl, ?_⟩) hHeld ?_ ?_
  rotate_left
  · rintro w' ⟨s0, s1, s2, s3, s4, s5, s6, s7, s8, s9, s10, s11, s12, s13, s14, s15, s16⟩
    go_simp
    with_reducible rfl
  rotate_left
  · simp only [Act.put, List.setIfInBounds_toArray, List.set_cons_zero, List.set_cons_succ, i64_w, i32_w]
    rfl
  refine take_ (i := 4) (N := some 24) (v := ?_) (a' := ?_) #[true, true, true, true, true, false, false, false, false, false, false, false, false, false, false, false] rfl rfl (by kernel_rfl) (fun _ _ _ h => h) (Or.inl ⟨by rfl, ?_⟩) hHeld ?_ ?_
  rotate_left
  · rintro w' ⟨s0, s1, s2, s3, s4, s5, s6, s7, s8, s9, s10, s11, s12, s13, s14, s15, s16⟩
    go_simp
    with_reducible rfl
  rotate_left
  · simp only [Act.put, List.setIfInBounds_toArray, List.set_cons_zero, List.set_cons_succ, i64_w, i32_w]
    rfl
  refine pure_ (i := 5) (N := some 25) (v := ?_) (a' := ?_) #[true, true, true, true, true, true, false, false, false, false, false, false, false, false, false, false] rfl rfl (by kernel_rfl) (fun _ _ _ h => h) (Or.inl ⟨by rfl, ?_⟩) ?_ ?_
  rotate_left
  · intro w'
    go_simp
    with_reducible rfl
  rotate_left
  · simp only [Act.put, List.setIfInBounds_toArray, List.set_cons_zero, List.set_cons_succ, i64_w, i32_w]
    rfl
  refine pure_ (i := 6) (N := some 26) (v := ?_) (a' := ?_) #[true, true, true, true, true, true, true, false, false, false, false, false, false, false, false, false] rfl rfl (by kernel_rfl) (fun _ _ _ h => h) (Or.inl ⟨by rfl, ?_⟩) ?_ ?_
  rotate_left
  · intro w'
    go_simp
    with_reducible rfl
  rotate_left
  · simp only [Act.put, List.setIfInBounds_toArray, List.set_cons_zero, List.set_cons_succ, i64_w, i32_w]
    rfl
  refine pure_ (i := 7) (N := some 27) (v := ?_) (a' := ?_) #[true, true, true, true, true, true, true, true, false, false, false, false, false, false, false, false] rfl rfl (by kernel_rfl) (fun _ _ _ h => h) (Or.inl ⟨by rfl, ?_⟩) ?_ ?_
  rotate_left
  · intro w'
    go_simp
    with_reducible rfl
  rotate_left
  · simp only [Act.put, List.setIfInBounds_toArray, List.set_cons_zero, List.set_cons_succ, i64_w, i32_w]
    rfl
  refine take_ (i := 8) (N := some 28) (v := ?_) (a' := ?_) #[true, true, true, true, true, true, true, true, true, false, false, false, false, false, false, false] rfl rfl (by kernel_rfl) (fun _ _ _ h => h) (Or.inl ⟨by rfl, ?_⟩) hHeld ?_ ?_
  rotate_left
  · rintro w' ⟨s0, s1, s2, s3, s4, s5, s6, s7, s8, s9, s10, s11, s12, s13, s14, s15, s16⟩
    go_simp
    with_reducible rfl
  rotate_left
  · simp only [Act.put, List.setIfInBounds_toArray, List.set_cons_zero, List.set_cons_succ, i64_w, i32_w]
    rfl
  refine take_ (i := 9) (N := some 29) (v := ?_) (a' := ?_) #[true, true, true, true, true, true, true, true, true, true, false, false, false, false, false, false] rfl rfl (by kernel_rfl) (fun _ _ _ h => h) (Or.inl ⟨by rfl, ?_⟩) hHeld ?_ ?_
  rotate_left
  · rintro w' ⟨s0, s1, s2, s3, s4, s5, s6, s7, s8, s9, s10, s11, s12, s13, s14, s15, s16⟩
    go_simp
    with_reducible rfl
  rotate_left
  · simp only [Act.put, List.setIfInBounds_toArray, List.set_cons_zero, List.set_cons_succ, i64_w, i32_w]
    rfl
  refine take_ (i := 10) (N := some 30) (v := ?_) (a' := ?_) #[true, true, true, true, true, true, true, true, true, true, true, false, false, false, false, false] rfl rfl (by kernel_rfl) (fun _ _ _ h => h) (Or.inl ⟨by rfl, ?_⟩) hHeld ?_ ?_
  rotate_left
  · rintro w' ⟨s0, s1, s2, s3, s4, s5, s6, s7, s8, s9, s10, s11, s12, s13, s14, s15, s16⟩
    go_simp
    with_reducible rfl
  rotate_left
  · simp only [Act.put, List.setIfInBounds_toArray, List.set_cons_zero, List.set_cons_succ, i64_w, i32_w]
    rfl
  refine take_ (i := 12) (N := some 32) (v := ?_) (a' := ?_) #[true, true, true, true, true, true, true, true, true, true, true, false, true, false, false, false] rfl rfl (by kernel_rfl) (fun _ _ _ h => h) (Or.inl ⟨by rfl, ?_⟩) hHeld ?_ ?_
  rotate_left
  · rintro w' ⟨s0, s1, s2, s3, s4, s5, s6, s7, s8, s9, s10, s11, s12, s13, s14, s15, s16⟩
    go_simp
    with_reducible rfl
  rotate_left
  · simp only [Act.put, List.setIfInBounds_toArray, List.set_cons_zero, List.set_cons_succ, i64_w, i32_w]
    rfl
  refine join_ (σ := Unit) 2 #[true, true, true, true, true, true, true, true, true, true, true, true, true, true, false, false] (fun _ => [(31, .slice Aq nq nq), (33, .slice (some ⟨We.heap.size, 0, none⟩) 1 1)]) (fun _ w' => w' = We.alloc (.cells #[.int .i64 kind, .int .i64 number, .int .i64 slot, .int .i64 ends, .string key, .string text, .slice A4 na c4, .int .i64 rk, .int .i64 ri, .string rt, .slice A5 rn c5, .bool good, .int .i64 asking] 33)) ?jc ?jh
  case jh =>
    intro H
    refine two_ (i := 11) (j := 13) (Ni := some 31) (Nj := some 33) #[true, true, true, true, true, true, true, true, true, true, true, true, true, false, false, false] #[true, true, true, true, true, true, true, true, true, true, true, false, true, true, false, false] rfl rfl rfl rfl (by kernel_rfl) (by decide) (by decide) (fun K hK => ?_) (fun K hK => ?_)
    · skip
      refine goes_ Try.func25 (by kernel_rfl) rfl #[.slice Aq nq cq] (by rfl) rfl rfl (by (try simp only [List.map_toArray, List.map_cons, List.map_nil]); first | done | rfl) ?_
      refine (clip_any Aq nq cq _ HQ.out.1 HQ.out.2.1 HQ.out.2.2).mono ?_
      rintro ee w7 ⟨rfl, rfl⟩
      refine ⟨_, rfl, ?_⟩
      refine hK.out _ _ (HS3.out We (Below.refl _ _)) (fun hHeld => ?_)
      clear hK K
      refine norm_ (a' := ?_) ?_ ?_
      rotate_left
      · simp only [Act.put, List.setIfInBounds_toArray, List.set_cons_zero, List.set_cons_succ, i64_w, i32_w]
        rfl
      refine one_ (i := 13) (N := some 33) #[true, true, true, true, true, true, true, true, true, true, true, true, true, true, false, false] rfl rfl (by kernel_rfl) (by decide) (fun K hK => ?_)
      refine value_ (v := .slice (some ⟨We.heap.size, 0, none⟩) 1 1) (w1 := We.alloc (.cells #[.int .i64 kind, .int .i64 number, .int .i64 slot, .int .i64 ends, .string key, .string text, .slice A4 na c4, .int .i64 rk, .int .i64 ri, .string rt, .slice A5 rn c5, .bool good, .int .i64 asking] 33)) (by rfl) rfl (by go_simp) ?_
      refine hK.out _ _ (HS3.out _ ((Below.refl _ We).alloc (Nat.le_refl _) _)) (fun hHeld => ?_)
      exact norm_ (by rfl) (H () _ rfl)
    · skip
      refine value_ (v := .slice (some ⟨We.heap.size, 0, none⟩) 1 1) (w1 := We.alloc (.cells #[.int .i64 kind, .int .i64 number, .int .i64 slot, .int .i64 ends, .string key, .string text, .slice A4 na c4, .int .i64 rk, .int .i64 ri, .string rt, .slice A5 rn c5, .bool good, .int .i64 asking] 33)) (by rfl) rfl (by go_simp) ?_
      refine hK.out _ _ (HS3.out _ ((Below.refl _ We).alloc (Nat.le_refl _) _)) (fun hHeld => ?_)
      clear hK K
      refine norm_ (a' := ?_) ?_ ?_
      rotate_left
      · simp only [Act.put, List.setIfInBounds_toArray, List.set_cons_zero, List.set_cons_succ, i64_w, i32_w]
        rfl
      refine one_ (i := 11) (N := some 31) #[true, true, true, true, true, true, true, true, true, true, true, true, true, true, false, false] rfl rfl (by kernel_rfl) (by decide) (fun K hK => ?_)
      refine goes_ Try.func25 (by kernel_rfl) rfl #[.slice Aq nq cq] (by rfl) rfl rfl (by (try simp only [List.map_toArray, List.map_cons, List.map_nil]); first | done | rfl) ?_
      refine (clip_any Aq nq cq _ HQ.out.1 HQ.out.2.1 HQ.out.2.2).mono ?_
      rintro ee w7 ⟨rfl, rfl⟩
      refine ⟨_, rfl, ?_⟩
      refine hK.out _ _ (HS3.out _ ((Below.refl _ We).alloc (Nat.le_refl _) _)) (fun hHeld => ?_)
      exact norm_ (by rfl) (H () _ rfl)
  case jc =>
  rintro _ w' rfl
  refine norm_ (a' := ?_) ?_ ?_
  rotate_left
  · simp only [putAll, Act.put, List.setIfInBounds_toArray, List.set_cons_zero, List.set_cons_succ, i64_w, i32_w]
    rfl
  refine one_ (i := 14) (N := some 34) #[true, true, true, true, true, true, true, true, true, true, true, true, true, true, true, false] rfl rfl (by kernel_rfl) (by decide) (fun K hK => ?_)
  rw [if_pos (by rfl)]
  refine wp_append_grows_ _ _ _ 63 rfl 33 i0 _ 13 160 Try.underlying63 hi0_ hz0_ hz1_ hz2_ rfl (by decide) Aq nq nq olds (by rfl) HQn.out HOl.out HOc.out ⟨We.heap.size, 0, none⟩ 1 1 _ (by rfl) rfl HNews.out HOne.out (by omega) (by unfold maxLen; omega) (by omega) ?_
  intro v8 w8 hown8 hgr8
  obtain ⟨w9, hup, hL9, hgr9⟩ := HUp.out v8 w8 hown8 hgr8
  obtain ⟨g8, cap8, cur8, rfl⟩ : ∃ (g cap : Nat) (x : Nat), v8 = .slice (some ⟨g, 0, none⟩) (nq + 1) cap := by
    rcases own_cases hown8 with ⟨_, h0⟩ | ⟨g, cap, _, e, _⟩
    · omega
    · exact ⟨g, cap, 0, e⟩
  have HL9 := Lib.hid hL9
  have HG8 := Lib.hid hgr8
  have HG9 := Lib.hid hgr9
  clear hown8 hgr8 hL9 hgr9
  refine hK.out _ _ (HSg.out w8 HG8.out) (fun hHeld => ?_)
  clear hK K
  refine norm_ (a' := ?_) ?_ ?_
  rotate_left
  · simp only [Act.put, List.setIfInBounds_toArray, List.set_cons_zero, List.set_cons_succ, i64_w, i32_w]
    rfl
  refine last_ (i := 15) (N := none) #[true, true, true, true, true, true, true, true, true, true, true, true, true, true, true, true] rfl rfl (by kernel_rfl) (by decide) (fun K hK => ?_)
  refine skip_ (w1 := w9) (by rfl) rfl (by go_simp) ?_
  refine hK.out _ _ ?_
  clear hK K
  refine done_ (by kernel_rfl) ?_
  go_wp2_with fail
  go_end0
  exact ⟨rfl, HL9.out, (Off.of_below (HBg.out w8 HG8.out) b).trans (Off.of_grown HG9.out (fun j e => by cases e; rfl))⟩
end Go.Proofs.Ytjplobfacdcgcaa
