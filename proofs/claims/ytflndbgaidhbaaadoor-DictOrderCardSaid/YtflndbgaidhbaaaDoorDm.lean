/-
  The plain law of the dict: a dict of two tables of rooms, as lists; what step, put, delete and get do to its names and values. No program, no memory.
-/
namespace Go.Proofs.YtflndbgaidhbaaaDoor.Dm

abbrev Nm := List UInt8
abbrev Room (α : Type) := List (Nm × α)

/-- The two tables; which room of the elder one is taken over next; how many names there are. -/
structure D (α : Type) where
  now : List (Room α)
  old : List (Room α)
  next : Nat
  many : Nat

section
variable {α : Type}

/-! ### A room: where a name stands in it -/
def ix (n : Nm) : Room α → Option Nat
  | [] => none
  | x :: r => if x.1 = n then some 0 else (ix n r).map (· + 1)

theorem ix_none {n : Nm} : ∀ {r : Room α}, ix n r = none ↔ ∀ x ∈ r, x.1 ≠ n
  | [] => by simp [ix]
  | x :: r => by
    unfold ix
    split
    · rename_i h; simp [h]
    · rename_i h; simp [ix_none, h]

theorem ix_some {n : Nm} : ∀ {r : Room α} {k : Nat}, ix n r = some k → ∃ a x b, r = a ++ x :: b ∧ a.length = k ∧ x.1 = n
  | [], k, h => by simp [ix] at h
  | x :: r, k, h => by
    unfold ix at h
    split at h
    · rename_i he
      obtain rfl : 0 = k := by simpa using h
      exact ⟨[], x, r, rfl, rfl, he⟩
    · obtain ⟨j, hj, rfl⟩ := Option.map_eq_some_iff.1 h
      obtain ⟨a, y, b, rfl, hl, hy⟩ := ix_some hj
      exact ⟨x :: a, y, b, rfl, by simp [hl], hy⟩

theorem ix_lt {n : Nm} {r : Room α} {k : Nat} (h : ix n r = some k) : k < r.length := by
  obtain ⟨a, x, b, rfl, rfl, _⟩ := ix_some h
  simp

/-! ### Tables -/
variable (h : Nm → Nat)

def at_ (t : List (Room α)) (n : Nm) : Nat := h n % t.length
/-- An item behind those of its room. -/
def put1 (t : List (Room α)) (x : Nm × α) : List (Room α) := t.set (at_ h t x.1) (t.getD (at_ h t x.1) [] ++ [x])
def take (t : List (Room α)) (r : Room α) : List (Room α) := r.foldl (put1 h) t

theorem put1_length (t : List (Room α)) (x : Nm × α) : (put1 h t x).length = t.length := by simp [put1]
theorem take_length (r : Room α) : ∀ t : List (Room α), (take h t r).length = t.length := by
  induction r with
  | nil => intro t; rfl
  | cons x r ih => intro t; simp only [take, List.foldl_cons] at ih ⊢; rw [ih, put1_length]

/-- What lies in room i, whatever the rooms are: the rooms ahead of it and behind it. -/
theorem flat_set (t : List (Room α)) (i : Nat) (r r' : Room α) (hi : t[i]? = some r) :
    ∃ a b, t.flatten = a ++ (r ++ b) ∧ (t.set i r').flatten = a ++ (r' ++ b) := by
  obtain ⟨hl, rfl⟩ := List.getElem?_eq_some_iff.1 hi
  refine ⟨(t.take i).flatten, (t.drop (i + 1)).flatten, ?_, ?_⟩
  · have e : t = t.take i ++ t[i] :: t.drop (i + 1) := by
      rw [← List.drop_eq_getElem_cons hl, List.take_append_drop]
    have := congrArg List.flatten e
    rw [List.flatten_append, List.flatten_cons] at this
    exact this
  · rw [List.set_eq_take_append_cons_drop, if_pos hl]
    simp

theorem flat_put1 (t : List (Room α)) (x : Nm × α) (hp : 0 < t.length) : (put1 h t x).flatten.Perm (x :: t.flatten) := by
  have hi : at_ h t x.1 < t.length := Nat.mod_lt _ hp
  obtain ⟨a, b, h1, h2⟩ := flat_set t (at_ h t x.1) _ (t.getD (at_ h t x.1) [] ++ [x]) (List.getElem?_eq_getElem hi)
  unfold put1
  rw [h2, h1]
  have : t.getD (at_ h t x.1) [] = t[at_ h t x.1] := by simp [hi]
  rw [this]
  refine List.Perm.trans ?_ (List.perm_middle (l₁ := a ++ t[at_ h t x.1]) (l₂ := b) (a := x) |>.trans ?_)
  · simp
  · simp

theorem flat_take (r : Room α) : ∀ (t : List (Room α)), 0 < t.length → (take h t r).flatten.Perm (r ++ t.flatten) := by
  induction r with
  | nil => intro t _; exact List.Perm.refl _
  | cons x r ih =>
    intro t hp
    have h1 := ih (put1 h t x) (by rw [put1_length]; exact hp)
    have h2 : (take h t (x :: r)) = take h (put1 h t x) r := rfl
    rw [h2]
    refine h1.trans ?_
    refine ((flat_put1 h t x hp).append_left r).trans ?_
    exact List.perm_middle

/-- Every item of room i is one that belongs there. -/
def Right (t : List (Room α)) : Prop := ∀ i r, t[i]? = some r → ∀ x ∈ r, at_ h t x.1 = i

theorem right_put1 {t : List (Room α)} (x : Nm × α) (hr : Right h t) : Right h (put1 h t x) := by
  intro i r hi y hy
  have hat : at_ h (put1 h t x) y.1 = at_ h t y.1 := by unfold at_; rw [put1_length]
  rw [hat]
  unfold put1 at hi
  rw [List.getElem?_set] at hi
  split at hi
  · rename_i he
    split at hi
    · rename_i hl
      obtain rfl := Option.some.inj hi
      rcases List.mem_append.1 hy with hy | hy
      · rw [← he]
        have : t.getD (at_ h t x.1) [] = t[at_ h t x.1] := by simp [hl]
        rw [this] at hy
        exact hr _ _ (List.getElem?_eq_getElem hl) y hy
      · rw [List.mem_singleton.1 hy]
        exact he
    · simp at hi
  · exact hr i r hi y hy

theorem right_take (r : Room α) : ∀ {t : List (Room α)}, Right h t → Right h (take h t r) := by
  induction r with
  | nil => intro t ht; exact ht
  | cons x r ih => intro t ht; exact ih (right_put1 h x ht)

theorem right_set {t : List (Room α)} {i : Nat} {r r' : Room α} (ht : Right h t) (hi : t[i]? = some r) (hr : ∀ x ∈ r', ∃ y ∈ r, x.1 = y.1) : Right h (t.set i r') := by
  intro j s hj x hx
  have hat : at_ h (t.set i r') x.1 = at_ h t x.1 := by unfold at_; rw [List.length_set]
  rw [hat]
  rw [List.getElem?_set] at hj
  split at hj
  · rename_i he
    split at hj
    · obtain rfl := Option.some.inj hj
      obtain ⟨y, hy, e⟩ := hr x hx
      rw [e, ← he]
      exact ht i r hi y hy
    · simp at hj
  · exact ht j s hj x hx

theorem right_empty (n : Nat) : Right h (List.replicate n ([] : Room α)) := by
  intro i r hi x hx
  rw [List.getElem?_replicate] at hi
  split at hi
  · obtain rfl := Option.some.inj hi; simp at hx
  · simp at hi

/-- A name stands in its own room alone. -/
theorem mem_flat {t : List (Room α)} (ht : Right h t) (x : Nm × α) : x ∈ t.flatten ↔ x ∈ t.getD (at_ h t x.1) [] := by
  constructor
  · intro hx
    obtain ⟨r, hr, hx⟩ := List.mem_flatten.1 hx
    obtain ⟨i, hi, rfl⟩ := List.mem_iff_getElem.1 hr
    have := ht i _ (List.getElem?_eq_getElem hi) x hx
    rw [this]
    simpa [hi] using hx
  · intro hx
    rw [List.getD_eq_getElem?_getD] at hx
    cases e : t[at_ h t x.1]? with
    | none => rw [e] at hx; simp at hx
    | some r =>
      rw [e] at hx
      exact List.mem_flatten.2 ⟨r, List.mem_of_getElem? e, by simpa using hx⟩

/-! ### The dict -/
def D.cont (d : D α) : Room α := d.now.flatten ++ d.old.flatten

structure Inv (d : D α) : Prop where
  pos : 0 < d.now.length
  keys : (d.cont.map (·.1)).Nodup
  now : Right h d.now
  old : Right h d.old
  gone : ∀ i, i < d.next → d.old.getD i [] = []
  none_ : d.old = [] → d.next = 0
  lt : d.old ≠ [] → d.next < d.old.length
  many : d.many = d.cont.length

def new : D α := ⟨List.replicate 4 [], [], 0, 0⟩
theorem new_inv : Inv h (new : D α) where
  pos := by simp [new]
  keys := by simp [new, D.cont]
  now := right_empty h 4
  old := by intro i r hi; simp [new] at hi
  gone := by intro i hi; simp [new] at hi
  none_ := fun _ => rfl
  lt := fun e => absurd rfl e
  many := by simp [new, D.cont]

/-- A room of the elder table is taken over. -/
def step (d : D α) : D α :=
  if d.old = [] then d
  else if d.next + 1 = d.old.length then { d with now := take h d.now (d.old.getD d.next []), old := [], next := 0 }
  else { d with now := take h d.now (d.old.getD d.next []), old := d.old.set d.next [], next := d.next + 1 }

theorem step_now_length (d : D α) : (step h d).now.length = d.now.length := by
  unfold step; split
  · rfl
  · split <;> exact take_length h _ _
theorem step_many (d : D α) : (step h d).many = d.many := by
  unfold step; split
  · rfl
  · split <;> rfl

theorem flat_set_nil (t : List (Room α)) (i : Nat) (hi : i < t.length) : t.flatten.Perm (t.getD i [] ++ (t.set i []).flatten) := by
  obtain ⟨a, b, h1, h2⟩ := flat_set t i _ [] (List.getElem?_eq_getElem hi)
  rw [h1, h2]
  have : t.getD i [] = t[i] := by simp [hi]
  rw [this]
  simp only [List.nil_append]
  rw [← List.append_assoc, ← List.append_assoc]
  exact List.Perm.append_right b List.perm_append_comm

/-- All rooms but the last are empty: what is left lies in the last. -/
theorem flat_last (t : List (Room α)) (k : Nat) (hk : k + 1 = t.length) (hg : ∀ i, i < k → t.getD i [] = []) : t.flatten = t.getD k [] := by
  have ht : t = t.take k ++ [t[k]'(by omega)] := by
    have e := List.take_append_drop k t
    rw [List.drop_eq_getElem_cons (show k < t.length by omega), List.drop_eq_nil_of_le (show t.length ≤ k + 1 by omega)] at e
    exact e.symm
  have h0 : (t.take k).flatten = [] := by
    rw [List.flatten_eq_nil_iff]
    intro r hr
    obtain ⟨i, hi, rfl⟩ := List.mem_iff_getElem.1 hr
    have hik : i < k := by simp at hi; omega
    have := hg i hik
    simp only [List.getElem_take]
    simpa [show i < t.length by omega] using this
  have e : t.getD k [] = t[k]'(by omega) := by simp [show k < t.length by omega]
  rw [e]
  have := congrArg List.flatten ht
  rw [List.flatten_append, h0] at this
  simpa using this

theorem step_cont {d : D α} (hd : Inv h d) : (step h d).cont.Perm d.cont := by
  unfold step
  split
  · exact List.Perm.refl _
  · rename_i ho
    have hlt := hd.lt ho
    split
    · rename_i hlast
      unfold D.cont
      simp only [List.flatten_nil, List.append_nil]
      refine (flat_take h _ _ hd.pos).trans ?_
      rw [← flat_last d.old d.next hlast hd.gone]
      exact List.perm_append_comm
    · unfold D.cont
      simp only
      refine ((flat_take h _ _ hd.pos).append_right _).trans ?_
      refine List.Perm.trans ?_ ((flat_set_nil d.old d.next hlt).symm.append_left d.now.flatten)
      rw [← List.append_assoc]
      exact List.perm_append_comm.append_right _

theorem step_inv {d : D α} (hd : Inv h d) : Inv h (step h d) := by
  have hc := step_cont h hd
  have hk : (((step h d).cont).map (·.1)).Nodup := ((hc.map (·.1)).nodup_iff).2 hd.keys
  have hm : (step h d).many = (step h d).cont.length := by rw [step_many, hd.many, hc.length_eq]
  by_cases ho : d.old = []
  · have : step h d = d := by unfold step; rw [if_pos ho]
    rw [this]; exact hd
  · have hlt := hd.lt ho
    refine ⟨by rw [step_now_length]; exact hd.pos, hk, ?_, ?_, ?_, ?_, ?_, hm⟩
    · unfold step; rw [if_neg ho]; split <;> exact right_take h _ hd.now
    · unfold step; rw [if_neg ho]; split
      · intro i r hi; simp at hi
      · exact right_set h hd.old (List.getElem?_eq_getElem hlt) (fun x hx => by simp at hx)
    · unfold step; rw [if_neg ho]; split
      · intro i hi; simp at hi
      · intro i hi
        simp only at hi ⊢
        rw [List.getD_eq_getElem?_getD, List.getElem?_set]
        by_cases hne : d.next = i
        · rw [if_pos hne]; split <;> rfl
        · rw [if_neg hne]
          have := hd.gone i (by omega)
          rw [List.getD_eq_getElem?_getD] at this
          exact this
    · unfold step; rw [if_neg ho]; split
      · intro _; rfl
      · intro e; simp at e; exact absurd e ho
    · unfold step; rw [if_neg ho]; split
      · intro e; exact absurd rfl e
      · rename_i hl
        intro _; simp only [List.length_set]; omega

/-! ### Where a name is -/
/-- false: in the newer table; the place in its room. -/
def find (d : D α) (n : Nm) : Option (Bool × Nat) :=
  match ix n (d.now.getD (at_ h d.now n) []) with
  | some k => some (false, k)
  | none => if d.old = [] then none else (ix n (d.old.getD (at_ h d.old n) [])).map fun k => (true, k)

def get (d : D α) (n : Nm) : Option α :=
  match find h d n with
  | none => none
  | some (false, k) => ((d.now.getD (at_ h d.now n) [])[k]?).map (·.2)
  | some (true, k) => ((d.old.getD (at_ h d.old n) [])[k]?).map (·.2)

theorem find_none {d : D α} (hd : Inv h d) (n : Nm) : find h d n = none ↔ ∀ x ∈ d.cont, x.1 ≠ n := by
  unfold find D.cont
  constructor
  · intro hf x hx e
    split at hf
    · simp at hf
    · rename_i h1
      rcases List.mem_append.1 hx with hx | hx
      · have := (mem_flat h hd.now x).1 hx
        rw [e] at this
        exact (ix_none.1 h1) x this e
      · have h2 := (mem_flat h hd.old x).1 hx
        rw [e] at h2
        split at hf
        · rename_i ho; rw [ho] at hx; simp at hx
        · have h3 : ix n (d.old.getD (at_ h d.old n) []) = none := by simpa using hf
          exact (ix_none.1 h3) x h2 e
  · intro hall
    have mem_now : ∀ x ∈ d.now.getD (at_ h d.now n) [], x ∈ d.now.flatten := by
      intro x hx
      rw [List.getD_eq_getElem?_getD] at hx
      cases e : d.now[at_ h d.now n]? with
      | none => rw [e] at hx; simp at hx
      | some r => rw [e] at hx; exact List.mem_flatten.2 ⟨r, List.mem_of_getElem? e, by simpa using hx⟩
    have mem_old : ∀ x ∈ d.old.getD (at_ h d.old n) [], x ∈ d.old.flatten := by
      intro x hx
      rw [List.getD_eq_getElem?_getD] at hx
      cases e : d.old[at_ h d.old n]? with
      | none => rw [e] at hx; simp at hx
      | some r => rw [e] at hx; exact List.mem_flatten.2 ⟨r, List.mem_of_getElem? e, by simpa using hx⟩
    have h1 : ix n (d.now.getD (at_ h d.now n) []) = none := ix_none.2 fun x hx => hall x (List.mem_append_left _ (mem_now x hx))
    have h2 : ix n (d.old.getD (at_ h d.old n) []) = none := ix_none.2 fun x hx => hall x (List.mem_append_right _ (mem_old x hx))
    rw [h1]
    simp only
    split
    · rfl
    · rw [h2]; rfl

/-- Where it is found it is. -/
theorem find_some {d : D α} {n : Nm} {b : Bool} {k : Nat} (hf : find h d n = some (b, k)) :
    ∃ i r p x q, (if b then d.old else d.now)[i]? = some r ∧ i = at_ h (if b then d.old else d.now) n ∧ r = p ++ x :: q ∧ p.length = k ∧ x.1 = n := by
  unfold find at hf
  split at hf
  · rename_i k' h1
    obtain ⟨rfl, rfl⟩ : false = b ∧ k' = k := by simpa using hf
    obtain ⟨p, x, q, hr, hl, hx⟩ := ix_some h1
    refine ⟨_, _, p, x, q, ?_, rfl, rfl, hl, hx⟩
    simp only [Bool.false_eq_true, if_false]
    rw [List.getD_eq_getElem?_getD] at hr
    cases e : d.now[at_ h d.now n]? with
    | none => rw [e] at hr; simp at hr
    | some r => rw [e] at hr; simp at hr; rw [hr]
  · split at hf
    · simp at hf
    · obtain ⟨k', h1, h2⟩ := Option.map_eq_some_iff.1 hf
      obtain ⟨rfl, rfl⟩ : true = b ∧ k' = k := by simpa using h2
      obtain ⟨p, x, q, hr, hl, hx⟩ := ix_some h1
      refine ⟨_, _, p, x, q, ?_, rfl, rfl, hl, hx⟩
      simp only [if_true]
      rw [List.getD_eq_getElem?_getD] at hr
      cases e : d.old[at_ h d.old n]? with
      | none => rw [e] at hr; simp at hr
      | some r => rw [e] at hr; simp at hr; rw [hr]


/-- One item of one room is turned into r' (a new value; or nothing). -/
def edit (d : D α) (b : Bool) (i : Nat) (r' : Room α) : D α := if b then { d with old := d.old.set i r' } else { d with now := d.now.set i r' }

theorem edit_cont (d : D α) (b : Bool) (i : Nat) (r r' : Room α) (hi : (if b then d.old else d.now)[i]? = some r) :
    ∃ p q, d.cont = p ++ (r ++ q) ∧ (edit d b i r').cont = p ++ (r' ++ q) := by
  unfold edit D.cont
  cases b with
  | true =>
    simp only [if_true] at hi ⊢
    obtain ⟨p, q, h1, h2⟩ := flat_set d.old i r r' hi
    exact ⟨d.now.flatten ++ p, q, by rw [h1, List.append_assoc], by rw [h2, List.append_assoc]⟩
  | false =>
    simp only [Bool.false_eq_true, if_false] at hi ⊢
    obtain ⟨p, q, h1, h2⟩ := flat_set d.now i r r' hi
    exact ⟨p, q ++ d.old.flatten, by rw [h1]; simp, by rw [h2]; simp⟩

theorem edit_now_length (d : D α) (b : Bool) (i : Nat) (r' : Room α) : (edit d b i r').now.length = d.now.length := by
  unfold edit; split <;> simp
theorem edit_old_length (d : D α) (b : Bool) (i : Nat) (r' : Room α) : (edit d b i r').old.length = d.old.length := by
  unfold edit; split <;> simp
theorem edit_next (d : D α) (b : Bool) (i : Nat) (r' : Room α) : (edit d b i r').next = d.next := by unfold edit; split <;> rfl
theorem edit_many (d : D α) (b : Bool) (i : Nat) (r' : Room α) : (edit d b i r').many = d.many := by unfold edit; split <;> rfl
theorem edit_old_nil (d : D α) (b : Bool) (i : Nat) (r' : Room α) : (edit d b i r').old = [] ↔ d.old = [] := by
  rw [← List.length_eq_zero_iff, edit_old_length, List.length_eq_zero_iff]

/-- What an edit that brings in no other name keeps. -/
theorem edit_inv {d : D α} (hd : Inv h d) {b : Bool} {i : Nat} {r r' : Room α} (hi : (if b then d.old else d.now)[i]? = some r)
    (hr : ∀ x ∈ r', ∃ y ∈ r, x.1 = y.1) (hn : ((edit d b i r').cont.map (·.1)).Nodup) (m : Nat) (hm : m = (edit d b i r').cont.length) : Inv h { edit d b i r' with many := m } := by
  have hlen := edit_old_length d b i r'
  have hnil := edit_old_nil d b i r'
  refine ⟨by rw [show ({ edit d b i r' with many := m } : D α).now.length = _ from edit_now_length d b i r']; exact hd.pos, hn, ?_, ?_, ?_, ?_, ?_, hm⟩
  · cases b with
    | true => exact hd.now
    | false => exact right_set h hd.now hi hr
  · cases b with
    | true => exact right_set h hd.old hi hr
    | false => exact hd.old
  · intro j hj
    have hj' : j < d.next := by rw [show ({ edit d b i r' with many := m } : D α).next = _ from edit_next d b i r'] at hj; exact hj
    have := hd.gone j hj'
    cases b with
    | false => exact this
    | true =>
      show (d.old.set i r').getD j [] = []
      rw [List.getD_eq_getElem?_getD, List.getElem?_set]
      by_cases e : i = j
      · subst e
        rw [if_pos rfl]
        have hi' : d.old[i]? = some r := hi
        rw [List.getD_eq_getElem?_getD, hi'] at this
        have hr0 : r = [] := this
        split
        · subst hr0
          cases r' with
          | nil => rfl
          | cons x t => obtain ⟨y, hy, _⟩ := hr x List.mem_cons_self; simp at hy
        · rfl
      · rw [if_neg e, ← List.getD_eq_getElem?_getD]; exact this
  · intro e
    rw [show ({ edit d b i r' with many := m } : D α).next = _ from edit_next d b i r']
    exact hd.none_ (hnil.1 e)
  · intro e
    rw [show ({ edit d b i r' with many := m } : D α).next = _ from edit_next d b i r', show ({ edit d b i r' with many := m } : D α).old.length = _ from hlen]
    exact hd.lt (fun e' => e (hnil.2 e'))

/-- A newer table is begun. -/
def begin_ (d : D α) (n : Nat) : D α := { d with now := List.replicate n [], old := d.now }
theorem begin_cont {d : D α} (ho : d.old = []) (n : Nat) : (begin_ d n).cont = d.cont := by
  unfold begin_ D.cont
  simp [ho]
theorem begin_inv {d : D α} (hd : Inv h d) (ho : d.old = []) {n : Nat} (hn : 0 < n) : Inv h (begin_ d n) := by
  have h0 : (begin_ d n).next = 0 := hd.none_ ho
  refine ⟨by simpa [begin_] using hn, by rw [begin_cont ho]; exact hd.keys, right_empty h n, hd.now, ?_, fun _ => h0, ?_, by rw [begin_cont ho]; exact hd.many⟩
  · intro i hi; rw [h0] at hi; omega
  · intro _; rw [h0]; exact hd.pos

/-! ### Put -/
def put2 (d : D α) (n : Nm) (v : α) : D α :=
  match find h d n with
  | some (b, k) => edit d b (at_ h (if b then d.old else d.now) n) (((if b then d.old else d.now).getD (at_ h (if b then d.old else d.now) n) []).set k (n, v))
  | none => if d.old = [] ∧ d.now.length < d.many + 1 then begin_ { d with now := put1 h d.now (n, v), many := d.many + 1 } (2 * d.now.length)
    else { d with now := put1 h d.now (n, v), many := d.many + 1 }
def put (d : D α) (n : Nm) (v : α) : D α := put2 h (step h d) n v

theorem add_cont (d : D α) (hp : 0 < d.now.length) (n : Nm) (v : α) : ({ d with now := put1 h d.now (n, v), many := d.many + 1 } : D α).cont.Perm ((n, v) :: d.cont) :=
  ((flat_put1 h d.now (n, v) hp).append_right d.old.flatten)
theorem add_inv {d : D α} (hd : Inv h d) {n : Nm} (v : α) (hn : ∀ x ∈ d.cont, x.1 ≠ n) : Inv h { d with now := put1 h d.now (n, v), many := d.many + 1 } := by
  have hc := add_cont h d hd.pos n v
  refine ⟨by simp only [put1_length]; exact hd.pos, ?_, right_put1 h _ hd.now, hd.old, hd.gone, hd.none_, hd.lt, by rw [hc.length_eq, List.length_cons, ← hd.many]⟩
  refine ((hc.map (·.1)).nodup_iff).2 ?_
  rw [List.map_cons, List.nodup_cons]
  refine ⟨fun hm => ?_, hd.keys⟩
  obtain ⟨x, hx, e⟩ := List.mem_map.1 hm
  exact hn x hx e

theorem put2_none {d : D α} (hd : Inv h d) {n : Nm} (v : α) (hf : find h d n = none) : Inv h (put2 h d n v) ∧ (put2 h d n v).cont.Perm ((n, v) :: d.cont) := by
  have hn := (find_none h hd n).1 hf
  have hi := add_inv h hd v hn
  have hc := add_cont h d hd.pos n v
  unfold put2
  rw [hf]
  simp only
  split
  · rename_i ho
    have hb := begin_cont (d := { d with now := put1 h d.now (n, v), many := d.many + 1 }) ho.1 (2 * d.now.length)
    refine ⟨begin_inv h hi ho.1 (by have := hd.pos; omega), ?_⟩
    rw [hb]; exact hc
  · exact ⟨hi, hc⟩

theorem set_mid {β : Type} (p : List β) (x : β) (q : List β) (y : β) : (p ++ x :: q).set p.length y = p ++ y :: q := by
  rw [List.set_append]; simp

theorem put2_some {d : D α} (hd : Inv h d) {n : Nm} (v : α) {b : Bool} {k : Nat} (hf : find h d n = some (b, k)) :
    Inv h (put2 h d n v) ∧ ∃ w rest, d.cont.Perm ((n, w) :: rest) ∧ (put2 h d n v).cont.Perm ((n, v) :: rest) := by
  obtain ⟨i, r, p, x, q, hi, hie, rfl, rfl, rfl⟩ := find_some h hf
  have hg : (if b then d.old else d.now).getD (at_ h (if b then d.old else d.now) x.1) [] = p ++ x :: q := by
    rw [← hie, List.getD_eq_getElem?_getD, hi]; rfl
  have he : put2 h d x.1 v = edit d b i (p ++ (x.1, v) :: q) := by
    unfold put2
    rw [hf]
    simp only
    rw [hg, set_mid, ← hie]
  rw [he]
  obtain ⟨s, t, h1, h2⟩ := edit_cont d b i (p ++ x :: q) (p ++ (x.1, v) :: q) hi
  have hk : ((edit d b i (p ++ (x.1, v) :: q)).cont.map (·.1)) = d.cont.map (·.1) := by rw [h1, h2]; simp
  refine ⟨?_, x.2, s ++ p ++ q ++ t, ?_, ?_⟩
  · have := edit_inv h hd (r' := p ++ (x.1, v) :: q) hi ?_ (by rw [hk]; exact hd.keys) d.many (by rw [hd.many, h1, h2]; simp)
    · have e : ({ edit d b i (p ++ (x.1, v) :: q) with many := d.many } : D α) = edit d b i (p ++ (x.1, v) :: q) := by
        unfold edit; cases b <;> rfl
      rw [e] at this; exact this
    · intro y hy
      rcases List.mem_append.1 hy with hy | hy
      · exact ⟨y, List.mem_append_left _ hy, rfl⟩
      · rcases List.mem_cons.1 hy with rfl | hy
        · exact ⟨x, by simp, rfl⟩
        · exact ⟨y, by simp [hy], rfl⟩
  · rw [h1]
    have := List.perm_middle (l₁ := s ++ p) (l₂ := q ++ t) (a := x)
    simpa using this
  · rw [h2]
    have := List.perm_middle (l₁ := s ++ p) (l₂ := q ++ t) (a := (x.1, v))
    simpa using this

theorem put_inv {d : D α} (hd : Inv h d) (n : Nm) (v : α) : Inv h (put h d n v) := by
  unfold put
  cases hf : find h (step h d) n with
  | none => exact (put2_none h (step_inv h hd) v hf).1
  | some bk => obtain ⟨b, k⟩ := bk; exact (put2_some h (step_inv h hd) v hf).1

/-! ### Delete -/
def del1 (d : D α) (n : Nm) : D α :=
  match find h d n with
  | some (b, k) => { edit d b (at_ h (if b then d.old else d.now) n) (((if b then d.old else d.now).getD (at_ h (if b then d.old else d.now) n) []).eraseIdx k) with many := d.many - 1 }
  | none => d
def shrink (d : D α) : D α := if d.old = [] ∧ 4 < d.now.length ∧ 4 * d.many < d.now.length then begin_ d (d.now.length / 2) else d
def del (d : D α) (n : Nm) : D α := shrink (del1 h (step h d) n)

theorem shrink_cont (d : D α) : (shrink d).cont = d.cont := by
  unfold shrink; split
  · rename_i hh; exact begin_cont hh.1 _
  · rfl
theorem shrink_inv {d : D α} (hd : Inv h d) : Inv h (shrink d) := by
  unfold shrink; split
  · rename_i hh; exact begin_inv h hd hh.1 (by omega)
  · exact hd

theorem erase_mid {β : Type} (p : List β) (x : β) (q : List β) : (p ++ x :: q).eraseIdx p.length = p ++ q := by
  rw [List.eraseIdx_append_of_length_le (Nat.le_refl _)]; simp

theorem del1_some {d : D α} (hd : Inv h d) {n : Nm} {b : Bool} {k : Nat} (hf : find h d n = some (b, k)) :
    Inv h (del1 h d n) ∧ ∃ w, d.cont.Perm ((n, w) :: (del1 h d n).cont) := by
  obtain ⟨i, r, p, x, q, hi, hie, rfl, rfl, rfl⟩ := find_some h hf
  have hg : (if b then d.old else d.now).getD (at_ h (if b then d.old else d.now) x.1) [] = p ++ x :: q := by
    rw [← hie, List.getD_eq_getElem?_getD, hi]; rfl
  have he : del1 h d x.1 = { edit d b i (p ++ q) with many := d.many - 1 } := by
    unfold del1
    rw [hf]
    simp only
    rw [hg, erase_mid, ← hie]
  rw [he]
  obtain ⟨s, t, h1, h2⟩ := edit_cont d b i (p ++ x :: q) (p ++ q) hi
  have hperm : d.cont.Perm (x :: (edit d b i (p ++ q)).cont) := by
    rw [h1, h2]
    have := List.perm_middle (l₁ := s ++ p) (l₂ := q ++ t) (a := x)
    simpa using this
  have hn : ((edit d b i (p ++ q)).cont.map (·.1)).Nodup := by
    have := ((hperm.map (·.1)).nodup_iff).1 hd.keys
    rw [List.map_cons, List.nodup_cons] at this
    exact this.2
  refine ⟨edit_inv h hd hi ?_ hn _ ?_, x.2, hperm⟩
  · intro y hy
    rcases List.mem_append.1 hy with hy | hy
    · exact ⟨y, List.mem_append_left _ hy, rfl⟩
    · exact ⟨y, by simp [hy], rfl⟩
  · rw [hd.many, hperm.length_eq, List.length_cons]; rfl

theorem del_inv {d : D α} (hd : Inv h d) (n : Nm) : Inv h (del h d n) := by
  unfold del
  apply shrink_inv
  cases hf : find h (step h d) n with
  | none => unfold del1; rw [hf]; exact step_inv h hd
  | some bk => obtain ⟨b, k⟩ := bk; exact (del1_some h (step_inv h hd) hf).1

/-! ### By membership -/
theorem keys_inj {l : Room α} (hl : (l.map (·.1)).Nodup) {x y : Nm × α} (hx : x ∈ l) (hy : y ∈ l) (e : x.1 = y.1) : x = y := by
  induction l with
  | nil => simp at hx
  | cons z l ih =>
    rw [List.map_cons, List.nodup_cons] at hl
    obtain ⟨h1, h2⟩ := hl
    rcases List.mem_cons.1 hx with ex | hx'
    · rcases List.mem_cons.1 hy with ey | hy'
      · rw [ex, ey]
      · exact absurd (List.mem_map.2 ⟨y, hy', by rw [← e, ex]⟩) h1
    · rcases List.mem_cons.1 hy with ey | hy'
      · exact absurd (List.mem_map.2 ⟨x, hx', by rw [e, ey]⟩) h1
      · exact ih h2 hx' hy'

theorem step_mem {d : D α} (hd : Inv h d) (x : Nm × α) : x ∈ (step h d).cont ↔ x ∈ d.cont := (step_cont h hd).mem_iff

theorem put_mem {d : D α} (hd : Inv h d) (n : Nm) (v : α) (x : Nm × α) : x ∈ (put h d n v).cont ↔ x = (n, v) ∨ (x ∈ d.cont ∧ x.1 ≠ n) := by
  have hs := step_inv h hd
  unfold put
  cases hf : find h (step h d) n with
  | none =>
    rw [(put2_none h hs v hf).2.mem_iff, List.mem_cons, step_mem h hd]
    have hn := (find_none h hs n).1 hf
    constructor
    · rintro (e | hx)
      · exact .inl e
      · exact .inr ⟨hx, hn x ((step_mem h hd x).2 hx)⟩
    · rintro (e | ⟨hx, _⟩)
      · exact .inl e
      · exact .inr hx
  | some bk =>
    obtain ⟨b, k⟩ := bk
    obtain ⟨_, w, rest, h1, h2⟩ := put2_some h hs v hf
    rw [h2.mem_iff, List.mem_cons, ← step_mem h hd, h1.mem_iff, List.mem_cons]
    have hnd := ((h1.map (·.1)).nodup_iff).1 hs.keys
    rw [List.map_cons, List.nodup_cons] at hnd
    constructor
    · rintro (e | hx)
      · exact .inl e
      · exact .inr ⟨.inr hx, fun e => hnd.1 (List.mem_map.2 ⟨x, hx, e⟩)⟩
    · rintro (e | ⟨e | hx, hne⟩)
      · exact .inl e
      · exact absurd (by rw [e]) hne
      · exact .inr hx

/-- Put tells whether there was such a name. -/
theorem put_was {d : D α} (hd : Inv h d) (n : Nm) : (find h (step h d) n).isSome = true ↔ ∃ v, (n, v) ∈ d.cont := by
  rw [Option.isSome_iff_ne_none, ne_eq, find_none h (step_inv h hd)]
  constructor
  · intro hx
    apply Classical.byContradiction
    intro hne
    exact hx fun x hx e => hne ⟨x.2, by rw [← e]; exact (step_mem h hd x).1 hx⟩
  · rintro ⟨v, hv⟩ hall
    exact hall (n, v) ((step_mem h hd _).2 hv) rfl

theorem del_mem {d : D α} (hd : Inv h d) (n : Nm) (x : Nm × α) : x ∈ (del h d n).cont ↔ x ∈ d.cont ∧ x.1 ≠ n := by
  have hs := step_inv h hd
  unfold del
  rw [shrink_cont]
  cases hf : find h (step h d) n with
  | none =>
    have e : del1 h (step h d) n = step h d := by unfold del1; rw [hf]
    rw [e, step_mem h hd]
    exact ⟨fun hx => ⟨hx, (find_none h hs n).1 hf x ((step_mem h hd x).2 hx)⟩, fun hx => hx.1⟩
  | some bk =>
    obtain ⟨b, k⟩ := bk
    obtain ⟨_, w, h1⟩ := del1_some h hs hf
    rw [← step_mem h hd, h1.mem_iff, List.mem_cons]
    have hnd := ((h1.map (·.1)).nodup_iff).1 hs.keys
    rw [List.map_cons, List.nodup_cons] at hnd
    constructor
    · intro hx
      exact ⟨.inr hx, fun e => hnd.1 (List.mem_map.2 ⟨x, hx, e⟩)⟩
    · rintro ⟨e | hx, hne⟩
      · exact absurd (by rw [e]) hne
      · exact hx

theorem get_mem {d : D α} (hd : Inv h d) (n : Nm) (v : α) : get h d n = some v ↔ (n, v) ∈ d.cont := by
  cases hf : find h d n with
  | none =>
    have hn := (find_none h hd n).1 hf
    unfold get
    rw [hf]
    exact ⟨fun e => by simp at e, fun hx => absurd rfl (hn _ hx)⟩
  | some bk =>
    obtain ⟨b, k⟩ := bk
    obtain ⟨i, r, p, x, q, hi, hie, rfl, rfl, rfl⟩ := find_some h hf
    have hg : (if b then d.old else d.now).getD (at_ h (if b then d.old else d.now) x.1) [] = p ++ x :: q := by
      rw [← hie, List.getD_eq_getElem?_getD, hi]; rfl
    have hx : x ∈ d.cont := by
      obtain ⟨s, t, h1, _⟩ := edit_cont d b i (p ++ x :: q) [] hi
      rw [h1]; simp
    have he : get h d x.1 = some x.2 := by
      unfold get
      rw [hf]
      cases b <;> simp only [Bool.false_eq_true, if_true, if_false] at hg ⊢ <;> rw [hg] <;> simp
    rw [he]
    constructor
    · intro e
      obtain rfl := Option.some.inj e
      exact hx
    · intro hv
      have := keys_inj hd.keys hx hv rfl
      rw [this]

/-! ### Sizes -/
theorem put_many_le {d : D α} (hd : Inv h d) (n : Nm) (v : α) : (put h d n v).many ≤ d.many + 1 := by
  rw [(put_inv h hd n v).many, hd.many]
  have hs := step_inv h hd
  have hl := (step_cont h hd).length_eq
  unfold put
  cases hf : find h (step h d) n with
  | none => rw [(put2_none h hs v hf).2.length_eq, List.length_cons]; omega
  | some bk =>
    obtain ⟨b, k⟩ := bk
    obtain ⟨_, w, rest, h1, h2⟩ := put2_some h hs v hf
    have := h1.length_eq
    rw [h2.length_eq, ← hl, this]
    simp
theorem put_rooms_le {d : D α} (n : Nm) (v : α) (N : Nat) (hr : d.now.length ≤ N) (hm : 2 * d.many ≤ N) : (put h d n v).now.length ≤ N := by
  have hl := step_now_length h d
  have hs := step_many h d
  unfold put put2
  split
  · rw [edit_now_length]; omega
  · split
    · rename_i hh
      simp only [begin_, List.length_replicate]
      omega
    · simp only [put1_length]; omega
theorem del_many_le {d : D α} (n : Nm) : (del h d n).many ≤ d.many := by
  have hs := step_many h d
  unfold del shrink
  have h1 : (del1 h (step h d) n).many ≤ d.many := by
    unfold del1
    split
    · simp only; omega
    · omega
  split
  · simp only [begin_]; exact h1
  · exact h1
theorem del_rooms_le {d : D α} (n : Nm) (N : Nat) (hr : d.now.length ≤ N) : (del h d n).now.length ≤ N := by
  have hl := step_now_length h d
  have h1 : (del1 h (step h d) n).now.length ≤ N := by
    unfold del1
    split
    · simp only [edit_now_length]; omega
    · omega
  unfold del shrink
  split
  · simp only [begin_, List.length_replicate]; omega
  · exact h1

end
end Go.Proofs.YtflndbgaidhbaaaDoor.Dm
