/- Lemmas: Plain, Entries. -/
set_option linter.unusedVariables false
set_option linter.unusedSimpArgs false
/- What the document says of ops, programs, ways, entries and machines, as plain functions on lists and integers; no program is in sight here. -/
namespace Mz

structure Op where
  code : Int
  a : Int

structure Fun where
  params : Int
  locals : List Int
  result : Int
  code : List Op

structure Val where
  ref : Bool
  n : Int

structure Frm where
  fn : Int
  pc : Int
  locals : List Val
  stack : List Val

structure Mach where
  frames : List Frm
  blocks : List (List Int)
  inp : List Int
  out : List Int
  status : Int
  trap : Int

instance : DecidableEq Op := fun x y => decidable_of_iff (x.code = y.code ∧ x.a = y.a) (by cases x; cases y; simp)
instance : DecidableEq Val := fun x y => decidable_of_iff (x.ref = y.ref ∧ x.n = y.n) (by cases x; cases y; simp)
instance : DecidableEq Frm := fun x y => decidable_of_iff (x.fn = y.fn ∧ x.pc = y.pc ∧ x.locals = y.locals ∧ x.stack = y.stack) (by cases x; cases y; simp)
instance : DecidableEq Mach := fun x y => decidable_of_iff (x.frames = y.frames ∧ x.blocks = y.blocks ∧ x.inp = y.inp ∧ x.out = y.out ∧ x.status = y.status ∧ x.trap = y.trap) (by cases x; cases y; simp)
instance : Inhabited Op := ⟨⟨0, 0⟩⟩
instance : Inhabited Val := ⟨⟨false, 0⟩⟩
instance : Inhabited Fun := ⟨⟨0, [], 0, []⟩⟩
instance : Inhabited Frm := ⟨⟨0, 0, [], []⟩⟩
instance : Inhabited Mach := ⟨⟨[], [], [], [], 0, 0⟩⟩

/-- the first errno that is not 0 -/
def firstErr {α : Type} (f : α → Int) : List α → Int
  | [] => 0
  | x :: t => if f x = 0 then firstErr f t else f x

def btw (n lo hi : Int) : Bool := decide (lo ≤ n) && decide (n ≤ hi)
def isInt (n : Int) : Bool := btw n (-2147483648) 2147483647
def hasA (c : Int) : Bool := c == 1 || c == 8 || c == 9 || c == 10 || c == 11 || c == 12
def isOp (c : Int) : Bool := btw c 1 21

def checkOp (o : Op) : Int :=
  if isOp o.code = false then 6
  else if hasA o.code = false ∧ o.a ≠ 0 then 1
  else if isInt o.a = false then 3
  else 0

def checkCode (l : List Op) : Int := if 40 < l.length then 2 else firstErr checkOp l

def opFits (p : List Fun) (f : Fun) (o : Op) : Bool :=
  if o.code = 8 ∨ o.code = 9 then btw o.a 0 ((f.locals.length : Int) - 1)
  else if o.code = 10 ∨ o.code = 11 then btw o.a 0 ((f.code.length : Int) - 1)
  else if o.code = 12 then btw o.a 0 ((p.length : Int) - 1)
  else true

def checkFun (p : List Fun) (f : Fun) : Int :=
  if 6 < f.locals.length then 2
  else if btw f.params 0 f.locals.length = false then 3
  else if btw f.result 0 2 = false ∨ f.locals.all (fun t => btw t 1 2) = false then 6
  else if f.code = [] then 5
  else if checkCode f.code ≠ 0 then checkCode f.code
  else if f.code.all (opFits p f) = false then 3
  else 0

def checkProg (p : List Fun) : Int :=
  if p = [] then 5
  else if 5 < p.length then 2
  else if firstErr (checkFun p) p ≠ 0 then firstErr (checkFun p) p
  else if 0 < p.head!.params ∨ 0 < p.head!.result then 4
  else 0

/-- does a type stand for another one? -/
def stands (t o : Int) : Bool := t == o || (t == 3 && o == 2)

def standsAll : List Int → List Int → Bool
  | [], [] => true
  | a :: s, b :: t => stands a b && standsAll s t
  | _, _ => false

def joinT (a b : Int) : Int := if stands a b then b else if stands b a then a else 0

def joinL : List Int → List Int → Option (List Int)
  | [], [] => some []
  | a :: s, b :: t => if joinT a b = 0 then none else (joinL s t).map (joinT a b :: ·)
  | _, _ => none

/-- what a plain op takes, and what it leaves; l is the type of local A -/
def plainOf (code l : Int) : List Int × List Int :=
  if code = 1 ∨ code = 21 then ([], [1])
  else if code = 5 ∨ code = 6 ∨ code = 7 then ([1, 1], [1])
  else if code = 8 then ([], [l])
  else if code = 9 then ([l], [])
  else if code = 11 ∨ code = 20 then ([1], [])
  else if code = 14 then ([1], [2])
  else if code = 15 then ([2, 1], [1])
  else if code = 16 then ([2, 1, 1], [])
  else if code = 17 ∨ code = 19 then ([2], [1])
  else if code = 18 then ([], [3])
  else ([], [])

/-- what an op of a function takes of a stack, and what it leaves -/
def takeLeave (p : List Fun) (f : Fun) (o : Op) (s : List Int) : Option (List Int × List Int) :=
  if o.code = 2 then (if s.length < 1 then none else some (s.drop (s.length - 1), []))
  else if o.code = 3 then (if s.length < 1 then none else some (s.drop (s.length - 1), [s.getLast!, s.getLast!]))
  else if o.code = 4 then (if s.length < 2 then none else some (s.drop (s.length - 2), [s[s.length - 1]!, s[s.length - 2]!]))
  else if o.code = 12 then some ((p[o.a.toNat]!).locals.take (p[o.a.toNat]!).params.toNat, if 0 < (p[o.a.toNat]!).result then [(p[o.a.toNat]!).result] else [])
  else if o.code = 13 then (if s.length ≠ (if 0 < f.result then [f.result] else []).length then none else some (if 0 < f.result then [f.result] else [], []))
  else some (plainOf o.code (if o.code = 8 ∨ o.code = 9 then f.locals[o.a.toNat]! else 0))

def tryOp (p : List Fun) (f : Fun) (o : Op) (s : List Int) : Option (List Int) :=
  match takeLeave p f o s with
  | none => none
  | some (take, leave) =>
    if s.length < take.length then none
    else if standsAll (s.drop (s.length - take.length)) take = false then none
    else if 8 < (s.take (s.length - take.length) ++ leave).length then none
    else some (s.take (s.length - take.length) ++ leave)

/-- places that it may go on at, rising -/
def nexts (o : Op) (pc : Nat) : List Nat :=
  if o.code = 13 then []
  else if o.code = 10 then [o.a.toNat]
  else if o.code = 11 then
    (if o.a.toNat = pc + 1 then [pc + 1] else if o.a.toNat < pc + 1 then [o.a.toNat, pc + 1] else [pc + 1, o.a.toNat])
  else [pc + 1]

/-- of each place its stack, if it has been come to -/
abbrev St := List (Option (List Int))

/-- a place is come to with a stack: none: it does not fit; else the places then, and whether something is other -/
def come (st : St) (pc : Nat) (s : List Int) : Option (St × Bool) :=
  match st[pc]? with
  | none => none
  | some none => some (st.set pc (some s), true)
  | some (some t) => match joinL t s with
    | none => none
    | some j => if j = t then some (st, false) else some (st.set pc (some j), true)

/-- all places behind one, in turn -/
def comeAll (s : List Int) : List Nat → St × Bool → Option (St × Bool)
  | [], x => some x
  | pc :: t, x => match come x.1 pc s with
    | none => none
    | some y => comeAll s t (y.1, x.2 || y.2)

def visit (p : List Fun) (f : Fun) (pc : Nat) (x : St × Bool) : Option (St × Bool) :=
  match x.1[pc]? with
  | some (some s) => match tryOp p f f.code[pc]! s with
    | none => none
    | some out => comeAll out (nexts f.code[pc]! pc) x
  | _ => some x

/-- one round over the places from pc on -/
def roundFrom (p : List Fun) (f : Fun) : Nat → Nat → St × Bool → Option (St × Bool)
  | 0, _, x => some x
  | k + 1, pc, x => match visit p f pc x with
    | none => none
    | some y => roundFrom p f k (pc + 1) y

def roundsOf (p : List Fun) (f : Fun) : Nat → St → Option St
  | 0, st => some st
  | k + 1, st => match roundFrom p f f.code.length 0 (st, false) with
    | none => none
    | some (st', more) => if more then roundsOf p f k st' else some st'

def stStart (n : Nat) : St := (List.replicate n none).set 0 (some [])

/-- entries of a function of a program that is right -/
def entriesSt (p : List Fun) (f : Fun) : Option St := roundsOf p f (10 * f.code.length + 1) (stStart f.code.length)

def checkFits (p : List Fun) : Int :=
  if checkProg p ≠ 0 then checkProg p
  else if p.all (fun f => (entriesSt p f).isSome) then 0 else 4

end Mz

/- The entries of a function: rounds over all places, and a list of places that are to do, come to the same: the least answer that fits, or none. Plain lists and integers; no program is in sight here. -/
namespace Mz

theorem stands_refl (a : Int) : stands a a = true := by simp [stands]
theorem stands_iff {a b : Int} : stands a b = true ↔ a = b ∨ (a = 3 ∧ b = 2) := by simp [stands]
theorem stands_trans {a b c : Int} (h : stands a b = true) (k : stands b c = true) : stands a c = true := by
  rw [stands_iff] at *; omega
theorem stands_antisymm {a b : Int} (h : stands a b = true) (k : stands b a = true) : a = b := by
  rw [stands_iff] at *; omega

theorem standsAll_length : ∀ {s t : List Int}, standsAll s t = true → s.length = t.length
  | [], [], _ => rfl
  | _ :: s, _ :: t, h => by simp [standsAll] at h; simp [standsAll_length h.2]
  | [], _ :: _, h => by simp [standsAll] at h
  | _ :: _, [], h => by simp [standsAll] at h
theorem standsAll_refl : ∀ s : List Int, standsAll s s = true
  | [] => rfl
  | a :: s => by simp [standsAll, stands_refl, standsAll_refl s]
theorem standsAll_trans : ∀ {a b c : List Int}, standsAll a b = true → standsAll b c = true → standsAll a c = true
  | [], [], [], _, _ => rfl
  | _ :: a, _ :: b, _ :: c, h, k => by
    simp [standsAll] at *; exact ⟨stands_trans h.1 k.1, standsAll_trans h.2 k.2⟩
  | [], [], _ :: _, _, k => by simp [standsAll] at k
  | [], _ :: _, _, h, _ => by simp [standsAll] at h
  | _ :: _, [], _, h, _ => by simp [standsAll] at h
  | _ :: _, _ :: _, [], _, k => by simp [standsAll] at k
theorem standsAll_antisymm : ∀ {a b : List Int}, standsAll a b = true → standsAll b a = true → a = b
  | [], [], _, _ => rfl
  | _ :: a, _ :: b, h, k => by
    simp [standsAll] at *; exact ⟨stands_antisymm h.1 k.1, standsAll_antisymm h.2 k.2⟩
  | [], _ :: _, h, _ => by simp [standsAll] at h
  | _ :: _, [], h, _ => by simp [standsAll] at h
theorem standsAll_drop : ∀ {a b : List Int} (k : Nat), standsAll a b = true → standsAll (a.drop k) (b.drop k) = true
  | _, _, 0, h => by simpa using h
  | [], [], _ + 1, _ => by simp [standsAll]
  | _ :: a, _ :: b, k + 1, h => by simp [standsAll] at h; simpa using standsAll_drop k h.2
  | [], _ :: _, _ + 1, h => by simp [standsAll] at h
  | _ :: _, [], _ + 1, h => by simp [standsAll] at h
theorem standsAll_take : ∀ {a b : List Int} (k : Nat), standsAll a b = true → standsAll (a.take k) (b.take k) = true
  | _, _, 0, _ => by simp [standsAll]
  | [], [], _ + 1, _ => by simp [standsAll]
  | _ :: a, _ :: b, k + 1, h => by simp [standsAll] at h; simpa [standsAll, h.1] using standsAll_take k h.2
  | [], _ :: _, _ + 1, h => by simp [standsAll] at h
  | _ :: _, [], _ + 1, h => by simp [standsAll] at h
theorem standsAll_append : ∀ {a b c d : List Int}, standsAll a b = true → standsAll c d = true → standsAll (a ++ c) (b ++ d) = true
  | [], [], _, _, _, k => by simpa using k
  | _ :: a, _ :: b, c, d, h, k => by simp [standsAll] at h; simpa [standsAll, h.1] using standsAll_append h.2 k
  | [], _ :: _, _, _, h, _ => by simp [standsAll] at h
  | _ :: _, [], _, _, h, _ => by simp [standsAll] at h
theorem standsAll_get {a b : List Int} (h : standsAll a b = true) (i : Nat) : stands a[i]! b[i]! = true := by
  induction a generalizing b i with
  | nil => cases b with
    | nil => simp [stands]
    | cons _ _ => simp [standsAll] at h
  | cons x a ih => cases b with
    | nil => simp [standsAll] at h
    | cons y b =>
      simp [standsAll] at h
      cases i with
      | zero => simpa using h.1
      | succ i => simpa using ih h.2 i
theorem getLast!_eq (l : List Int) : l.getLast! = l[l.length - 1]! := by
  cases l with
  | nil => rfl
  | cons a t => simp [List.getLast!_eq_getLast?_getD, List.getLast?_eq_getElem?]

/-- types that are some -/
def TyL (l : List Int) : Prop := ∀ t ∈ l, 1 ≤ t ∧ t ≤ 3

theorem joinT_up {a b t : Int} (ha : stands a t = true) (hb : stands b t = true) (h0 : a ≠ 0) : joinT a b ≠ 0 ∧ stands (joinT a b) t = true := by
  rw [stands_iff] at *
  unfold joinT
  by_cases h1 : stands a b = true
  · rw [if_pos h1]; rw [stands_iff] at h1; omega
  · rw [if_neg h1]
    by_cases h2 : stands b a = true
    · rw [if_pos h2]; rw [stands_iff] at h2; omega
    · exfalso; rw [stands_iff] at h1 h2; omega

theorem joinL_up : ∀ {a b t : List Int}, standsAll a t = true → standsAll b t = true → TyL a → ∃ j, joinL a b = some j ∧ standsAll j t = true
  | [], [], [], _, _, _ => ⟨[], rfl, rfl⟩
  | x :: a, y :: b, z :: t, h, k, hty => by
    simp [standsAll] at h k
    obtain ⟨j, hj, hjt⟩ := joinL_up h.2 k.2 (fun u hu => hty u (List.mem_cons_of_mem _ hu))
    obtain ⟨h1, h2⟩ := joinT_up h.1 k.1 (by have := hty x (List.mem_cons_self ..); omega)
    exact ⟨joinT x y :: j, by simp [joinL, h1, hj], by simp [standsAll, h2, hjt]⟩
  | [], _, _ :: _, h, _, _ => by simp [standsAll] at h
  | _ :: _, _, [], h, _, _ => by simp [standsAll] at h
  | [], _ :: _, [], _, k, _ => by simp [standsAll] at k
  | _ :: _, [], _ :: _, _, k, _ => by simp [standsAll] at k

theorem joinL_len : ∀ {a b j : List Int}, joinL a b = some j → j.length = a.length ∧ b.length = a.length
  | [], [], j, h => by simp [joinL] at h; subst h; simp
  | x :: a, y :: b, j, h => by
    simp [joinL] at h
    obtain ⟨_, j', hj, rfl⟩ := h
    have := joinL_len hj; simp; omega
  | [], _ :: _, _, h => by simp [joinL] at h
  | _ :: _, [], _, h => by simp [joinL] at h

theorem joinL_ty : ∀ {a b j : List Int}, joinL a b = some j → TyL a → TyL b → TyL j
  | [], [], j, h, _, _ => by simp [joinL] at h; subst h; intro t ht; simp at ht
  | x :: a, y :: b, j, h, ha, hb => by
    simp [joinL] at h
    obtain ⟨h0, j', hj, rfl⟩ := h
    have ih := joinL_ty hj (fun u hu => ha u (List.mem_cons_of_mem _ hu)) (fun u hu => hb u (List.mem_cons_of_mem _ hu))
    intro t ht
    rcases List.mem_cons.1 ht with rfl | ht
    · have h1 := ha x (List.mem_cons_self ..)
      have h2 := hb y (List.mem_cons_self ..)
      unfold joinT; unfold joinT at h0
      by_cases c1 : stands x y = true
      · rw [if_pos c1]; exact h2
      · rw [if_neg c1] at h0 ⊢
        by_cases c2 : stands y x = true
        · rw [if_pos c2]; exact h1
        · rw [if_neg c2] at h0; exact absurd rfl h0
    · exact ih t ht
  | [], _ :: _, _, h, _, _ => by simp [joinL] at h
  | _ :: _, [], _, h, _, _ => by simp [joinL] at h

/-- what is joined and is as it was: the other one stands for it -/
theorem joinL_same : ∀ {a b : List Int}, joinL a b = some a → standsAll b a = true
  | [], [], _ => rfl
  | x :: a, y :: b, h => by
    simp [joinL] at h
    obtain ⟨h0, hj, hx⟩ := h
    simp only [standsAll, Bool.and_eq_true]
    refine ⟨?_, joinL_same hj⟩
    unfold joinT at hx h0
    by_cases c1 : stands x y = true
    · rw [if_pos c1] at hx; rw [hx]; exact stands_refl _
    · rw [if_neg c1] at hx h0
      by_cases c2 : stands y x = true
      · exact c2
      · rw [if_neg c2] at h0; exact absurd rfl h0
  | [], _ :: _, h => by simp [joinL] at h
  | _ :: _, [], h => by simp [joinL] at h

/-- how many are Null -/
def nulls (l : List Int) : Nat := (l.filter (· == 3)).length
theorem nulls_le (l : List Int) : nulls l ≤ l.length := List.length_filter_le _ _
theorem nulls_cons (a : Int) (l : List Int) : nulls (a :: l) = (if a = 3 then 1 else 0) + nulls l := by
  unfold nulls; by_cases h : a = 3 <;> simp [h]; omega

theorem joinL_nulls : ∀ {a b j : List Int}, joinL a b = some j → nulls j ≤ nulls a ∧ (j ≠ a → nulls j < nulls a)
  | [], [], j, h => by simp [joinL] at h; subst h; simp
  | x :: a, y :: b, j, h => by
    simp [joinL] at h
    obtain ⟨h0, j', hj, rfl⟩ := h
    have ih := joinL_nulls hj
    have hx : joinT x y = x ∨ (x = 3 ∧ joinT x y = 2) := by
      unfold joinT; unfold joinT at h0
      by_cases c1 : stands x y = true
      · rw [if_pos c1]; rw [stands_iff] at c1; omega
      · rw [if_neg c1] at h0 ⊢
        by_cases c2 : stands y x = true
        · rw [if_pos c2]; exact .inl rfl
        · rw [if_neg c2] at h0; exact absurd rfl h0
    rw [nulls_cons, nulls_cons]
    rcases hx with hx | ⟨hx, hx'⟩
    · rw [hx]
      refine ⟨by omega, fun hne => ?_⟩
      have : j' ≠ a := fun e => hne (by rw [e])
      have := ih.2 this; omega
    · rw [hx', if_neg (by decide), if_pos hx]; omega
  | [], _ :: _, _, h => by simp [joinL] at h
  | _ :: _, [], _, h => by simp [joinL] at h

/-- what an op takes of a greater stack it takes of a lesser one -/
theorem tryOp_mono {p : List Fun} {f : Fun} {o : Op} {s t out : List Int} (hst : standsAll s t = true) (h : tryOp p f o t = some out) :
    ∃ out', tryOp p f o s = some out' ∧ standsAll out' out = true := by
  have hlen := standsAll_length hst
  have key : ∀ take take' leave leave', takeLeave p f o t = some (take, leave) → takeLeave p f o s = some (take', leave') → take.length = take'.length → standsAll leave' leave = true →
      (standsAll (t.drop (t.length - take.length)) take = true → standsAll (s.drop (s.length - take'.length)) take' = true) →
      ∃ out', tryOp p f o s = some out' ∧ standsAll out' out = true := by
    intro take take' leave leave' h1 h2 h3 h4 h5
    unfold tryOp at h ⊢
    rw [h1] at h; rw [h2]
    simp only at h ⊢
    by_cases c1 : t.length < take.length
    · rw [if_pos c1] at h; simp at h
    · rw [if_neg c1] at h; rw [if_neg (by omega)]
      by_cases c2 : standsAll (t.drop (t.length - take.length)) take = false
      · rw [if_pos c2] at h; simp at h
      · rw [if_neg c2] at h
        have c2' : standsAll (t.drop (t.length - take.length)) take = true := by simpa using c2
        rw [if_neg (by rw [h5 c2']; simp)]
        have h4l := standsAll_length h4
        by_cases c3 : 8 < (t.take (t.length - take.length) ++ leave).length
        · rw [if_pos c3] at h; simp at h
        · rw [if_neg c3] at h
          have ho : t.take (t.length - take.length) ++ leave = out := by simpa using h
          rw [if_neg (by simp only [List.length_append, List.length_take] at c3 ⊢; omega)]
          refine ⟨_, rfl, ?_⟩
          rw [← ho, hlen, h3]
          exact standsAll_append (standsAll_take _ hst) h4
  have ht : (takeLeave p f o t).isSome := by
    unfold tryOp at h
    cases hc : takeLeave p f o t with
    | none => rw [hc] at h; simp at h
    | some _ => rfl
  unfold takeLeave at ht
  by_cases c2 : o.code = 2
  · simp only [c2, if_true] at ht
    by_cases c : t.length < 1
    · simp [c] at ht
    · refine key (t.drop (t.length - 1)) (s.drop (s.length - 1)) [] [] (by simp [takeLeave, c2, c]) (by simp [takeLeave, c2, hlen, c]) (by simp; omega) rfl ?_
      intro _
      rw [show s.length - (s.drop (s.length - 1)).length = s.length - 1 by simp; omega]; exact standsAll_refl _
  by_cases c3 : o.code = 3
  · simp only [c3] at ht
    by_cases c : t.length < 1
    · simp [c] at ht
    · refine key (t.drop (t.length - 1)) (s.drop (s.length - 1)) [t.getLast!, t.getLast!] [s.getLast!, s.getLast!] (by simp [takeLeave, c3, c]) (by simp [takeLeave, c3, hlen, c]) (by simp; omega) ?_ ?_
      · have := standsAll_get hst (t.length - 1)
        simp only [getLast!_eq, hlen, standsAll, this]; rfl
      · intro _
        rw [show s.length - (s.drop (s.length - 1)).length = s.length - 1 by simp; omega]; exact standsAll_refl _
  by_cases c4 : o.code = 4
  · simp only [c4] at ht
    by_cases c : t.length < 2
    · simp [c] at ht
    · refine key (t.drop (t.length - 2)) (s.drop (s.length - 2)) [t[t.length - 1]!, t[t.length - 2]!] [s[s.length - 1]!, s[s.length - 2]!] (by simp [takeLeave, c4, c]) (by simp [takeLeave, c4, hlen, c]) (by simp; omega) ?_ ?_
      · have h1 := standsAll_get hst (t.length - 1)
        have h2 := standsAll_get hst (t.length - 2)
        simp only [hlen, standsAll, h1, h2]; rfl
      · intro _
        rw [show s.length - (s.drop (s.length - 2)).length = s.length - 2 by simp; omega]; exact standsAll_refl _
  have step : ∀ take leave, takeLeave p f o t = some (take, leave) → takeLeave p f o s = some (take, leave) → ∃ out', tryOp p f o s = some out' ∧ standsAll out' out = true := by
    intro take leave h1 h2
    refine key take take leave leave h1 h2 rfl (standsAll_refl _) ?_
    intro hd
    rw [hlen]
    exact standsAll_trans (standsAll_drop _ hst) hd
  by_cases c12 : o.code = 12
  · exact step _ _ (by unfold takeLeave; rw [if_neg c2, if_neg c3, if_neg c4, if_pos c12]) (by unfold takeLeave; rw [if_neg c2, if_neg c3, if_neg c4, if_pos c12])
  by_cases c13 : o.code = 13
  · simp only [c13] at ht
    by_cases c : t.length ≠ (if 0 < f.result then [f.result] else []).length
    · simp [c] at ht
    · exact step (if 0 < f.result then [f.result] else []) [] (by unfold takeLeave; rw [if_neg c2, if_neg c3, if_neg c4, if_neg c12, if_pos c13, if_neg c])
        (by unfold takeLeave; rw [if_neg c2, if_neg c3, if_neg c4, if_neg c12, if_pos c13, if_neg (by omega)])
  · exact step _ _ (by unfold takeLeave; rw [if_neg c2, if_neg c3, if_neg c4, if_neg c12, if_neg c13]) (by unfold takeLeave; rw [if_neg c2, if_neg c3, if_neg c4, if_neg c12, if_neg c13])


theorem tryOp_len {p : List Fun} {f : Fun} {o : Op} {s out : List Int} (h : tryOp p f o s = some out) : out.length ≤ 8 := by
  unfold tryOp at h
  cases hc : takeLeave p f o s with
  | none => rw [hc] at h; simp at h
  | some tl =>
    obtain ⟨take, leave⟩ := tl
    rw [hc] at h; simp only at h
    by_cases c1 : s.length < take.length
    · rw [if_pos c1] at h; simp at h
    · rw [if_neg c1] at h
      by_cases c2 : standsAll (s.drop (s.length - take.length)) take = false
      · rw [if_pos c2] at h; simp at h
      · rw [if_neg c2] at h
        by_cases c3 : 8 < (s.take (s.length - take.length) ++ leave).length
        · rw [if_pos c3] at h; simp at h
        · rw [if_neg c3] at h
          have : s.take (s.length - take.length) ++ leave = out := by simpa using h
          rw [← this]; omega

/-- types of a function's locals and result are some -/
structure FunTy (f : Fun) : Prop where
  locals : ∀ t ∈ f.locals, 1 ≤ t ∧ t ≤ 2
  result : 0 ≤ f.result ∧ f.result ≤ 2

/-- an op of a function may stand there -/
structure OpOk (p : List Fun) (f : Fun) (o : Op) : Prop where
  is : 1 ≤ o.code ∧ o.code ≤ 21
  load : o.code = 8 ∨ o.code = 9 → 0 ≤ o.a ∧ o.a < f.locals.length
  jump : o.code = 10 ∨ o.code = 11 → 0 ≤ o.a ∧ o.a < f.code.length
  call : o.code = 12 → 0 ≤ o.a ∧ o.a < p.length

/-- a program whose functions are right -/
structure ProgTy (p : List Fun) : Prop where
  funs : ∀ f ∈ p, FunTy f
  params : ∀ f ∈ p, 0 ≤ f.params ∧ f.params ≤ f.locals.length
  code : ∀ f ∈ p, f.code ≠ [] ∧ f.code.length ≤ 40 ∧ f.locals.length ≤ 6 ∧ ∀ o ∈ f.code, OpOk p f o

theorem getElem!_mem {α : Type} [Inhabited α] {l : List α} {i : Nat} (h : i < l.length) : l[i]! ∈ l := by
  rw [List.getElem!_eq_getElem?_getD, List.getElem?_eq_getElem h]; exact List.getElem_mem h

theorem TyL.append {a b : List Int} (ha : TyL a) (hb : TyL b) : TyL (a ++ b) := by
  intro t ht; rcases List.mem_append.1 ht with h | h
  · exact ha t h
  · exact hb t h
theorem TyL.nil : TyL [] := by intro t ht; simp at ht
theorem TyL.cons {a : Int} {b : List Int} (ha : 1 ≤ a ∧ a ≤ 3) (hb : TyL b) : TyL (a :: b) := by
  intro t ht; rcases List.mem_cons.1 ht with rfl | h
  · exact ha
  · exact hb t h
theorem TyL.take {a : List Int} (k : Nat) (ha : TyL a) : TyL (a.take k) := fun t ht => ha t (List.mem_of_mem_take ht)

theorem tryOp_ty {p : List Fun} {f : Fun} {o : Op} {s out : List Int} (hp : ProgTy p) (hf : FunTy f) (ho : OpOk p f o) (hs : TyL s) (h : tryOp p f o s = some out) : TyL out := by
  have key : ∀ take leave, takeLeave p f o s = some (take, leave) → TyL leave → TyL out := by
    intro take leave h1 h2
    unfold tryOp at h
    rw [h1] at h; simp only at h
    by_cases c1 : s.length < take.length
    · rw [if_pos c1] at h; simp at h
    · rw [if_neg c1] at h
      by_cases c2 : standsAll (s.drop (s.length - take.length)) take = false
      · rw [if_pos c2] at h; simp at h
      · rw [if_neg c2] at h
        by_cases c3 : 8 < (s.take (s.length - take.length) ++ leave).length
        · rw [if_pos c3] at h; simp at h
        · rw [if_neg c3] at h
          have : s.take (s.length - take.length) ++ leave = out := by simpa using h
          rw [← this]; exact (hs.take _).append h2
  have ht : ∃ take leave, takeLeave p f o s = some (take, leave) := by
    unfold tryOp at h
    cases hc : takeLeave p f o s with
    | none => rw [hc] at h; simp at h
    | some tl => exact ⟨tl.1, tl.2, rfl⟩
  obtain ⟨take, leave, htl⟩ := ht
  refine key take leave htl ?_
  unfold takeLeave at htl
  by_cases c2 : o.code = 2
  · rw [if_pos c2] at htl
    by_cases c : s.length < 1
    · rw [if_pos c] at htl; simp at htl
    · rw [if_neg c] at htl; simp only [Option.some.injEq, Prod.mk.injEq] at htl; rw [← htl.2]; exact TyL.nil
  rw [if_neg c2] at htl
  by_cases c3 : o.code = 3
  · rw [if_pos c3] at htl
    by_cases c : s.length < 1
    · rw [if_pos c] at htl; simp at htl
    · rw [if_neg c] at htl; simp only [Option.some.injEq, Prod.mk.injEq] at htl; rw [← htl.2]
      have := hs _ (getElem!_mem (l := s) (i := s.length - 1) (by omega))
      rw [← getLast!_eq] at this
      exact .cons this (.cons this .nil)
  rw [if_neg c3] at htl
  by_cases c4 : o.code = 4
  · rw [if_pos c4] at htl
    by_cases c : s.length < 2
    · rw [if_pos c] at htl; simp at htl
    · rw [if_neg c] at htl; simp only [Option.some.injEq, Prod.mk.injEq] at htl; rw [← htl.2]
      exact .cons (hs _ (getElem!_mem (by omega))) (.cons (hs _ (getElem!_mem (by omega))) .nil)
  rw [if_neg c4] at htl
  by_cases c12 : o.code = 12
  · rw [if_pos c12] at htl; simp only [Option.some.injEq, Prod.mk.injEq] at htl; rw [← htl.2]
    have hb := ho.call c12
    have hg := hp.funs _ (getElem!_mem (l := p) (i := o.a.toNat) (by omega))
    by_cases c : 0 < (p[o.a.toNat]!).result
    · rw [if_pos c]; have := hg.result; exact .cons (by omega) .nil
    · rw [if_neg c]; exact .nil
  rw [if_neg c12] at htl
  by_cases c13 : o.code = 13
  · rw [if_pos c13] at htl
    by_cases c : s.length ≠ (if 0 < f.result then [f.result] else []).length
    · rw [if_pos c] at htl; simp at htl
    · rw [if_neg c] at htl; simp only [Option.some.injEq, Prod.mk.injEq] at htl; rw [← htl.2]; exact .nil
  rw [if_neg c13] at htl
  simp only [Option.some.injEq] at htl
  unfold plainOf at htl
  by_cases c8 : o.code = 8
  · simp only [c8] at htl
    have : [f.locals[o.a.toNat]!] = leave := by simpa using (congrArg Prod.snd htl)
    rw [← this]
    have hb := ho.load (.inl c8)
    have := hf.locals _ (getElem!_mem (l := f.locals) (i := o.a.toNat) (by omega))
    exact .cons (by omega) .nil
  · rw [show leave = _ from (congrArg Prod.snd htl).symm]
    repeat' (first | exact .nil | exact .cons (by decide) .nil | (rw [apply_ite Prod.snd]; split) | (split) | contradiction)

/-- of two answers the first is the lesser one -/
def lePt (st b : St) : Prop := ∀ (pc : Nat) s, st[pc]? = some (some s) → ∃ t, b[pc]? = some (some t) ∧ standsAll s t = true

/-- an answer that fits -/
structure Sol (p : List Fun) (f : Fun) (b : St) : Prop where
  len : b.length = f.code.length
  zero : b[0]? = some (some [])
  step : ∀ (pc : Nat) s, b[pc]? = some (some s) → ∃ out, tryOp p f f.code[pc]! s = some out ∧ ∀ to ∈ nexts f.code[pc]! pc, ∃ t, b[to]? = some (some t) ∧ standsAll out t = true

/-- the least answer that fits; none: no answer fits -/
def Least (p : List Fun) (f : Fun) : Option St → Prop
  | none => ∀ b, ¬ Sol p f b
  | some st => Sol p f st ∧ ∀ b, Sol p f b → lePt st b

theorem least_unique {p : List Fun} {f : Fun} {x y : Option St} (hx : Least p f x) (hy : Least p f y) : x = y := by
  cases x with
  | none => cases y with
    | none => rfl
    | some b => exact absurd hy.1 (hx b)
  | some a => cases y with
    | none => exact absurd hx.1 (hy a)
    | some b =>
      have h1 := hx.2 b hy.1
      have h2 := hy.2 a hx.1
      have hl : a.length = b.length := by rw [hx.1.len, hy.1.len]
      congr 1
      apply List.ext_getElem? 
      intro i
      by_cases hi : i < a.length
      · cases ha : a[i]? with
        | none => rw [List.getElem?_eq_none_iff] at ha; omega
        | some oa => cases hb : b[i]? with
          | none => rw [List.getElem?_eq_none_iff] at hb; omega
          | some ob =>
            cases oa with
            | none => cases ob with
              | none => rfl
              | some s => obtain ⟨t, ht, _⟩ := h2 i s hb; rw [ha] at ht; simp at ht
            | some s =>
              obtain ⟨t, ht, hst⟩ := h1 i s ha
              rw [hb] at ht; simp only [Option.some.injEq] at ht; subst ht
              obtain ⟨t', ht', hts⟩ := h2 i t hb
              rw [ha] at ht'; simp only [Option.some.injEq] at ht'; subst ht'
              rw [standsAll_antisymm hst hts]
      · rw [List.getElem?_eq_none (by omega), List.getElem?_eq_none (by omega)]

/-- how much is left that may become other -/
def left : St → Nat
  | [] => 0
  | none :: t => 10 + left t
  | some s :: t => nulls s + left t

theorem left_set : ∀ {st : St} {pc : Nat} {x : Option (List Int)} (s : List Int), st[pc]? = some x →
    left (st.set pc (some s)) + (match x with | none => 10 | some t => nulls t) = left st + nulls s
  | y :: st, 0, x, s, h => by
    simp only [List.getElem?_cons_zero, Option.some.injEq] at h; subst h
    cases y <;> simp [left] <;> omega
  | y :: st, pc + 1, x, s, h => by
    simp only [List.getElem?_cons_succ] at h
    have ih := left_set s h
    cases y <;> simp only [List.set_cons_succ, left] <;> omega

/-- what holds of an answer in the making -/
structure Mid (p : List Fun) (f : Fun) (st : St) : Prop where
  len : st.length = f.code.length
  zero : st[0]? = some (some [])
  ty : ∀ (pc : Nat) s, st[pc]? = some (some s) → TyL s ∧ s.length ≤ 8
  below : ∀ b, Sol p f b → lePt st b

theorem mid_start {p : List Fun} {f : Fun} (h : f.code ≠ []) : Mid p f (stStart f.code.length) := by
  have hl : 0 < f.code.length := by cases hc : f.code with | nil => exact absurd hc h | cons _ _ => simp
  have get : ∀ (pc : Nat) s, (stStart f.code.length)[pc]? = some (some s) → pc = 0 ∧ s = [] := by
    intro pc s hs
    unfold stStart at hs
    rw [List.getElem?_set] at hs
    by_cases c : 0 = pc
    · rw [if_pos c] at hs
      simp only [List.length_replicate, hl, if_true, Option.some.injEq] at hs
      exact ⟨c.symm, hs.symm⟩
    · rw [if_neg c, List.getElem?_replicate] at hs
      split at hs <;> simp at hs
  refine ⟨by simp [stStart], by simp [stStart, hl], ?_, ?_⟩
  · intro pc s hs; obtain ⟨_, rfl⟩ := get pc s hs; exact ⟨.nil, by simp⟩
  · intro b hb pc s hs; obtain ⟨rfl, rfl⟩ := get pc s hs; exact ⟨[], hb.zero, rfl⟩

/-- a stack comes to a place behind one that has been come to -/
theorem come_mid {p : List Fun} {f : Fun} {st : St} (h : Mid p f st) {to : Nat} {out : List Int} (hty : TyL out) (hlen : out.length ≤ 8)
    (hout : ∀ b, Sol p f b → ∃ t, b[to]? = some (some t) ∧ standsAll out t = true) :
    match come st to out with
    | none => ∀ b, ¬ Sol p f b
    | some (st', ch) => Mid p f st' ∧ (∃ t, st'[to]? = some (some t) ∧ (ch = false → standsAll out t = true)) ∧ (ch = false → st' = st) ∧ (ch = true → left st' < left st) ∧ left st' ≤ left st := by
  unfold come
  cases hto : st[to]? with
  | none =>
    simp only
    intro b hb
    obtain ⟨t, ht, _⟩ := hout b hb
    rw [List.getElem?_eq_none_iff, h.len, ← hb.len, ← List.getElem?_eq_none_iff] at hto
    rw [hto] at ht; simp at ht
  | some x =>
    have hlt : to < st.length := by
      rcases Nat.lt_or_ge to st.length with c | c
      · exact c
      · rw [List.getElem?_eq_none c] at hto; simp at hto
    have mk : ∀ s : List Int, TyL s → s.length ≤ 8 → (∀ b, Sol p f b → ∃ t, b[to]? = some (some t) ∧ standsAll s t = true) → (to = 0 → s = []) → Mid p f (st.set to (some s)) := by
      intro s h1 h2 h3 h4
      refine ⟨by simp [h.len], ?_, ?_, ?_⟩
      · rw [List.getElem?_set]
        by_cases c : to = 0
        · rw [if_pos c, if_pos hlt, h4 c]
        · rw [if_neg c]; exact h.zero
      · intro pc s' hs'
        rw [List.getElem?_set] at hs'
        by_cases c : to = pc
        · rw [if_pos c, if_pos hlt] at hs'; simp only [Option.some.injEq] at hs'; rw [← hs']; exact ⟨h1, h2⟩
        · rw [if_neg c] at hs'; exact h.ty pc s' hs'
      · intro b hb pc s' hs'
        rw [List.getElem?_set] at hs'
        by_cases c : to = pc
        · rw [if_pos c, if_pos hlt] at hs'; simp only [Option.some.injEq] at hs'; rw [← hs', ← c]; exact h3 b hb
        · rw [if_neg c] at hs'; exact h.below b hb pc s' hs'
    cases x with
    | none =>
      simp only
      have h0 : to ≠ 0 := by intro c; rw [c, h.zero] at hto; simp at hto
      refine ⟨mk out hty hlen hout (fun c => absurd c h0), ⟨out, by rw [List.getElem?_set, if_pos rfl, if_pos hlt], by simp⟩, by simp, ?_, ?_⟩
      all_goals
        have := left_set out hto
        have hn := nulls_le out
        simp only at this
        try intro _
        omega
    | some t =>
      simp only
      have ht := h.ty to t hto
      cases hj : joinL t out with
      | none =>
        simp only
        intro b hb
        obtain ⟨u, hu, hou⟩ := hout b hb
        obtain ⟨u', hu', htu⟩ := h.below b hb to t hto
        rw [hu] at hu'; simp only [Option.some.injEq] at hu'; subst hu'
        obtain ⟨j, hj', _⟩ := joinL_up htu hou ht.1
        rw [hj] at hj'; simp at hj'
      | some j =>
        simp only
        by_cases c : j = t
        · rw [if_pos c]
          simp only
          subst c
          exact ⟨h, ⟨j, hto, fun _ => joinL_same hj⟩, by simp, by simp, Nat.le_refl _⟩
        · rw [if_neg c]
          simp only
          have hl := joinL_len hj
          refine ⟨mk j (joinL_ty hj ht.1 hty) (by omega) ?_ ?_, ⟨j, by rw [List.getElem?_set, if_pos rfl, if_pos hlt], by simp⟩, by simp, ?_, ?_⟩
          · intro b hb
            obtain ⟨u, hu, hou⟩ := hout b hb
            obtain ⟨u', hu', htu⟩ := h.below b hb to t hto
            rw [hu] at hu'; simp only [Option.some.injEq] at hu'; subst hu'
            obtain ⟨j', hj', hju⟩ := joinL_up htu hou ht.1
            rw [hj] at hj'; simp only [Option.some.injEq] at hj'; subst hj'
            exact ⟨u, hu, hju⟩
          · intro c0
            rw [c0, h.zero] at hto; simp only [Option.some.injEq] at hto; rw [← hto] at hl
            exact List.eq_nil_of_length_eq_zero hl.1
          all_goals
            have := left_set j hto
            have hn := (joinL_nulls hj).2 c
            simp only at this
            try intro _
            omega

theorem comeAll_mid {p : List Fun} {f : Fun} {out : List Int} (hty : TyL out) (hlen : out.length ≤ 8) : ∀ (l : List Nat) (st : St) (ch : Bool), Mid p f st →
    (∀ b, Sol p f b → ∀ to ∈ l, ∃ t, b[to]? = some (some t) ∧ standsAll out t = true) →
    match comeAll out l (st, ch) with
    | none => ∀ b, ¬ Sol p f b
    | some (st', ch') => Mid p f st' ∧ left st' ≤ left st ∧ (ch' = false → ch = false ∧ st' = st ∧ ∀ to ∈ l, ∃ t, st[to]? = some (some t) ∧ standsAll out t = true) ∧ (ch = false → ch' = true → left st' < left st) ∧ (ch = true → ch' = true)
  | [], st, ch, h, _ => by simp [comeAll, h]
  | to :: l, st, ch, h, hout => by
    have h1 := come_mid h hty hlen (fun b hb => hout b hb to (List.mem_cons_self ..))
    simp only [comeAll]
    cases hc : come st to out with
    | none => rw [hc] at h1; simp only at h1 ⊢; exact h1
    | some y =>
      obtain ⟨st1, ch1⟩ := y
      rw [hc] at h1; simp only at h1 ⊢
      obtain ⟨m1, ⟨t, ht, hts⟩, e1, l1, l1'⟩ := h1
      have ih := comeAll_mid hty hlen l st1 (ch || ch1) m1 (fun b hb to' h' => hout b hb to' (List.mem_cons_of_mem _ h'))
      cases hr : comeAll out l (st1, ch || ch1) with
      | none => rw [hr] at ih; exact ih
      | some z =>
        obtain ⟨st2, ch2⟩ := z
        rw [hr] at ih; simp only at ih ⊢
        obtain ⟨m2, l2, e2, d2, k2⟩ := ih
        refine ⟨m2, by omega, ?_, ?_, ?_⟩
        · intro h2
          obtain ⟨hch, hst, hall⟩ := e2 h2
          simp only [Bool.or_eq_false_iff] at hch
          have := e1 hch.2; subst this
          refine ⟨hch.1, hst, ?_⟩
          intro to' hto'
          rcases List.mem_cons.1 hto' with rfl | hto'
          · exact ⟨t, ht, hts hch.2⟩
          · exact hall to' hto'
        · intro hch h2
          by_cases c : ch1 = true
          · have := l1 c; omega
          · have c' : ch1 = false := by simpa using c
            have := d2 (by simp [hch, c']) h2
            rw [e1 c'] at this; omega
        · intro hch; exact k2 (by simp [hch])

/-- every op of a function that is right -/
structure Ready (p : List Fun) (f : Fun) : Prop where
  prog : ProgTy p
  fn : FunTy f
  code : f.code ≠ []
  ops : ∀ o ∈ f.code, OpOk p f o

theorem visit_mid {p : List Fun} {f : Fun} (hr : Ready p f) (pc : Nat) (st : St) (ch : Bool) (h : Mid p f st) :
    match visit p f pc (st, ch) with
    | none => ∀ b, ¬ Sol p f b
    | some (st', ch') => Mid p f st' ∧ left st' ≤ left st ∧ (ch' = false → ch = false ∧ st' = st ∧ ∀ s, st[pc]? = some (some s) → ∃ out, tryOp p f f.code[pc]! s = some out ∧ ∀ to ∈ nexts f.code[pc]! pc, ∃ t, st[to]? = some (some t) ∧ standsAll out t = true) ∧ (ch = false → ch' = true → left st' < left st) ∧ (ch = true → ch' = true) := by
  unfold visit
  simp only
  cases hpc : st[pc]? with
  | none => simp [h]
  | some x => cases x with
    | none => simp [h]
    | some s =>
      simp only
      have hlt : pc < f.code.length := by
        rcases Nat.lt_or_ge pc st.length with c | c
        · rw [← h.len]; exact c
        · rw [List.getElem?_eq_none c] at hpc; simp at hpc
      cases ht : tryOp p f f.code[pc]! s with
      | none =>
        simp only
        intro b hb
        obtain ⟨t, hbt, hst⟩ := h.below b hb pc s hpc
        obtain ⟨out, ho, _⟩ := hb.step pc t hbt
        obtain ⟨out', ho', _⟩ := tryOp_mono hst ho
        rw [ht] at ho'; simp at ho'
      | some out =>
        simp only
        have hty := tryOp_ty hr.prog hr.fn (hr.ops _ (getElem!_mem hlt)) (h.ty pc s hpc).1 ht
        have := comeAll_mid hty (tryOp_len ht) (nexts f.code[pc]! pc) st ch h (by
          intro b hb to hto
          obtain ⟨t, hbt, hst⟩ := h.below b hb pc s hpc
          obtain ⟨o2, ho, hall⟩ := hb.step pc t hbt
          obtain ⟨out', ho', hle⟩ := tryOp_mono hst ho
          rw [ht] at ho'; simp only [Option.some.injEq] at ho'; subst ho'
          obtain ⟨u, hu, hou⟩ := hall to hto
          exact ⟨u, hu, standsAll_trans hle hou⟩)
        cases hc : comeAll out (nexts f.code[pc]! pc) (st, ch) with
        | none => rw [hc] at this; exact this
        | some y =>
          obtain ⟨st', ch'⟩ := y
          rw [hc] at this; simp only at this ⊢
          obtain ⟨m, l, e, d, k⟩ := this
          refine ⟨m, l, ?_, d, k⟩
          intro hch
          obtain ⟨e1, e2, e3⟩ := e hch
          refine ⟨e1, e2, ?_⟩
          intro s' hs'
          simp only [Option.some.injEq] at hs'; subst hs'
          exact ⟨out, ht, e3⟩

theorem roundFrom_mid {p : List Fun} {f : Fun} (hr : Ready p f) : ∀ (k pc : Nat) (st : St) (ch : Bool), Mid p f st →
    match roundFrom p f k pc (st, ch) with
    | none => ∀ b, ¬ Sol p f b
    | some (st', ch') => Mid p f st' ∧ left st' ≤ left st ∧ (ch' = false → ch = false ∧ st' = st ∧ ∀ i, pc ≤ i → i < pc + k → ∀ s, st[i]? = some (some s) → ∃ out, tryOp p f f.code[i]! s = some out ∧ ∀ to ∈ nexts f.code[i]! i, ∃ t, st[to]? = some (some t) ∧ standsAll out t = true) ∧ (ch = false → ch' = true → left st' < left st) ∧ (ch = true → ch' = true)
  | 0, pc, st, ch, h => by
    simp only [roundFrom]
    refine ⟨h, Nat.le_refl _, fun hc => ⟨hc, by simp, fun i h1 h2 => by omega⟩, fun h1 h2 => by rw [h1] at h2; simp at h2, fun h => h⟩
  | k + 1, pc, st, ch, h => by
    simp only [roundFrom]
    have h1 := visit_mid hr pc st ch h
    cases hv : visit p f pc (st, ch) with
    | none => rw [hv] at h1; exact h1
    | some y =>
      obtain ⟨st1, ch1⟩ := y
      rw [hv] at h1; simp only at h1 ⊢
      obtain ⟨m1, l1, e1, d1, k1⟩ := h1
      have ih := roundFrom_mid hr k (pc + 1) st1 ch1 m1
      cases hx : roundFrom p f k (pc + 1) (st1, ch1) with
      | none => rw [hx] at ih; exact ih
      | some z =>
        obtain ⟨st2, ch2⟩ := z
        rw [hx] at ih; simp only at ih ⊢
        obtain ⟨m2, l2, e2, d2, k2⟩ := ih
        refine ⟨m2, by omega, ?_, ?_, fun h => k2 (k1 h)⟩
        · intro hc
          obtain ⟨c1, s1, a1⟩ := e2 hc
          obtain ⟨c0, s0, a0⟩ := e1 c1
          subst s0
          refine ⟨c0, s1, ?_⟩
          intro i hi1 hi2 s hs
          by_cases c : i = pc
          · subst c; exact a0 s hs
          · exact a1 i (by omega) (by omega) s hs
        · intro hc0 hc2
          by_cases c : ch1 = true
          · have := d1 hc0 c; omega
          · have c' : ch1 = false := by simpa using c
            have := d2 c' hc2; omega

theorem sol_of_still {p : List Fun} {f : Fun} {st : St} (h : Mid p f st) (hall : ∀ i, i < f.code.length → ∀ s, st[i]? = some (some s) → ∃ out, tryOp p f f.code[i]! s = some out ∧ ∀ to ∈ nexts f.code[i]! i, ∃ t, st[to]? = some (some t) ∧ standsAll out t = true) :
    Least p f (some st) := by
  refine ⟨⟨h.len, h.zero, fun pc s hs => hall pc ?_ s hs⟩, h.below⟩
  rcases Nat.lt_or_ge pc st.length with c | c
  · rw [← h.len]; exact c
  · rw [List.getElem?_eq_none c] at hs; simp at hs

theorem roundsOf_least {p : List Fun} {f : Fun} (hr : Ready p f) : ∀ (k : Nat) (st : St), Mid p f st → left st < k → Least p f (roundsOf p f k st)
  | 0, _, _, h => by omega
  | k + 1, st, h, hk => by
    simp only [roundsOf]
    have h1 := roundFrom_mid hr f.code.length 0 st false h
    cases hx : roundFrom p f f.code.length 0 (st, false) with
    | none => rw [hx] at h1; exact h1
    | some y =>
      obtain ⟨st', more⟩ := y
      rw [hx] at h1; simp only at h1 ⊢
      obtain ⟨m, l, e, d, _⟩ := h1
      cases more with
      | true => simp only [if_true]; exact roundsOf_least hr k st' m (by simp at d; omega)
      | false =>
        simp only [Bool.false_eq_true, if_false]
        obtain ⟨_, es, ea⟩ := e rfl
        rw [es]
        exact sol_of_still h (fun i hi => ea i (by omega) (by omega))

theorem left_replicate (n : Nat) : left (List.replicate n none) = 10 * n := by
  induction n with
  | zero => rfl
  | succ n ih => simp only [List.replicate_succ, left, ih]; omega

theorem left_start {n : Nat} (h : 0 < n) : left (stStart n) + 10 = 10 * n := by
  have := left_set (st := List.replicate n none) (pc := 0) (x := none) [] (by rw [List.getElem?_replicate, if_pos h])
  simp only [left_replicate] at this
  unfold stStart
  have h0 : nulls [] = 0 := rfl
  omega

theorem entriesSt_least {p : List Fun} {f : Fun} (hr : Ready p f) : Least p f (entriesSt p f) := by
  have hl : 0 < f.code.length := by cases hc : f.code with | nil => exact absurd hc hr.code | cons _ _ => simp
  have := left_start hl
  exact roundsOf_least hr _ _ (mid_start hr.code) (by omega)

/-- the program's way: a list of places that are to do; a stack comes to all places of a list -/
def comeW (s : List Int) : List Nat → St × List Nat → Option (St × List Nat)
  | [], x => some x
  | pc :: t, x => match come x.1 pc s with
    | none => none
    | some (st', ch) => comeW s t (st', if ch then x.2 ++ [pc] else x.2)

def workStep (p : List Fun) (f : Fun) (x : St × List Nat) : Option (St × List Nat) :=
  match tryOp p f f.code[x.2.getLast!]! ((x.1[x.2.getLast!]!).getD []) with
  | none => none
  | some out => comeW out (nexts f.code[x.2.getLast!]! x.2.getLast!) (x.1, x.2.dropLast)

def workLoop (p : List Fun) (f : Fun) : Nat → St × List Nat → Option St
  | 0, x => some x.1
  | k + 1, x => if x.2 = [] then some x.1 else match workStep p f x with
    | none => none
    | some y => workLoop p f k y

def workSt (p : List Fun) (f : Fun) : Option St := workLoop p f (20 * f.code.length + 1) (stStart f.code.length, [0])

/-- all places that are not to do are done -/
structure Todo (p : List Fun) (f : Fun) (st : St) (todo : List Nat) : Prop where
  mid : Mid p f st
  met : ∀ i ∈ todo, ∃ s, st[i]? = some (some s)
  done : ∀ (i : Nat) s, st[i]? = some (some s) → i ∉ todo → ∃ out, tryOp p f f.code[i]! s = some out ∧ ∀ to ∈ nexts f.code[i]! i, ∃ t, st[to]? = some (some t) ∧ standsAll out t = true

theorem come_ge {p : List Fun} {f : Fun} {st st' : St} {to : Nat} {out : List Int} {ch : Bool} (_h : Mid p f st) (hc : come st to out = some (st', ch)) :
    (∀ (i : Nat) s, st[i]? = some (some s) → ∃ t, st'[i]? = some (some t) ∧ standsAll s t = true) ∧ (∃ t, st'[to]? = some (some t) ∧ (TyL out → standsAll out t = true)) ∧ (∀ i : Nat, i ≠ to → st'[i]? = st[i]?) ∧ (ch = false → st' = st) := by
  unfold come at hc
  cases hto : st[to]? with
  | none => rw [hto] at hc; simp at hc
  | some x =>
    have hlt : to < st.length := by
      rcases Nat.lt_or_ge to st.length with c | c
      · exact c
      · rw [List.getElem?_eq_none c] at hto; simp at hto
    rw [hto] at hc
    cases x with
    | none =>
      simp only [Option.some.injEq, Prod.mk.injEq] at hc
      obtain ⟨rfl, rfl⟩ := hc
      refine ⟨?_, ⟨out, by rw [List.getElem?_set, if_pos rfl, if_pos hlt], fun _ => standsAll_refl _⟩, ?_, by simp⟩
      · intro i s hs
        by_cases c : to = i
        · rw [← c, hto] at hs; simp at hs
        · exact ⟨s, by rw [List.getElem?_set, if_neg c]; exact hs, standsAll_refl _⟩
      · intro i hi; rw [List.getElem?_set, if_neg (fun c => hi c.symm)]
    | some t =>
      simp only at hc
      cases hj : joinL t out with
      | none => rw [hj] at hc; simp at hc
      | some j =>
        rw [hj] at hc; simp only at hc
        have up : standsAll t j = true ∧ standsAll out j = true := by
          clear hc
          have gen : ∀ (a b j : List Int), joinL a b = some j → standsAll a j = true ∧ standsAll b j = true := by
            intro a
            induction a with
            | nil => intro b j hj; cases b with
              | nil => simp [joinL] at hj; subst hj; simp [standsAll]
              | cons _ _ => simp [joinL] at hj
            | cons x a ih => intro b j hj; cases b with
              | nil => simp [joinL] at hj
              | cons y b =>
                simp [joinL] at hj
                obtain ⟨h0, j', hj', rfl⟩ := hj
                obtain ⟨i1, i2⟩ := ih b j' hj'
                simp only [standsAll, i1, i2, Bool.and_true]
                unfold joinT; unfold joinT at h0
                by_cases c1 : stands x y = true
                · rw [if_pos c1]; exact ⟨c1, stands_refl _⟩
                · rw [if_neg c1] at h0 ⊢
                  by_cases c2 : stands y x = true
                  · rw [if_pos c2]; exact ⟨stands_refl _, c2⟩
                  · rw [if_neg c2] at h0; exact absurd rfl h0
          exact gen t out j hj
        by_cases c : j = t
        · rw [if_pos c] at hc
          simp only [Option.some.injEq, Prod.mk.injEq] at hc
          obtain ⟨rfl, rfl⟩ := hc
          subst c
          exact ⟨fun i s hs => ⟨s, hs, standsAll_refl _⟩, ⟨j, hto, fun _ => up.2⟩, fun _ _ => rfl, fun _ => rfl⟩
        · rw [if_neg c] at hc
          simp only [Option.some.injEq, Prod.mk.injEq] at hc
          obtain ⟨rfl, rfl⟩ := hc
          refine ⟨?_, ⟨j, by rw [List.getElem?_set, if_pos rfl, if_pos hlt], fun _ => up.2⟩, ?_, by simp⟩
          · intro i s hs
            by_cases c : to = i
            · rw [← c, hto] at hs; simp only [Option.some.injEq] at hs; subst hs
              exact ⟨j, by rw [← c, List.getElem?_set, if_pos rfl, if_pos hlt], up.1⟩
            · exact ⟨s, by rw [List.getElem?_set, if_neg c]; exact hs, standsAll_refl _⟩
          · intro i hi; rw [List.getElem?_set, if_neg (fun c => hi c.symm)]

theorem comeW_mid {p : List Fun} {f : Fun} {out : List Int} (hty : TyL out) (hlen : out.length ≤ 8) : ∀ (l : List Nat) (st : St) (todo : List Nat), Mid p f st →
    (∀ b, Sol p f b → ∀ to ∈ l, ∃ t, b[to]? = some (some t) ∧ standsAll out t = true) →
    match comeW out l (st, todo) with
    | none => ∀ b, ¬ Sol p f b
    | some (st', todo') => Mid p f st' ∧ 2 * left st' + todo'.length ≤ 2 * left st + todo.length ∧ (∀ i ∈ todo, i ∈ todo') ∧ (∀ i ∈ todo', i ∈ todo ∨ ∃ s, st'[i]? = some (some s)) ∧
        (∀ (i : Nat) s, st[i]? = some (some s) → ∃ t, st'[i]? = some (some t) ∧ standsAll s t = true) ∧ (∀ to ∈ l, ∃ t, st'[to]? = some (some t) ∧ standsAll out t = true) ∧ (∀ i : Nat, i ∉ todo' → st'[i]? = st[i]?)
  | [], st, todo, h, _ => by
    simp only [comeW]
    exact ⟨h, Nat.le_refl _, fun _ h => h, fun _ h => .inl h, fun i s hs => ⟨s, hs, standsAll_refl _⟩, fun to hto => by simp at hto, by simp⟩
  | to :: l, st, todo, h, hout => by
    have h1 := come_mid h hty hlen (fun b hb => hout b hb to (List.mem_cons_self ..))
    simp only [comeW]
    cases hc : come st to out with
    | none => rw [hc] at h1; simp only at h1 ⊢; exact h1
    | some y =>
      obtain ⟨st1, ch1⟩ := y
      rw [hc] at h1; simp only at h1 ⊢
      obtain ⟨m1, _, e1, l1, l1'⟩ := h1
      obtain ⟨g1, ⟨t1, ht1, hot1⟩, g3, _⟩ := come_ge h hc
      have ih := comeW_mid hty hlen l st1 (if ch1 then todo ++ [to] else todo) m1 (fun b hb to' h' => hout b hb to' (List.mem_cons_of_mem _ h'))
      cases hr : comeW out l (st1, if ch1 then todo ++ [to] else todo) with
      | none => rw [hr] at ih; exact ih
      | some z =>
        obtain ⟨st2, todo2⟩ := z
        rw [hr] at ih; simp only at ih ⊢
        obtain ⟨m2, l2, a2, b2, c2, d2, f2⟩ := ih
        have sub : ∀ i ∈ todo, i ∈ (if ch1 then todo ++ [to] else todo) := by intro i hi; split <;> simp [hi]
        refine ⟨m2, ?_, fun i hi => a2 i (sub i hi), ?_, ?_, ?_, ?_⟩
        · cases ch1 with
          | true => have := l1 rfl; simp only [if_true, List.length_append, List.length_singleton] at l2; omega
          | false => simp only [Bool.false_eq_true, if_false] at l2; omega
        · intro i hi
          rcases b2 i hi with h | h
          · cases ch1 with
            | true =>
              simp only [if_true, List.mem_append, List.mem_singleton] at h
              rcases h with h | rfl
              · exact .inl h
              · obtain ⟨u, hu, _⟩ := c2 i t1 ht1; exact .inr ⟨u, hu⟩
            | false => exact .inl (by simpa using h)
          · exact .inr h
        · intro i s hs
          obtain ⟨t, ht, hst⟩ := g1 i s hs
          obtain ⟨u, hu, htu⟩ := c2 i t ht
          exact ⟨u, hu, standsAll_trans hst htu⟩
        · intro to' hto'
          rcases List.mem_cons.1 hto' with rfl | hto'
          · obtain ⟨u, hu, htu⟩ := c2 to' t1 ht1
            exact ⟨u, hu, standsAll_trans (hot1 hty) htu⟩
          · exact d2 to' hto'
        · intro i hi
          rw [f2 i hi]
          by_cases c : i = to
          · cases ch1 with
            | true => exact absurd (a2 i (by simp [c])) hi
            | false => rw [e1 rfl]
          · exact g3 i c

theorem getLast!_mem {l : List Nat} (h : l ≠ []) : l.getLast! ∈ l := by
  rw [List.getLast!_eq_getLast?_getD, List.getLast?_eq_some_getLast h]; exact List.getLast_mem h

theorem mem_dropLast_or {l : List Nat} {i : Nat} (h : i ∈ l) : i ∈ l.dropLast ∨ i = l.getLast! := by
  have hne : l ≠ [] := by intro c; rw [c] at h; simp at h
  have e := List.dropLast_concat_getLast hne
  rw [← e] at h
  rcases List.mem_append.1 h with h | h
  · exact .inl h
  · right
    rw [List.getLast!_eq_getLast?_getD, List.getLast?_eq_some_getLast hne]
    simpa using h

theorem workStep_todo {p : List Fun} {f : Fun} (hr : Ready p f) {st : St} {todo : List Nat} (h : Todo p f st todo) (hne : todo ≠ []) :
    match workStep p f (st, todo) with
    | none => ∀ b, ¬ Sol p f b
    | some (st', todo') => Todo p f st' todo' ∧ 2 * left st' + todo'.length < 2 * left st + todo.length := by
  unfold workStep
  simp only
  have hmem := getLast!_mem hne
  obtain ⟨s, hs⟩ := h.met _ hmem
  have hget : (st[todo.getLast!]!).getD [] = s := by rw [List.getElem!_eq_getElem?_getD, hs]; rfl
  rw [hget]
  generalize hpc : todo.getLast! = pc at *
  have hlt : pc < f.code.length := by
    rcases Nat.lt_or_ge pc st.length with c | c
    · rw [← h.mid.len]; exact c
    · rw [List.getElem?_eq_none c] at hs; simp at hs
  cases ht : tryOp p f f.code[pc]! s with
  | none =>
    simp only
    intro b hb
    obtain ⟨t, hbt, hst⟩ := h.mid.below b hb pc s hs
    obtain ⟨out, ho, _⟩ := hb.step pc t hbt
    obtain ⟨out', ho', _⟩ := tryOp_mono hst ho
    rw [ht] at ho'; simp at ho'
  | some out =>
    simp only
    have hty := tryOp_ty hr.prog hr.fn (hr.ops _ (getElem!_mem hlt)) (h.mid.ty pc s hs).1 ht
    have := comeW_mid hty (tryOp_len ht) (nexts f.code[pc]! pc) st todo.dropLast h.mid (by
      intro b hb to hto
      obtain ⟨t, hbt, hst⟩ := h.mid.below b hb pc s hs
      obtain ⟨o2, ho, hall⟩ := hb.step pc t hbt
      obtain ⟨out', ho', hle⟩ := tryOp_mono hst ho
      rw [ht] at ho'; simp only [Option.some.injEq] at ho'; subst ho'
      obtain ⟨u, hu, hou⟩ := hall to hto
      exact ⟨u, hu, standsAll_trans hle hou⟩)
    cases hc : comeW out (nexts f.code[pc]! pc) (st, todo.dropLast) with
    | none => rw [hc] at this; exact this
    | some y =>
      obtain ⟨st', todo'⟩ := y
      rw [hc] at this; simp only at this ⊢
      obtain ⟨m, l, a, b, c, d, e⟩ := this
      have hlen : todo.dropLast.length + 1 = todo.length := by
        have : 0 < todo.length := by cases todo with | nil => exact absurd rfl hne | cons _ _ => simp
        rw [List.length_dropLast]; omega
      refine ⟨⟨m, ?_, ?_⟩, by omega⟩
      · intro i hi
        rcases b i hi with h' | h'
        · obtain ⟨u, hu⟩ := h.met i (List.dropLast_subset _ h')
          obtain ⟨v, hv, _⟩ := c i u hu
          exact ⟨v, hv⟩
        · exact h'
      · intro i u hu hi
        have hsame := e i hi
        rw [hsame] at hu
        by_cases cpc : i = pc
        · subst cpc
          rw [hs] at hu; simp only [Option.some.injEq] at hu; subst hu
          exact ⟨out, ht, d⟩
        · have hnot : i ∉ todo := by
            intro hin
            rcases mem_dropLast_or hin with h' | h'
            · exact hi (a i h')
            · rw [hpc] at h'; exact cpc h'
          obtain ⟨o2, ho2, hall⟩ := h.done i u hu hnot
          refine ⟨o2, ho2, ?_⟩
          intro to hto
          obtain ⟨t, ht', hot⟩ := hall to hto
          obtain ⟨v, hv, htv⟩ := c to t ht'
          exact ⟨v, hv, standsAll_trans hot htv⟩

theorem workLoop_least {p : List Fun} {f : Fun} (hr : Ready p f) : ∀ (k : Nat) (st : St) (todo : List Nat), Todo p f st todo → 2 * left st + todo.length < k → Least p f (workLoop p f k (st, todo))
  | 0, _, _, _, h => by omega
  | k + 1, st, todo, h, hk => by
    simp only [workLoop]
    by_cases c : todo = []
    · rw [if_pos c]
      refine sol_of_still h.mid (fun i _ s hs => h.done i s hs (by simp [c]))
    · rw [if_neg c]
      have h1 := workStep_todo hr h c
      cases hx : workStep p f (st, todo) with
      | none => rw [hx] at h1; exact h1
      | some y =>
        obtain ⟨st', todo'⟩ := y
        rw [hx] at h1; simp only at h1 ⊢
        exact workLoop_least hr k st' todo' h1.1 (by omega)

theorem todo_start {p : List Fun} {f : Fun} (h : f.code ≠ []) : Todo p f (stStart f.code.length) [0] := by
  have m := mid_start (p := p) h
  refine ⟨m, ?_, ?_⟩
  · intro i hi; simp only [List.mem_singleton] at hi; subst hi; exact ⟨[], m.zero⟩
  · intro i s hs hi
    simp only [List.mem_singleton] at hi
    unfold stStart at hs
    rw [List.getElem?_set, if_neg (fun c => hi c.symm), List.getElem?_replicate] at hs
    split at hs <;> simp at hs

/-- both ways come to the same -/
theorem workSt_eq {p : List Fun} {f : Fun} (hr : Ready p f) : workSt p f = entriesSt p f := by
  have hl : 0 < f.code.length := by cases hc : f.code with | nil => exact absurd hc hr.code | cons _ _ => simp
  have := left_start hl
  exact least_unique (workLoop_least hr _ _ _ (todo_start hr.code) (by simp; omega)) (entriesSt_least hr)

end Mz
