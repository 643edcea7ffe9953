/- Lemmas: Wld, Wld2, Col, Ety, Errs, HolderP, RefGot. -/
import Derived.Test.YthdomhejkbpabaaGreatG03
set_option linter.unusedVariables false
set_option linter.unusedSimpArgs false
/- Worlds of machines side by side, as plain lists: what is right, what goes by mail; no program is in sight here. -/
namespace Mz

def checkWorld (p : List Fun) (w : List Mach) : Int :=
  if checkFits p ≠ 0 then checkFits p else if w = [] then 5 else if 4 < w.length then 2 else firstErr (checkRight p) w

def addIn (l : List Int) (m : Mach) : Mach := { m with inp := m.inp ++ l, status := if l ≠ [] ∧ m.status = 1 then 0 else m.status }
def dropOut (c : Nat) (m : Mach) : Mach := { m with out := m.out.drop c }
theorem addIn_nil (m : Mach) : addIn [] m = m := by cases m; simp [addIn]
theorem dropOut_zero (m : Mach) : dropOut 0 m = m := by cases m; simp [dropOut]

/-- a number is brought to machine i; none: there is no room -/
def bringTo (w : List Mach) (i : Nat) (n : Int) : Option (List Mach) := if (w[i]!).inp.length = 10 then none else some (w.set i (addIn [n] w[i]!))

def after (w : List Mach) (i : Nat) : Nat := (i + 1) % w.length
def before (w : List Mach) (j : Nat) : Nat := (j + w.length - 1) % w.length
/-- how many numbers go from machine i -/
def moved (w : List Mach) (i : Nat) : Nat := min (10 - (w[after w i]!).inp.length) (w[i]!).out.length
/-- j numbers went from machine i -/
def shift (w : List Mach) (i j : Nat) : List Mach :=
  (w.set (after w i) (addIn ((w[i]!).out.take j) w[after w i]!)).set i (dropOut j (w.set (after w i) (addIn ((w[i]!).out.take j) w[after w i]!))[i]!)
/-- the mail of the first i machines -/
def mailTo (w : List Mach) : Nat → List Mach × Nat
  | 0 => (w, 0)
  | i + 1 => (shift (mailTo w i).1 i (moved (mailTo w i).1 i), (mailTo w i).2 + moved (mailTo w i).1 i)
def mailOf (w : List Mach) : List Mach × Nat := mailTo w w.length
def turnOf (p : List Fun) (w : List Mach) (fuel : Int) : List Mach := (mailOf (w.map fun m => (runOf p m fuel).1)).1

theorem set_get {α : Type} [Inhabited α] {l : List α} {i j : Nat} {x : α} (hj : j < l.length) : (l.set i x)[j]! = if i = j then x else l[j]! := by
  rw [List.getElem!_eq_getElem?_getD, List.getElem?_set]
  by_cases c : i = j
  · subst c; rw [if_pos rfl, if_pos hj, if_pos rfl]; rfl
  · rw [if_neg c, if_neg c, List.getElem!_eq_getElem?_getD]
theorem after_lt {w : List Mach} {i : Nat} (h : i < w.length) : after w i < w.length := Nat.mod_lt _ (by omega)
theorem before_lt {w : List Mach} {j : Nat} (h : j < w.length) : before w j < w.length := Nat.mod_lt _ (by omega)
theorem before_after {w : List Mach} {i : Nat} (h : i < w.length) : before w (after w i) = i := by
  unfold before after
  by_cases c : i + 1 = w.length
  · rw [c, Nat.mod_self, Nat.zero_add, Nat.mod_eq_of_lt (by omega)]; omega
  · rw [Nat.mod_eq_of_lt (show i + 1 < w.length by omega), show i + 1 + w.length - 1 = i + w.length by omega, Nat.add_mod_right, Nat.mod_eq_of_lt h]
theorem after_before {w : List Mach} {j : Nat} (h : j < w.length) : after w (before w j) = j := by
  unfold before after
  by_cases c : j = 0
  · subst c; rw [Nat.zero_add, Nat.mod_eq_of_lt (show w.length - 1 < w.length by omega), show w.length - 1 + 1 = w.length by omega, Nat.mod_self]
  · rw [show j + w.length - 1 = (j - 1) + w.length by omega, Nat.add_mod_right, Nat.mod_eq_of_lt (show j - 1 < w.length by omega), show j - 1 + 1 = j by omega, Nat.mod_eq_of_lt h]
theorem shift_len (w : List Mach) (i j : Nat) : (shift w i j).length = w.length := by unfold shift; simp
theorem mailTo_len (w : List Mach) : ∀ i, (mailTo w i).1.length = w.length
  | 0 => rfl
  | i + 1 => by unfold mailTo; rw [shift_len, mailTo_len w i]
theorem shift_get {w : List Mach} {i j x : Nat} (hi : i < w.length) (hx : x < w.length) :
    (shift w i j)[x]! = dropOut (if x = i then j else 0) (addIn (if x = after w i then (w[i]!).out.take j else []) w[x]!) := by
  have ha := after_lt hi
  unfold shift
  rw [set_get (by simpa using hx), set_get (i := after w i) hi]
  by_cases c1 : i = x
  · subst c1
    rw [if_pos rfl, if_pos rfl]
    by_cases c2 : after w i = i
    · rw [if_pos c2, if_pos c2.symm, c2]
    · rw [if_neg c2, if_neg (fun h => c2 h.symm), addIn_nil]
  · rw [if_neg c1, if_neg (fun h => c1 h.symm), dropOut_zero, set_get hx]
    by_cases c2 : after w i = x
    · rw [if_pos c2, if_pos c2.symm, c2]
    · rw [if_neg c2, if_neg (fun h => c2 h.symm), addIn_nil]
/-- what machine j is behind the mail of the first i -/
def mailAt (w : List Mach) (i j : Nat) : Mach :=
  dropOut (if j < i then moved w j else 0) (addIn (if before w j < i then (w[before w j]!).out.take (moved w (before w j)) else []) w[j]!)
theorem add_add (l k : List Int) (m : Mach) : addIn k (addIn l m) = addIn (l ++ k) m := by
  cases m; unfold addIn; simp only [List.append_assoc, Mach.mk.injEq, true_and, and_true]
  by_cases c : l = []
  · subst c; simp
  · simp only [ne_eq, c, not_false_eq_true, true_and, List.append_eq_nil_iff, false_and]
    split
    · simp
    · next h => rw [if_neg (fun hh => h hh.2)]
theorem add_drop (l : List Int) (c : Nat) (m : Mach) : addIn l (dropOut c m) = dropOut c (addIn l m) := rfl
theorem mailTo_get {w : List Mach} : ∀ {i : Nat}, i ≤ w.length → ∀ j, j < w.length → (mailTo w i).1[j]! = mailAt w i j
  | 0, _, j, _ => by unfold mailAt mailTo; simp only [Nat.not_lt_zero, if_false]; rw [addIn_nil, dropOut_zero]
  | i + 1, hi, j, hj => by
    have ih := mailTo_get (w := w) (i := i) (by omega)
    have hl := mailTo_len w i
    have ha := after_lt (w := w) (i := i) (by omega)
    have hb := before_after (w := w) (i := i) (by omega)
    have e1 : after (mailTo w i).1 i = after w i := by unfold after; rw [hl]
    have e2 : ((mailTo w i).1[i]!).out = (w[i]!).out := by rw [ih i (by omega)]; unfold mailAt; rw [if_neg (by omega), dropOut_zero]; rfl
    have e3 : ((mailTo w i).1[after w i]!).inp = (w[after w i]!).inp := by rw [ih _ ha]; unfold mailAt; rw [hb, if_neg (Nat.lt_irrefl i), addIn_nil]; rfl
    have e4 : moved (mailTo w i).1 i = moved w i := by unfold moved; rw [e1, e3, e2]
    unfold mailTo
    simp only
    rw [shift_get (by omega) (by omega), e4, e1, e2, ih j hj]
    unfold mailAt
    by_cases c1 : j = i
    · subst c1
      rw [if_pos (rfl : j = j), if_neg (Nat.lt_irrefl j), if_pos (Nat.lt_succ_self j), dropOut_zero]
      by_cases c2 : j = after w j
      · rw [if_pos c2]
        have hb' : before w j = j := by rw [← c2] at hb; exact hb
        rw [hb', if_neg (Nat.lt_irrefl j), if_pos (Nat.lt_succ_self j), addIn_nil]
      · rw [if_neg c2, addIn_nil]
        have hb' : before w j ≠ j := fun h => c2 (by have := after_before hj; rw [h] at this; exact this.symm)
        by_cases c3 : before w j < j
        · rw [if_pos c3, if_pos (by omega)]
        · rw [if_neg c3, if_neg (by omega)]
    · rw [if_neg c1, dropOut_zero]
      have hlt : j < i + 1 ↔ j < i := by omega
      by_cases c2 : j = after w i
      · have hb' : before w j = i := by rw [c2]; exact hb
        rw [if_pos c2, hb', if_neg (Nat.lt_irrefl i), if_pos (Nat.lt_succ_self i), addIn_nil, add_drop]
        by_cases c3 : j < i
        · rw [if_pos c3, if_pos (by omega)]
        · rw [if_neg c3, if_neg (by omega)]
      · rw [if_neg c2, addIn_nil]
        have hb' : before w j ≠ i := fun h => c2 (by have := after_before hj; rw [h] at this; exact this.symm)
        by_cases c3 : j < i <;> by_cases c4 : before w j < i
        · rw [if_pos c3, if_pos c4, if_pos (by omega), if_pos (by omega)]
        · rw [if_pos c3, if_neg c4, if_pos (by omega), if_neg (by omega)]
        · rw [if_neg c3, if_pos c4, if_neg (by omega), if_pos (by omega)]
        · rw [if_neg c3, if_neg c4, if_neg (by omega), if_neg (by omega)]
theorem mail_get {w : List Mach} {j : Nat} (hj : j < w.length) : (mailOf w).1[j]! = dropOut (moved w j) (addIn ((w[before w j]!).out.take (moved w (before w j))) w[j]!) := by
  unfold mailOf
  rw [mailTo_get (Nat.le_refl _) j hj]
  unfold mailAt
  rw [if_pos hj, if_pos (before_lt hj)]
theorem mail_len (w : List Mach) : (mailOf w).1.length = w.length := mailTo_len w _

/-- numbers that are brought leave a machine right -/
theorem addIn_right {p : List Fun} {m : Mach} {l : List Int} (h : RightS p m) (hl : ∀ n ∈ l, isInt n = true) (hn : m.inp.length + l.length ≤ 10) : RightS p (addIn l m) := by
  have hs := h.status
  have st : (addIn l m).status = m.status ∨ (m.status = 1 ∧ (addIn l m).status = 0) := by
    unfold addIn; simp only; split
    · next c => exact .inr ⟨c.2, rfl⟩
    · exact .inl rfl
  refine ⟨by omega, fun c => h.trap1 (by omega), fun c => h.trap0 (by omega), h.nblocks, h.cells, h.bints, by simp [addIn]; omega, h.nout, fun n hn => ?_, h.outs, h.nframes, ?_, h.frames, fun c => ?_⟩
  · rcases List.mem_append.1 hn with hn | hn
    · exact h.inps n hn
    · exact hl n hn
  · rw [show (addIn l m).frames = m.frames from rfl, ← h.done]; omega
  · by_cases c1 : l ≠ [] ∧ m.status = 1
    · unfold addIn at c; simp only at c; rw [if_pos c1] at c; omega
    · unfold addIn at c; simp only at c; rw [if_neg c1] at c
      by_cases c2 : l = []
      · subst c2; rw [addIn_nil]; exact h.wait c
      · exact absurd ⟨c2, c⟩ c1
theorem dropOut_right {p : List Fun} {m : Mach} {c : Nat} (h : RightS p m) : RightS p (dropOut c m) :=
  ⟨h.status, h.trap1, h.trap0, h.nblocks, h.cells, h.bints, h.ninp, by have := h.nout; simp [dropOut]; omega, h.inps, fun n hn => h.outs n (List.mem_of_mem_drop hn), h.nframes, h.done, h.frames, h.wait⟩

structure WorldS (p : List Fun) (w : List Mach) : Prop where
  fits : checkFits p = 0
  ne : w ≠ []
  len : w.length ≤ 4
  right : ∀ m ∈ w, RightS p m
theorem checkWorld_zero {p : List Fun} {w : List Mach} : checkWorld p w = 0 ↔ WorldS p w := by
  unfold checkWorld
  by_cases c1 : checkFits p ≠ 0
  · rw [if_pos c1]; exact ⟨fun h => absurd h c1, fun h => absurd h.fits c1⟩
  rw [if_neg c1]
  by_cases c2 : w = []
  · rw [if_pos c2]; exact ⟨fun h => by omega, fun h => absurd c2 h.ne⟩
  rw [if_neg c2]
  by_cases c3 : 4 < w.length
  · rw [if_pos c3]; exact ⟨fun h => by omega, fun h => by have := h.len; omega⟩
  rw [if_neg c3, firstErr_iff]
  constructor
  · intro h; exact ⟨Classical.not_not.1 c1, c2, by omega, fun m hm => checkRight_zero.1 (h m hm)⟩
  · intro h m hm; exact checkRight_zero.2 (h.right m hm)
theorem WorldS.get {p : List Fun} {w : List Mach} (h : WorldS p w) {i : Nat} (hi : i < w.length) : RightS p w[i]! := h.right _ (getElem!_mem hi)
theorem bring_right {p : List Fun} {w w' : List Mach} {i : Nat} {n : Int} (h : WorldS p w) (hi : i < w.length) (hn : isInt n = true) (hb : bringTo w i n = some w') : WorldS p w' := by
  unfold bringTo at hb
  have hr := h.get hi
  have := hr.ninp
  by_cases c : (w[i]!).inp.length = 10
  · rw [if_pos c] at hb; cases hb
  rw [if_neg c] at hb
  simp only [Option.some.injEq] at hb; subst hb
  refine ⟨h.fits, by simpa using h.ne, by simpa using h.len, fun m hm => ?_⟩
  rcases mem_set_or hm with hm | rfl
  · exact h.right m hm
  · exact addIn_right hr (fun k hk => by simp only [List.mem_singleton] at hk; subst hk; exact hn) (by simp only [List.length_singleton]; omega)
theorem mail_right {p : List Fun} {w : List Mach} (h : WorldS p w) : WorldS p (mailOf w).1 := by
  have hl := mail_len w
  refine ⟨h.fits, fun c => h.ne (List.eq_nil_of_length_eq_zero (by rw [← hl, c]; rfl)), by rw [hl]; exact h.len, fun m hm => ?_⟩
  obtain ⟨j, hj, rfl⟩ := List.mem_iff_getElem.1 hm
  rw [hl] at hj
  have := mail_get hj
  rw [getElem!_pos _ j (by omega)] at this
  rw [this]
  have hb := before_lt hj
  refine dropOut_right (addIn_right (h.get hj) (fun n hn => (h.get hb).outs n (List.mem_of_mem_take hn)) ?_)
  have h1 : moved w (before w j) ≤ 10 - (w[j]!).inp.length := by
    unfold moved; rw [after_before hj]; exact Nat.min_le_left _ _
  have := (h.get hj).ninp
  simp only [List.length_take]; omega
theorem turn_right {p : List Fun} {w : List Mach} {fuel : Int} (h : WorldS p w) : WorldS p (turnOf p w fuel) := by
  refine mail_right ⟨h.fits, by simpa using h.ne, by simpa using h.len, fun m hm => ?_⟩
  rw [List.mem_map] at hm
  obtain ⟨k, hk, rfl⟩ := hm
  exact runOf_right h.fits (h.right k hk)
end Mz

/- Mail, number by number; nothing of it is lost; no program is in sight here. -/
namespace Mz

theorem mailTo_moved {w : List Mach} {i : Nat} (hi : i < w.length) : moved (mailTo w i).1 i = moved w i ∧ after (mailTo w i).1 i = after w i ∧ ((mailTo w i).1[i]!).out = (w[i]!).out ∧ ((mailTo w i).1[after w i]!).inp = (w[after w i]!).inp := by
  have ih := mailTo_get (w := w) (i := i) (by omega)
  have hl := mailTo_len w i
  have ha := after_lt (w := w) (i := i) (by omega)
  have hb := before_after (w := w) (i := i) (by omega)
  have e1 : after (mailTo w i).1 i = after w i := by unfold after; rw [hl]
  have e2 : ((mailTo w i).1[i]!).out = (w[i]!).out := by rw [ih i (by omega)]; unfold mailAt; rw [if_neg (by omega), dropOut_zero]; rfl
  have e3 : ((mailTo w i).1[after w i]!).inp = (w[after w i]!).inp := by rw [ih _ ha]; unfold mailAt; rw [hb, if_neg (Nat.lt_irrefl i), addIn_nil]; rfl
  exact ⟨by unfold moved; rw [e1, e3, e2], e1, e2, e3⟩
theorem ext_get {α : Type} [Inhabited α] {a b : List α} (hl : a.length = b.length) (h : ∀ i, i < b.length → a[i]! = b[i]!) : a = b := by
  apply List.ext_getElem hl
  intro i h1 h2
  have := h i h2
  rwa [getElem!_pos a i h1, getElem!_pos b i h2] at this
theorem shift_zero {w : List Mach} {i : Nat} (hi : i < w.length) : shift w i 0 = w := by
  refine ext_get (shift_len _ _ _) fun j hj => ?_
  rw [shift_get hi hj]
  simp only [List.take_zero, ite_self]
  rw [addIn_nil, dropOut_zero]
/-- one number more: it is brought, and it is dropped -/
theorem shift_succ {w : List Mach} {i j : Nat} (hi : i < w.length) (hj : j < (w[i]!).out.length) :
    shift w i (j + 1) = ((shift w i j).set (after w i) (addIn [((w[i]!).out)[j]!] (shift w i j)[after w i]!)).set i (dropOut 1 ((shift w i j).set (after w i) (addIn [((w[i]!).out)[j]!] (shift w i j)[after w i]!))[i]!) := by
  have ha := after_lt hi
  have hl := shift_len w i j
  have htk : (w[i]!).out.take (j + 1) = (w[i]!).out.take j ++ [((w[i]!).out)[j]!] := by
    rw [List.take_succ_eq_append_getElem hj, getElem!_pos _ j hj]
  have hdd : ∀ (m : Mach), dropOut 1 (dropOut j m) = dropOut (j + 1) m := by intro m; cases m; simp [dropOut]
  refine ext_get (by simp [shift_len]) fun x hx => ?_
  simp only [List.length_set, hl] at hx
  rw [shift_get hi hx, set_get (by simpa [hl] using hx)]
  have hg := shift_get (j := j) hi hx
  by_cases c1 : i = x
  · subst c1
    rw [if_pos (rfl : i = i), if_pos (rfl : i = i), set_get (by omega)]
    rw [if_pos (rfl : i = i)] at hg
    by_cases c2 : after w i = i
    · rw [if_pos c2.symm, if_pos c2, c2, hg, if_pos c2.symm, add_drop, hdd, add_add, htk]
    · rw [if_neg (fun h => c2 h.symm), if_neg c2, hg, if_neg (fun h => c2 h.symm), hdd]
  · rw [if_neg (fun h => c1 h.symm), if_neg c1, set_get (by omega)]
    rw [if_neg (fun h => c1 h.symm)] at hg
    by_cases c2 : after w i = x
    · subst c2
      rw [if_pos rfl, if_pos rfl, hg, if_pos rfl, add_drop, add_add, htk]
    · rw [if_neg (fun h => c2 h.symm), if_neg c2, hg, if_neg (fun h => c2 h.symm)]
theorem mail_sum {w : List Mach} {i : Nat} (hi : i < w.length) : ((mailOf w).1[after w i]!).inp ++ ((mailOf w).1[i]!).out = (w[after w i]!).inp ++ (w[i]!).out := by
  rw [mail_get hi, mail_get (after_lt hi), before_after hi]
  simp only [dropOut, addIn, List.append_assoc, List.take_append_drop]
theorem mail_stuck {w : List Mach} {i : Nat} (hi : i < w.length) (h10 : (w[after w i]!).inp.length ≤ 10) : ((mailOf w).1[i]!).out = [] ∨ ((mailOf w).1[after w i]!).inp.length = 10 := by
  rw [mail_get hi, mail_get (after_lt hi), before_after hi]
  simp only [dropOut, addIn, List.length_append, List.length_take]
  unfold moved
  by_cases c : (w[i]!).out.length ≤ 10 - (w[after w i]!).inp.length
  · left; rw [Nat.min_eq_right c]; simp
  · right; omega
theorem mailTo_sum {w : List Mach} : ∀ {i : Nat}, i ≤ w.length → (mailTo w i).2 = ((List.range i).map (moved w)).sum
  | 0, _ => rfl
  | i + 1, hi => by
    unfold mailTo; simp only
    rw [mailTo_sum (by omega), (mailTo_moved (by omega)).1, List.range_succ]; simp
theorem mail_out {w : List Mach} {i : Nat} (hi : i < w.length) : ((mailOf w).1[i]!).out.length + moved w i = (w[i]!).out.length := by
  rw [mail_get hi]
  simp only [dropOut, addIn, List.length_drop]
  unfold moved; omega
theorem mailTo_still {w : List Mach} (h : ∀ i, i < w.length → moved w i = 0) : ∀ {i : Nat}, i ≤ w.length → mailTo w i = (w, 0)
  | 0, _ => rfl
  | i + 1, hi => by
    unfold mailTo
    rw [mailTo_still h (by omega)]; simp only
    rw [h i (by omega), shift_zero (by omega)]
theorem mail_again {w : List Mach} (h10 : ∀ m ∈ w, m.inp.length ≤ 10) : mailOf (mailOf w).1 = ((mailOf w).1, 0) := by
  have hl := mail_len w
  unfold mailOf
  refine mailTo_still (w := (mailTo w w.length).1) (fun i hi => ?_) (Nat.le_refl _)
  have hi' : i < w.length := by rw [mailTo_len] at hi; exact hi
  have ha := after_lt hi'
  have e1 : after (mailTo w w.length).1 i = after w i := by unfold after; rw [mailTo_len]
  have := mail_stuck hi' (h10 _ (getElem!_mem ha))
  unfold mailOf at this
  unfold moved
  rw [e1]
  rcases this with h | h
  · rw [h]; simp
  · rw [h]; simp
end Mz

/- Blocks that nobody has: which refs a machine has, and what it is without the other blocks; no program is in sight here. -/
namespace Mz

def valsOf (m : Mach) : List Val := m.frames.flatMap fun x => x.locals ++ x.stack
def hasRef (m : Mach) (r : Int) : Bool := (valsOf m).any fun v => v.ref && v.n == r
def rootsOf (m : Mach) : List Int := ((List.range m.blocks.length).map fun (i : Nat) => (i : Int) + 1).filter (hasRef m)
/-- the place of a number in a list, from 1 on; 0: it is not there -/
def placeIn (l : List Int) (n : Int) : Nat := match l.findIdx? (fun k => k == n) with | some i => i + 1 | none => 0
def movedV (roots : List Int) (v : Val) : Val := if v.ref = true ∧ v.n ∈ roots then ⟨true, placeIn roots v.n⟩ else v
def movedF (roots : List Int) (x : Frm) : Frm := { x with locals := x.locals.map (movedV roots), stack := x.stack.map (movedV roots) }
def collectOf (m : Mach) : Mach := { m with blocks := (rootsOf m).map (fun r => m.blocks[(r - 1).toNat]!), frames := m.frames.map (movedF (rootsOf m)) }

theorem roots_mem {m : Mach} {r : Int} : r ∈ rootsOf m ↔ (1 ≤ r ∧ r ≤ m.blocks.length) ∧ hasRef m r = true := by
  unfold rootsOf
  rw [List.mem_filter, List.mem_map]
  constructor
  · rintro ⟨⟨i, hi, rfl⟩, h⟩
    rw [List.mem_range] at hi
    exact ⟨by omega, h⟩
  · rintro ⟨h1, h2⟩
    exact ⟨⟨(r - 1).toNat, List.mem_range.2 (by omega), by omega⟩, h2⟩
theorem placeIn_pos {l : List Int} {n : Int} (h : n ∈ l) : 1 ≤ placeIn l n ∧ placeIn l n ≤ l.length := by
  unfold placeIn
  cases hf : l.findIdx? (fun k => k == n) with
  | none =>
    rw [List.findIdx?_eq_none_iff] at hf
    have := hf n h; simp at this
  | some i =>
    have := List.findIdx?_eq_some_iff_getElem.1 hf
    obtain ⟨hi, _⟩ := this
    simp only; omega
theorem roots_len (m : Mach) : (rootsOf m).length ≤ m.blocks.length := by
  unfold rootsOf
  have := List.length_filter_le (hasRef m) ((List.range m.blocks.length).map fun (i : Nat) => (i : Int) + 1)
  simpa using this
theorem cells_filter (l : List (List Int)) (g : Int → Bool) : ∀ (k : Nat), k ≤ l.length → cellsOf ((((List.range k).map fun (i : Nat) => (i : Int) + 1).filter g).map (fun r => l[(r - 1).toNat]!)) ≤ cellsOf (l.take k)
  | 0, _ => by simp [cellsOf]
  | k + 1, hk => by
    have ih := cells_filter l g k (by omega)
    rw [List.range_succ, List.map_append, List.filter_append, List.map_append, cellsOf_append, List.take_succ_eq_append_getElem (by omega), cellsOf_append]
    simp only [List.map_cons, List.map_nil, List.filter_cons, List.filter_nil]
    by_cases c : g ((k : Int) + 1) = true
    · rw [if_pos c]
      simp only [List.map_cons, List.map_nil, cellsOf, Nat.add_zero]
      rw [show ((k : Int) + 1 - 1).toNat = k by omega, getElem!_pos l k (by omega)]; omega
    · rw [if_neg c]; simp only [List.map_nil, cellsOf]; omega
theorem collect_cells (m : Mach) : cellsOf (collectOf m).blocks ≤ cellsOf m.blocks := by
  have := cells_filter m.blocks (hasRef m) m.blocks.length (Nat.le_refl _)
  rw [List.take_of_length_le (Nat.le_refl _)] at this
  exact this

theorem movedV_ref (roots : List Int) (v : Val) : (movedV roots v).ref = v.ref := by
  unfold movedV
  by_cases c : v.ref = true ∧ v.n ∈ roots
  · rw [if_pos c]; exact c.1.symm
  · rw [if_neg c]
theorem movedV_zero {m : Mach} {v : Val} : ((movedV (rootsOf m) v).n = 0) ↔ v.n = 0 := by
  unfold movedV
  by_cases c : v.ref = true ∧ v.n ∈ rootsOf m
  · rw [if_pos c]
    have h1 := placeIn_pos c.2
    have h2 := (roots_mem.1 c.2).1
    simp only; omega
  · rw [if_neg c]
theorem movedV_as {m : Mach} {v : Val} {t : Int} : asT (movedV (rootsOf m) v) t = asT v t := by
  have h1 := movedV_ref (rootsOf m) v
  have h2 := movedV_zero (m := m) (v := v)
  have h3 : ((movedV (rootsOf m) v).n == 0) = (v.n == 0) := by rw [Bool.eq_iff_iff]; simpa using h2
  unfold asT; rw [h1, h3]
theorem movedV_all {m : Mach} : ∀ {s : List Val} {t : List Int}, asAll (s.map (movedV (rootsOf m))) t = asAll s t
  | [], [] => rfl
  | [], _ :: _ => rfl
  | _ :: _, [] => rfl
  | v :: s, t :: k => by simp only [List.map_cons, asAll, movedV_as, movedV_all (s := s) (t := k)]
theorem movedV_ok {m : Mach} {v : Val} (hv : v ∈ valsOf m) (h : valOk m.blocks.length v = true) : valOk (rootsOf m).length (movedV (rootsOf m) v) = true := by
  unfold valOk at h ⊢
  rw [movedV_ref]
  by_cases c : v.ref = true
  · rw [if_pos c, btw_iff] at h ⊢
    unfold movedV
    by_cases c2 : v.ref = true ∧ v.n ∈ rootsOf m
    · rw [if_pos c2]; have := placeIn_pos c2.2; simp only; omega
    · rw [if_neg c2]
      by_cases c3 : v.n = 0
      · omega
      · exfalso
        refine c2 ⟨c, roots_mem.2 ⟨by omega, ?_⟩⟩
        unfold hasRef
        rw [List.any_eq_true]
        exact ⟨v, hv, by simp [c]⟩
  · rw [if_neg c] at h ⊢
    unfold movedV
    rw [if_neg (fun hh => c hh.1)]; exact h
theorem movedF_want {p : List Fun} {m : Mach} {x : Frm} {f : Int} : wantMid p (movedF (rootsOf m) x) f = wantMid p x f := rfl
theorem movedF_ok {p : List Fun} {m : Mach} {x : Frm} {w : Option (List Int)} (hx : x ∈ m.frames) (h : FrmOk p m.blocks.length x w) : FrmOk p (collectOf m).blocks.length (movedF (rootsOf m) x) w := by
  have hin : ∀ v, v ∈ x.locals ∨ v ∈ x.stack → v ∈ valsOf m := fun v hv => List.mem_flatMap.2 ⟨x, hx, List.mem_append.2 hv⟩
  have hl : (collectOf m).blocks.length = (rootsOf m).length := by simp [collectOf]
  refine ⟨h.fn, ?_, fun v hv => ?_, fun v hv => ?_, ?_⟩
  · show asAll (x.locals.map (movedV (rootsOf m))) _ = true
    rw [movedV_all]; exact h.loc
  · obtain ⟨u, hu, rfl⟩ := List.mem_map.1 hv
    rw [hl]; exact movedV_ok (hin u (.inl hu)) (h.lvals u hu)
  · obtain ⟨u, hu, rfl⟩ := List.mem_map.1 hv
    rw [hl]; exact movedV_ok (hin u (.inr hu)) (h.svals u hu)
  · obtain ⟨t, ht, hs⟩ := h.want
    exact ⟨t, ht, by show asAll (x.stack.map (movedV (rootsOf m))) t = true; rw [movedV_all]; exact hs⟩
theorem movedF_waits {p : List Fun} {m : Mach} {f : Int} : ∀ {l : List Frm}, (∀ x ∈ l, x ∈ m.frames) → Waits p m.blocks.length l f → Waits p (collectOf m).blocks.length (l.map (movedF (rootsOf m))) f
  | [], _, _ => trivial
  | [x], hm, h => movedF_ok (hm x (List.mem_singleton.2 rfl)) h
  | x :: y :: l, hm, h => ⟨movedF_ok (hm x (List.mem_cons_self ..)) h.1, movedF_waits (l := y :: l) (fun z hz => hm z (List.mem_cons_of_mem _ hz)) h.2⟩
/-- a collected machine is right -/
theorem collect_right {p : List Fun} {m : Mach} (h : RightS p m) : RightS p (collectOf m) := by
  have hl : (collectOf m).blocks.length = (rootsOf m).length := by simp [collectOf]
  have hr := roots_len m
  have hc := collect_cells m
  have hnb := h.nblocks
  have hce := h.cells
  refine ⟨h.status, h.trap1, h.trap0, by omega, by omega, fun b hb n hn => ?_, h.ninp, h.nout, h.inps, h.outs, by have := h.nframes; simpa [collectOf] using this, ?_, ?_, fun c => ?_⟩
  · obtain ⟨r, hr, rfl⟩ := List.mem_map.1 hb
    have := (roots_mem.1 hr).1
    exact h.bints _ (getElem!_mem (by omega)) n hn
  · rw [show (collectOf m).status = m.status from rfl, h.done]; simp [collectOf]
  · rcases h.frames with h0 | ⟨l, x, hm, hw, hx, hz⟩
    · left; simp [collectOf, h0]
    · right
      refine ⟨l.map (movedF (rootsOf m)), movedF (rootsOf m) x, by simp [collectOf, hm], movedF_waits (fun y hy => by rw [hm]; exact List.mem_append.2 (.inl hy)) hw, movedF_ok (by rw [hm]; simp) hx, ?_⟩
      rw [hm] at hz
      simp only [collectOf, hm]
      cases l with
      | nil => simpa [movedF] using hz
      | cons a l => simpa [movedF] using hz
  · have := h.wait c
    refine ⟨this.1, ?_⟩
    rw [← this.2]
    rcases h.frames with h0 | ⟨l, x, hm, hw, hx, hz⟩
    · have h2 := h.done.2 h0
      have : (collectOf m).status = m.status := rfl
      omega
    · unfold opAt
      simp only [collectOf, hm, List.map_append, List.map_cons, List.map_nil, top_facts.1]; rfl
end Mz

/- Types of entries are types; no program is in sight here. -/
namespace Mz
theorem entry_ty {p : List Fun} {fn pc : Int} {t : List Int} (hfit : checkFits p = 0) (hf : 0 ≤ fn ∧ fn < p.length) (h : entryAt p fn pc = some t) : TyL t := by
  obtain ⟨_, hr, _, st, hst, hsol⟩ := fits_st hfit hf
  obtain ⟨h0, hg⟩ := (entryAt_iff hst).1 h
  exact ((roundsOf_mid hr _ _ _ (mid_start hr.code) hst).ty _ _ hg).1
theorem wantMid_ty {p : List Fun} {x : Frm} {f : Int} {t : List Int} (hfit : checkFits p = 0) (hf : 0 ≤ x.fn ∧ x.fn < p.length) (h : wantMid p x f = some t) : TyL t := by
  unfold wantMid at h
  by_cases b1 : btw x.pc 1 (p[x.fn.toNat]!).code.length = false ∨ (p[x.fn.toNat]!).code[(x.pc - 1).toNat]! ≠ ⟨12, f⟩
  · rw [if_pos b1] at h; cases h
  rw [if_neg b1] at h
  by_cases b2 : (entryAt p x.fn (x.pc - 1)).isNone
  · rw [if_pos b2] at h; cases h
  rw [if_neg b2] at h
  simp only [Option.some.injEq] at h
  have hl : TyL ((entryAt p x.fn x.pc).getD []) := by
    cases he : entryAt p x.fn x.pc with
    | none => exact .nil
    | some u => exact entry_ty hfit hf he
  rw [← h]; split
  · rw [List.dropLast_eq_take]; exact hl.take _
  · exact hl
theorem wantOf_ty {p : List Fun} {m : Mach} {i : Nat} {t : List Int} (hfit : checkFits p = 0) (hf : 0 ≤ (m.frames[i]!).fn ∧ (m.frames[i]!).fn < p.length) (h : wantOf p m i = some t) : TyL t := by
  by_cases c : i + 1 < m.frames.length
  · rw [wantOf_mid c] at h; exact wantMid_ty hfit hf h
  · rw [wantOf_top c] at h; exact entry_ty hfit hf h
theorem wantOf_len {p : List Fun} {m : Mach} {i : Nat} {t : List Int} (hfit : checkFits p = 0) (hf : 0 ≤ (m.frames[i]!).fn ∧ (m.frames[i]!).fn < p.length) (h : wantOf p m i = some t) : t.length ≤ 8 := by
  by_cases c : i + 1 < m.frames.length
  · rw [wantOf_mid c] at h; exact (want_len hfit hf h).2
  · rw [wantOf_top c] at h; exact entry_len hfit hf h
/-- what a frame's check answers, in its own words -/
def frameErr (nb : Nat) (x : Frm) (locs : List Int) (want : Option (List Int)) : Int :=
  if x.locals.length ≠ locs.length then 1
  else if (x.locals ++ x.stack).all (valOk nb) = false then 3
  else if asAll x.locals locs = false then 6
  else checkStack want x.stack
theorem checkFrame_eq {p : List Fun} {m : Mach} {i : Nat} : checkFrame p m i = frameErr m.blocks.length m.frames[i]! (p[(m.frames[i]!).fn.toNat]!).locals (wantOf p m i) := rfl
theorem frameErr_len {nb : Nat} {x : Frm} {locs : List Int} {want : Option (List Int)} (h : x.locals.length ≠ locs.length) : frameErr nb x locs want = 1 := by unfold frameErr; rw [if_pos h]
theorem frameErr_val {nb : Nat} {x : Frm} {locs : List Int} {want : Option (List Int)} (h : x.locals.length = locs.length) (h2 : (x.locals ++ x.stack).all (valOk nb) = false) : frameErr nb x locs want = 3 := by unfold frameErr; rw [if_neg (by omega), if_pos h2]
theorem frameErr_as {nb : Nat} {x : Frm} {locs : List Int} {want : Option (List Int)} (h : x.locals.length = locs.length) (h2 : (x.locals ++ x.stack).all (valOk nb) = true) (h3 : asAll x.locals locs = false) : frameErr nb x locs want = 6 := by unfold frameErr; rw [if_neg (by omega), if_neg (by rw [h2]; decide), if_pos h3]
theorem frameErr_want {nb : Nat} {x : Frm} {locs : List Int} {want : Option (List Int)} (h : x.locals.length = locs.length) (h2 : (x.locals ++ x.stack).all (valOk nb) = true) (h3 : asAll x.locals locs = true) : frameErr nb x locs want = checkStack want x.stack := by unfold frameErr; rw [if_neg (by omega), if_neg (by rw [h2]; decide), if_neg (by rw [h3]; decide)]
theorem asAll_iff : ∀ {s : List Val} {t : List Int}, s.length = t.length → (asAll s t = true ↔ ∀ i, i < t.length → asT s[i]! t[i]! = true)
  | [], [], _ => by simp [asAll]
  | [], _ :: _, h => by simp at h
  | _ :: _, [], h => by simp at h
  | v :: s, a :: t, h => by
    have ih := asAll_iff (s := s) (t := t) (by simpa using h)
    simp only [asAll, Bool.and_eq_true, ih]
    constructor
    · rintro ⟨h1, h2⟩ i hi
      cases i with
      | zero => simpa using h1
      | succ i => simpa using h2 i (by simpa using hi)
    · intro h
      exact ⟨by simpa using h 0 (by simp), fun i hi => by simpa using h (i + 1) (by simpa using hi)⟩
theorem asAll_stop {s : List Val} {t : List Int} {i : Nat} (hl : s.length = t.length) (hi : i < t.length) (h : asT s[i]! t[i]! = false) : asAll s t = false := by
  cases ha : asAll s t with
  | false => rfl
  | true => have := (asAll_iff hl).1 ha i hi; rw [h] at this; cases this
end Mz

/- The errors of a machine in parts; no program is in sight here. -/
namespace Mz
def fnIn (p : List Fun) (x : Frm) : Bool := btw x.fn 0 ((p.length : Int) - 1)
/-- what is wrong with the frames -/
def framesErr (p : List Fun) (m : Mach) : Int :=
  if 6 < m.frames.length then 2
  else if m.frames = [] ∧ m.status ≠ 2 then 5
  else if m.frames ≠ [] ∧ m.status = 2 then 1
  else if m.frames.all (fnIn p) = false then 3
  else if m.frames ≠ [] ∧ (m.frames[0]!).fn ≠ 0 then 4
  else firstErr (checkFrame p m) (List.range m.frames.length)
def trapOk (m : Mach) : Bool := if m.status = 3 then btw m.trap 1 5 else btw m.trap 0 0
def waitErr (p : List Fun) (m : Mach) : Int := if m.status = 1 ∧ (m.inp ≠ [] ∨ (opAt p m).code ≠ 21) then 4 else 0
def boxErr (m : Mach) : Int := if 10 < m.inp.length ∨ 10 < m.out.length then 2 else if (m.inp ++ m.out).all isInt = false then 3 else 0
theorem checkRight_parts {p : List Fun} {m : Mach} : checkRight p m =
    if btw m.status 0 3 = false then 6
    else if trapOk m = false then 1
    else if checkBlocks m.blocks ≠ 0 then checkBlocks m.blocks
    else if boxErr m ≠ 0 then boxErr m
    else if framesErr p m ≠ 0 then framesErr p m
    else waitErr p m := by
  unfold checkRight
  by_cases c1 : btw m.status 0 3 = false
  · rw [if_pos c1, if_pos c1]
  rw [if_neg c1, if_neg c1]
  have ht : ((m.status = 3 ∧ btw m.trap 1 5 = false) ∨ (m.status ≠ 3 ∧ m.trap ≠ 0)) ↔ trapOk m = false := by
    unfold trapOk
    by_cases c : m.status = 3
    · rw [if_pos c]; simp [c]
    · rw [if_neg c]
      have : btw m.trap 0 0 = false ↔ m.trap ≠ 0 := by
        rw [← Bool.not_eq_true, btw_iff]; omega
      rw [this]; simp [c]
  by_cases c2 : trapOk m = false
  · rw [if_pos (ht.2 c2), if_pos c2]
  rw [if_neg (fun h => c2 (ht.1 h)), if_neg c2]
  by_cases c3 : checkBlocks m.blocks ≠ 0
  · rw [if_pos c3, if_pos c3]
  rw [if_neg c3, if_neg c3]
  by_cases c4 : 10 < m.inp.length ∨ 10 < m.out.length
  · have : boxErr m = 2 := by unfold boxErr; rw [if_pos c4]
    rw [if_pos c4, this]; rfl
  rw [if_neg c4]
  by_cases c5 : (m.inp ++ m.out).all isInt = false
  · have : boxErr m = 3 := by unfold boxErr; rw [if_neg c4, if_pos c5]
    rw [if_pos c5, this]; rfl
  have hb : boxErr m = 0 := by unfold boxErr; rw [if_neg c4, if_neg c5]
  rw [if_neg c5, hb, if_neg (show ¬ ((0 : Int) ≠ 0) by simp)]
  have hw : (if m.status = 1 ∧ (m.inp ≠ [] ∨ (opAt p m).code ≠ 21) then (4 : Int) else 0) = waitErr p m := rfl
  have he : (fun x : Frm => btw x.fn 0 ((p.length : Int) - 1)) = fnIn p := rfl
  rw [hw, he]
  unfold framesErr
  by_cases d1 : 6 < m.frames.length
  · rw [if_pos d1, if_pos d1]; rfl
  rw [if_neg d1, if_neg d1]
  by_cases d2 : m.frames = [] ∧ m.status ≠ 2
  · rw [if_pos d2, if_pos d2]; rfl
  rw [if_neg d2, if_neg d2]
  by_cases d3 : m.frames ≠ [] ∧ m.status = 2
  · rw [if_pos d3, if_pos d3]; rfl
  rw [if_neg d3, if_neg d3]
  by_cases d4 : m.frames.all (fnIn p) = false
  · rw [if_pos d4, if_pos d4]; rfl
  rw [if_neg d4, if_neg d4]
  by_cases d5 : m.frames ≠ [] ∧ (m.frames[0]!).fn ≠ 0
  · rw [if_pos d5, if_pos d5]; rfl
  rw [if_neg d5, if_neg d5]
theorem range_get {n i : Nat} (h : i < n) : (List.range n)[i]! = i := by
  rw [List.getElem!_eq_getElem?_getD, List.getElem?_range h]; rfl
theorem framesErr_many {p : List Fun} {m : Mach} (h : 6 < m.frames.length) : framesErr p m = 2 := by unfold framesErr; rw [if_pos h]
theorem framesErr_none {p : List Fun} {m : Mach} (h : m.frames.length = 0) : framesErr p m = if m.status = 2 then 0 else 5 := by
  have h0 := List.eq_nil_of_length_eq_zero h
  unfold framesErr
  rw [if_neg (by omega)]
  by_cases c : m.status = 2
  · rw [if_neg (fun hh => hh.2 c), if_neg (fun hh => hh.1 h0), if_pos c, h0]; rfl
  · rw [if_pos ⟨h0, c⟩, if_neg c]
theorem framesErr_done {p : List Fun} {m : Mach} (h : 0 < m.frames.length) (h6 : m.frames.length ≤ 6) (hs : m.status = 2) : framesErr p m = 1 := by
  have h0 : m.frames ≠ [] := fun c => by rw [c] at h; simp at h
  unfold framesErr
  rw [if_neg (by omega), if_neg (fun hh => h0 hh.1), if_pos ⟨h0, hs⟩]
theorem framesErr_fn {p : List Fun} {m : Mach} (h : 0 < m.frames.length) (h6 : m.frames.length ≤ 6) (hs : m.status ≠ 2) (hf : m.frames.all (fnIn p) = false) : framesErr p m = 3 := by
  have h0 : m.frames ≠ [] := fun c => by rw [c] at h; simp at h
  unfold framesErr
  rw [if_neg (by omega), if_neg (fun hh => h0 hh.1), if_neg (fun hh => hs hh.2), if_pos hf]
theorem framesErr_first {p : List Fun} {m : Mach} (h : 0 < m.frames.length) (h6 : m.frames.length ≤ 6) (hs : m.status ≠ 2) (hf : m.frames.all (fnIn p) = true) (h1 : (m.frames[0]!).fn ≠ 0) : framesErr p m = 4 := by
  have h0 : m.frames ≠ [] := fun c => by rw [c] at h; simp at h
  unfold framesErr
  rw [if_neg (by omega), if_neg (fun hh => h0 hh.1), if_neg (fun hh => hs hh.2), if_neg (by rw [hf]; decide), if_pos ⟨h0, h1⟩]
theorem framesErr_each {p : List Fun} {m : Mach} (h : 0 < m.frames.length) (h6 : m.frames.length ≤ 6) (hs : m.status ≠ 2) (hf : m.frames.all (fnIn p) = true) (h1 : (m.frames[0]!).fn = 0) : framesErr p m = firstErr (checkFrame p m) (List.range m.frames.length) := by
  have h0 : m.frames ≠ [] := fun c => by rw [c] at h; simp at h
  unfold framesErr
  rw [if_neg (by omega), if_neg (fun hh => h0 hh.1), if_neg (fun hh => hs hh.2), if_neg (by rw [hf]; decide), if_neg (fun hh => hh.2 h1)]
/-- frames that are right: there is one, or it is done -/
theorem framesErr_zero {p : List Fun} {m : Mach} (h : framesErr p m = 0) : m.frames.length ≤ 6 ∧ (m.frames.length = 0 ↔ m.status = 2) ∧ (∀ i, i < m.frames.length → 0 ≤ (m.frames[i]!).fn ∧ (m.frames[i]!).fn < p.length) ∧ ∀ i, i < m.frames.length → FrmOk p m.blocks.length m.frames[i]! (wantOf p m i) := by
  have h6 : m.frames.length ≤ 6 := by
    rcases Nat.lt_or_ge 6 m.frames.length with c | c
    · rw [framesErr_many c] at h; omega
    · exact c
  by_cases hn : m.frames.length = 0
  · rw [framesErr_none hn] at h
    have hs : m.status = 2 := by
      by_cases c : m.status = 2
      · exact c
      · rw [if_neg c] at h; omega
    exact ⟨h6, ⟨fun _ => hs, fun _ => hn⟩, fun i hi => by omega, fun i hi => by omega⟩
  have hs : m.status ≠ 2 := fun c => by rw [framesErr_done (by omega) h6 c] at h; omega
  have hf : m.frames.all (fnIn p) = true := by
    cases hf : m.frames.all (fnIn p) with
    | true => rfl
    | false => rw [framesErr_fn (by omega) h6 hs hf] at h; omega
  have h1 : (m.frames[0]!).fn = 0 := by
    by_cases c : (m.frames[0]!).fn = 0
    · exact c
    · rw [framesErr_first (by omega) h6 hs hf c] at h; omega
  rw [framesErr_each (by omega) h6 hs hf h1, firstErr_iff] at h
  have hfn := all_btw (p := p) (l := m.frames) hf
  exact ⟨h6, ⟨fun c => absurd c hn, fun c => absurd c hs⟩, hfn, fun i hi => (checkFrame_zero (hfn i hi)).1 (h i (List.mem_range.2 hi))⟩
/-- where a machine that waits is -/
theorem wait_at {p : List Fun} {m : Mach} (hfit : checkFits p = 0) (h : framesErr p m = 0) (hs : m.status ≠ 2) : ∃ j k q : Nat, j + 1 = m.frames.length ∧ (m.frames[j]!).fn = (k : Int) ∧ k < p.length ∧ (m.frames[j]!).pc = (q : Int) ∧ q < (p[k]!).code.length ∧ opAt p m = (p[k]!).code[q]! := by
  obtain ⟨h6, hiff, hfn, hok⟩ := framesErr_zero h
  have hn : m.frames.length ≠ 0 := fun c => hs (hiff.1 c)
  obtain ⟨j, hj⟩ : ∃ j, j + 1 = m.frames.length := ⟨m.frames.length - 1, by omega⟩
  have hf := hfn j (by omega)
  have hx := hok j (by omega)
  rw [wantOf_top (by omega)] at hx
  obtain ⟨t, ht, _⟩ := hx.want
  have hp := entry_small hfit hf ht
  refine ⟨j, (m.frames[j]!).fn.toNat, (m.frames[j]!).pc.toNat, hj, by omega, by omega, by omega, by omega, ?_⟩
  have hl : m.frames.getLast! = m.frames[j]! := by
    rcases ends_snoc m.frames with h0 | ⟨l, x, hl⟩
    · rw [h0] at hn; simp at hn
    · have : j = l.length := by rw [hl] at hj; simpa using hj
      rw [hl, top_facts.1, this, snoc_last]
  unfold opAt; rw [hl]
theorem waitErr_at {p : List Fun} {m : Mach} (hs : m.status = 1) : waitErr p m = if m.inp ≠ [] ∨ (opAt p m).code ≠ 21 then 4 else 0 := by
  unfold waitErr; simp [hs]
end Mz

/- The law's own program that holds blocks, as plain data. -/
namespace Mz
def holderP : List Fun := [⟨0, [2], 0, [⟨1, 2⟩, ⟨14, 0⟩, ⟨2, 0⟩, ⟨1, 1⟩, ⟨14, 0⟩, ⟨9, 0⟩, ⟨8, 0⟩, ⟨1, 0⟩, ⟨15, 0⟩, ⟨20, 0⟩, ⟨13, 0⟩]⟩]
theorem holder_fits : checkFits holderP = 0 := by decide +kernel
theorem holder_start : checkMach holderP (startOf holderP) = 0 := by decide +kernel
theorem holder_right : checkRight holderP (startOf holderP) = 0 := by decide +kernel
theorem holder_image : (imageOf (startOf holderP)).length = 15 := by decide +kernel
theorem holder_back : machOf (imageOf (startOf holderP)) = some (startOf holderP) := by decide +kernel
theorem holder_z : machOf (imageOf (startOf holderP) ++ [122]) = none := by decide +kernel
theorem freshOf_len (f : Fun) : (freshOf f).length = f.locals.length := by unfold freshOf; simp
end Mz

/- What a reader that goes on behind a failure has got; no program is in sight here. -/
namespace Mz

/-- what was read from place a on, and where it is then; k: nothing has failed yet -/
def Got {α : Type} (f : Rd α) (s : List UInt8) (a : Nat) (k : Bool) (x : α) (a' : Nat) (k' : Bool) : Prop :=
  if k' = true then k = true ∧ f (s.drop a) = some (x, s.drop a') else k = false ∨ f (s.drop a) = none
/-- so far a list was read, of n things -/
def GotL {α : Type} (f : Rd α) (s : List UInt8) (a : Nat) (k : Bool) (n : Int) (l : List α) (a' : Nat) (k' : Bool) : Prop :=
  if k' = true then k = true ∧ ∃ r, rdOne (s.drop a) = some (n, r) ∧ rdMany f l.length r = some (l, s.drop a') else k = false ∨ rdSome f (s.drop a) = none

theorem rdMany_add {α : Type} (f : Rd α) : ∀ (k : Nat) (s : List UInt8), rdMany f (k + 1) s = match rdMany f k s with
    | none => none
    | some (l, r) => match f r with
      | none => none
      | some (x, r) => some (l ++ [x], r)
  | 0, s => by simp only [rdMany]; cases f s <;> rfl
  | k + 1, s => by
    rw [rdMany]
    conv => rhs; rw [rdMany]
    cases hf : f s with
    | none => rfl
    | some p =>
      obtain ⟨x, s1⟩ := p
      simp only
      rw [rdMany_add f k s1]
      cases rdMany f k s1 with
      | none => rfl
      | some q =>
        obtain ⟨l, r⟩ := q
        simp only
        cases f r with
        | none => rfl
        | some y => rfl
theorem rdMany_dead {α : Type} (f : Rd α) (k : Nat) (s : List UInt8) (h : rdMany f k s = none) : ∀ d, rdMany f (k + d) s = none
  | 0 => h
  | d + 1 => by rw [← Nat.add_assoc, rdMany_add, rdMany_dead f k s h d]

section
variable {α : Type} {f : Rd α} {s : List UInt8}
theorem got_ok {a : Nat} {k : Bool} {x : α} {a' : Nat} (h : Got f s a k x a' true) : k = true ∧ f (s.drop a) = some (x, s.drop a') := by
  unfold Got at h; rwa [if_pos rfl] at h
theorem got_no {a : Nat} {k : Bool} {x : α} {a' : Nat} (h : Got f s a k x a' false) : k = false ∨ f (s.drop a) = none := by
  unfold Got at h; rwa [if_neg (by decide)] at h
theorem got_none_of {a : Nat} {x : α} {a' : Nat} (h : Got f s a true x a' false) : f (s.drop a) = none := (got_no h).resolve_left (by decide)
theorem got_mk {a : Nat} {x : α} {a' : Nat} (h : f (s.drop a) = some (x, s.drop a')) : Got f s a true x a' true := by unfold Got; rw [if_pos rfl]; exact ⟨rfl, h⟩
theorem got_none {a : Nat} {k : Bool} {x : α} {a' : Nat} (h : k = false ∨ f (s.drop a) = none) : Got f s a k x a' false := by unfold Got; rw [if_neg (by decide)]; exact h
theorem gotL_ok {a : Nat} {k : Bool} {n : Int} {l : List α} {a' : Nat} (h : GotL f s a k n l a' true) : k = true ∧ ∃ r, rdOne (s.drop a) = some (n, r) ∧ rdMany f l.length r = some (l, s.drop a') := by
  unfold GotL at h; rwa [if_pos rfl] at h
theorem gotL_no {a : Nat} {k : Bool} {n : Int} {l : List α} {a' : Nat} (h : GotL f s a k n l a' false) : k = false ∨ rdSome f (s.drop a) = none := by
  unfold GotL at h; rwa [if_neg (by decide)] at h
theorem gotL_none {a : Nat} {k : Bool} {n : Int} {l : List α} {a' : Nat} (h : k = false ∨ rdSome f (s.drop a) = none) : GotL f s a k n l a' false := by unfold GotL; rw [if_neg (by decide)]; exact h
theorem gotL_mk {a : Nat} {n : Int} {l : List α} {a' : Nat} {r : List UInt8} (h1 : rdOne (s.drop a) = some (n, r)) (h2 : rdMany f l.length r = some (l, s.drop a')) : GotL f s a true n l a' true := by
  unfold GotL; rw [if_pos rfl]; exact ⟨rfl, r, h1, h2⟩

theorem gotL_start {a : Nat} {k : Bool} {n : Int} {a' : Nat} {k' : Bool} (h : Got rdOne s a k n a' k') : GotL f s a k n [] a' k' := by
  cases k' with
  | true => obtain ⟨rfl, h'⟩ := got_ok h; exact gotL_mk h' rfl
  | false =>
    refine gotL_none ?_
    rcases got_no h with h | h
    · exact .inl h
    · right; unfold rdSome; rw [h]
theorem gotL_step {a : Nat} {k : Bool} {n : Int} {l : List α} {a1 : Nat} {x : α} {a' : Nat} {k' : Bool} (h : GotL f s a k n l a1 true) (hn : (l.length : Int) < n) (hx : Got f s a1 true x a' k') : GotL f s a k n (l ++ [x]) a' k' := by
  obtain ⟨rfl, r, h1, h2⟩ := gotL_ok h
  cases k' with
  | true =>
    obtain ⟨_, h3⟩ := got_ok hx
    refine gotL_mk h1 ?_
    rw [List.length_append, List.length_singleton, rdMany_add, h2]; simp only; rw [h3]
  | false =>
    refine gotL_none (.inr ?_)
    rcases got_no hx with h3 | h3
    · cases h3
    · unfold rdSome; rw [h1]; simp only
      have e1 : rdMany f (l.length + 1) r = none := by rw [rdMany_add, h2]; simp only; rw [h3]
      have e2 := rdMany_dead f _ r e1 (n.toNat - (l.length + 1))
      rwa [show l.length + 1 + (n.toNat - (l.length + 1)) = n.toNat by omega] at e2
theorem gotL_end {a : Nat} {k : Bool} {n : Int} {l : List α} {a' : Nat} {k' : Bool} (h : GotL f s a k n l a' k') (hn : (l.length : Int) = n ∨ k' = false) : Got (rdSome f) s a k l a' k' := by
  cases k' with
  | true =>
    obtain ⟨rfl, r, h1, h2⟩ := gotL_ok h
    rcases hn with hn | hn
    · refine got_mk ?_
      unfold rdSome; rw [h1]; simp only; rw [show n.toNat = l.length by omega]; exact h2
    · cases hn
  | false => exact got_none (gotL_no h)
end

theorem got_val {s : List UInt8} {a : Nat} {n : Int} {a1 : Nat} {k1 : Bool} {y : Int} {a2 : Nat} {k2 : Bool} (h1 : Got rdOne s a true n a1 k1) (h2 : Got rdFour s a1 (k1 && decide (n < 2)) y a2 k2) : Got rdVal s a true ⟨n == 1, y⟩ a2 k2 := by
  cases k2 with
  | true =>
    obtain ⟨e, h3⟩ := got_ok h2
    simp only [Bool.and_eq_true, decide_eq_true_eq] at e
    obtain ⟨rfl, hn⟩ := e
    obtain ⟨_, h4⟩ := got_ok h1
    refine got_mk ?_
    unfold rdVal; rw [h4]; simp only; rw [if_neg (by omega), h3]
  | false =>
    refine got_none (.inr ?_)
    cases k1 with
    | false =>
      rcases got_no h1 with h | h
      · cases h
      · unfold rdVal; rw [h]
    | true =>
      obtain ⟨_, h4⟩ := got_ok h1
      unfold rdVal; rw [h4]; simp only
      rcases got_no h2 with h | h
      · simp only [Bool.true_and, decide_eq_false_iff_not] at h
        rw [if_pos (by omega)]
      · rw [h]; simp only [ite_self]
theorem got_frm {s : List UInt8} {a : Nat} {fn pc : Int} {l k : List Val} {a1 a2 a3 a4 : Nat} {k1 k2 k3 k4 : Bool} (h1 : Got rdOne s a true fn a1 k1) (h2 : Got rdOne s a1 k1 pc a2 k2) (h3 : Got (rdSome rdVal) s a2 k2 l a3 k3) (h4 : Got (rdSome rdVal) s a3 k3 k a4 k4) :
    Got rdFrm s a true ⟨fn, pc, l, k⟩ a4 k4 := by
  cases k4 with
  | true =>
    obtain ⟨rfl, e4⟩ := got_ok h4
    obtain ⟨rfl, e3⟩ := got_ok h3
    obtain ⟨rfl, e2⟩ := got_ok h2
    obtain ⟨_, e1⟩ := got_ok h1
    refine got_mk ?_
    unfold rdFrm; rw [e1]; simp only; rw [e2]; simp only; rw [e3]; simp only; rw [e4]
  | false =>
    refine got_none (.inr ?_)
    unfold rdFrm
    cases k1 with
    | false => rw [got_none_of h1]
    | true =>
      rw [(got_ok h1).2]; simp only
      cases k2 with
      | false => rw [got_none_of h2]
      | true =>
        rw [(got_ok h2).2]; simp only
        cases k3 with
        | false => rw [got_none_of h3]
        | true =>
          rw [(got_ok h3).2]; simp only
          rw [got_none_of h4]
theorem got_mach {s : List UInt8} {st tr : Int} {i o : List Int} {b : List (List Int)} {f : List Frm} {a1 a2 a3 a4 a5 a6 : Nat} {k1 k2 k3 k4 k5 k6 : Bool} (h1 : Got rdOne s 0 true st a1 k1) (h2 : Got rdOne s a1 k1 tr a2 k2) (h3 : Got (rdSome rdFour) s a2 k2 i a3 k3)
    (h4 : Got (rdSome rdFour) s a3 k3 o a4 k4) (h5 : Got (rdSome (rdSome rdFour)) s a4 k4 b a5 k5) (h6 : Got (rdSome rdFrm) s a5 k5 f a6 k6) : Got rdMach s 0 true ⟨f, b, i, o, st, tr⟩ a6 k6 := by
  cases k6 with
  | true =>
    obtain ⟨rfl, e6⟩ := got_ok h6
    obtain ⟨rfl, e5⟩ := got_ok h5
    obtain ⟨rfl, e4⟩ := got_ok h4
    obtain ⟨rfl, e3⟩ := got_ok h3
    obtain ⟨rfl, e2⟩ := got_ok h2
    obtain ⟨_, e1⟩ := got_ok h1
    refine got_mk ?_
    unfold rdMach; rw [e1]; simp only; rw [e2]; simp only; rw [e3]; simp only; rw [e4]; simp only; rw [e5]; simp only; rw [e6]
  | false =>
    refine got_none (.inr ?_)
    unfold rdMach
    cases k1 with
    | false => rw [got_none_of h1]
    | true =>
      rw [(got_ok h1).2]; simp only
      cases k2 with
      | false => rw [got_none_of h2]
      | true =>
        rw [(got_ok h2).2]; simp only
        cases k3 with
        | false => rw [got_none_of h3]
        | true =>
          rw [(got_ok h3).2]; simp only
          cases k4 with
          | false => rw [got_none_of h4]
          | true =>
            rw [(got_ok h4).2]; simp only
            cases k5 with
            | false => rw [got_none_of h5]
            | true =>
              rw [(got_ok h5).2]; simp only
              rw [got_none_of h6]
theorem got_all {s : List UInt8} {m : Mach} {a : Nat} (h : Got rdMach s 0 true m a true) : machOf s = if a < s.length then none else some m := by
  obtain ⟨_, e⟩ := got_ok h
  rw [List.drop_zero] at e
  unfold machOf; rw [e]
  by_cases c : a < s.length
  · rw [if_pos c]
    cases hd : s.drop a with
    | nil => have := List.drop_eq_nil_iff.1 hd; omega
    | cons _ _ => rfl
  · rw [if_neg c, List.drop_eq_nil_iff.2 (by omega)]
theorem got_lost {s : List UInt8} {m : Mach} {a : Nat} (h : Got rdMach s 0 true m a false) : machOf s = none := by
  rcases got_no h with h | h
  · cases h
  · rw [List.drop_zero] at h; unfold machOf; rw [h]
/-- one byte -/
theorem got_one {s : List UInt8} {a : Nat} {k : Bool} (h : a < s.length) : Got rdOne s a k ((s[a]).toNat : Int) (a + 1) k := by
  cases k with
  | true => refine got_mk ?_; rw [List.drop_eq_getElem_cons h]; rfl
  | false => exact got_none (.inl rfl)
theorem got_one_none {s : List UInt8} {a : Nat} {k : Bool} (h : ¬ a < s.length) (n : Int) (a' : Nat) : Got rdOne s a k n a' false := by
  refine got_none (.inr ?_); rw [List.drop_eq_nil_iff.2 (by omega)]; rfl
theorem got_four {s : List UInt8} {a : Nat} {k : Bool} (h : a + 4 ≤ s.length) : Got rdFour s a k (numberOf (s[a]) (s[a + 1]) (s[a + 2]) (s[a + 3])) (a + 4) k := by
  cases k with
  | true =>
    refine got_mk ?_
    rw [List.drop_eq_getElem_cons (show a < s.length by omega), List.drop_eq_getElem_cons (show a + 1 < s.length by omega), List.drop_eq_getElem_cons (show a + 1 + 1 < s.length by omega), List.drop_eq_getElem_cons (show a + 1 + 1 + 1 < s.length by omega)]
    rfl
  | false => exact got_none (.inl rfl)
theorem got_four_none {s : List UInt8} {a : Nat} {k : Bool} (h : s.length < a + 4) (n : Int) (a' : Nat) : Got rdFour s a k n a' false := by
  refine got_none (.inr ?_)
  have hl : (s.drop a).length < 4 := by simp; omega
  match hs : s.drop a, hl with
  | [], _ => rfl
  | [_], _ => rfl
  | [_, _], _ => rfl
  | [_, _, _], _ => rfl
end Mz
