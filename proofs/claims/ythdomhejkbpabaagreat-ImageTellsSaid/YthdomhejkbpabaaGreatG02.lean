/- Lemmas: Machine, Fits, Behind, Right, Keep. -/
import Derived.Test.YthdomhejkbpabaaGreatG01
set_option linter.unusedVariables false
set_option linter.unusedSimpArgs false
/- Machines, as plain functions on lists and integers: which are right, and what a step of one is; no program is in sight here. -/
namespace Mz

def wrap (n : Int) : Int := (n + 2147483648) % 4294967296 - 2147483648

def valOk (nb : Nat) (v : Val) : Bool := if v.ref then btw v.n 0 nb else isInt v.n
/-- is a value as a type says? -/
def asT (v : Val) (t : Int) : Bool := if t = 1 then !v.ref else v.ref && (t == 2 || v.n == 0)
def asAll : List Val → List Int → Bool
  | [], [] => true
  | v :: l, t :: k => asT v t && asAll l k
  | _, _ => false

def entryAt (p : List Fun) (fn pc : Int) : Option (List Int) :=
  match entriesSt p (p[fn.toNat]!) with
  | some st => if 0 ≤ pc then (st[pc.toNat]?).join else none
  | none => none

/-- types that the stack of frame i must be as -/
def wantOf (p : List Fun) (m : Mach) (i : Nat) : Option (List Int) :=
  if i + 1 < m.frames.length then
    if btw (m.frames[i]!).pc 1 (p[(m.frames[i]!).fn.toNat]!).code.length = false ∨ (p[(m.frames[i]!).fn.toNat]!).code[((m.frames[i]!).pc - 1).toNat]! ≠ ⟨12, (m.frames[i + 1]!).fn⟩ then none
    else if (entryAt p (m.frames[i]!).fn ((m.frames[i]!).pc - 1)).isNone then none
    else some (if 0 < (p[(m.frames[i + 1]!).fn.toNat]!).result then ((entryAt p (m.frames[i]!).fn (m.frames[i]!).pc).getD []).dropLast else (entryAt p (m.frames[i]!).fn (m.frames[i]!).pc).getD [])
  else entryAt p (m.frames[i]!).fn (m.frames[i]!).pc

def checkStack (w : Option (List Int)) (s : List Val) : Int :=
  match w with
  | none => 5
  | some t => if t.length ≠ s.length then 4 else if asAll s t = false then 4 else 0

def checkFrame (p : List Fun) (m : Mach) (i : Nat) : Int :=
  if (m.frames[i]!).locals.length ≠ (p[(m.frames[i]!).fn.toNat]!).locals.length then 1
  else if ((m.frames[i]!).locals ++ (m.frames[i]!).stack).all (valOk m.blocks.length) = false then 3
  else if asAll (m.frames[i]!).locals (p[(m.frames[i]!).fn.toNat]!).locals = false then 6
  else checkStack (wantOf p m i) (m.frames[i]!).stack

def cellsOf : List (List Int) → Nat
  | [] => 0
  | b :: l => b.length + cellsOf l

def checkBlocks (l : List (List Int)) : Int :=
  if 8 < l.length ∨ 40 < cellsOf l then 2 else if l.all (fun b => b.all isInt) = false then 3 else 0

/-- the op that a machine is at -/
def opAt (p : List Fun) (m : Mach) : Op := (p[(m.frames.getLast!).fn.toNat]!).code[(m.frames.getLast!).pc.toNat]!

def checkRight (p : List Fun) (m : Mach) : Int :=
  if btw m.status 0 3 = false then 6
  else if (m.status = 3 ∧ btw m.trap 1 5 = false) ∨ (m.status ≠ 3 ∧ m.trap ≠ 0) then 1
  else if checkBlocks m.blocks ≠ 0 then checkBlocks m.blocks
  else if 10 < m.inp.length ∨ 10 < m.out.length then 2
  else if (m.inp ++ m.out).all isInt = false then 3
  else if 6 < m.frames.length then 2
  else if m.frames = [] ∧ m.status ≠ 2 then 5
  else if m.frames ≠ [] ∧ m.status = 2 then 1
  else if m.frames.all (fun x => btw x.fn 0 ((p.length : Int) - 1)) = false then 3
  else if m.frames ≠ [] ∧ (m.frames[0]!).fn ≠ 0 then 4
  else if firstErr (checkFrame p m) (List.range m.frames.length) ≠ 0 then firstErr (checkFrame p m) (List.range m.frames.length)
  else if m.status = 1 ∧ (m.inp ≠ [] ∨ (opAt p m).code ≠ 21) then 4
  else 0

def checkMach (p : List Fun) (m : Mach) : Int := if checkFits p ≠ 0 then checkFits p else checkRight p m

def freshOf (f : Fun) : List Val := f.locals.map fun t => ⟨t == 2, 0⟩

def startOf (p : List Fun) : Mach := ⟨[⟨0, 0, freshOf (p[0]!), []⟩], [], [], [], 0, 0⟩

def setTop (m : Mach) (x : Frm) : Mach := { m with frames := m.frames.dropLast ++ [x] }
def trapped (m : Mach) (why : Int) : Mach := { m with status := 3, trap := why }
def num (n : Int) : Val := ⟨false, wrap n⟩

/-- what an op does, where x is the innermost frame -/
def doOp (p : List Fun) (m : Mach) (x : Frm) (o : Op) : Mach :=
  let s := x.stack
  let n := s.length
  let go (k : Nat) (l : List Val) : Mach := setTop m { x with stack := s.take (n - k) ++ l, pc := x.pc + 1 }
  let a := s[n - 1]!
  let b := s[n - 2]!
  if o.code = 1 then go 0 [num o.a]
  else if o.code = 2 then go 1 []
  else if o.code = 3 then go 1 [a, a]
  else if o.code = 4 then go 2 [a, b]
  else if o.code = 5 then go 2 [num (b.n + a.n)]
  else if o.code = 6 then go 2 [num (b.n - a.n)]
  else if o.code = 7 then go 2 [num (b.n * a.n)]
  else if o.code = 8 then go 0 [x.locals[o.a.toNat]!]
  else if o.code = 9 then setTop m { x with stack := s.take (n - 1), locals := x.locals.set o.a.toNat a, pc := x.pc + 1 }
  else if o.code = 10 then setTop m { x with pc := o.a }
  else if o.code = 11 then setTop m { x with stack := s.take (n - 1), pc := if a.n = 0 then o.a else x.pc + 1 }
  else if o.code = 12 then
    if m.frames.length = 6 then trapped m 4
    else
      let g := p[o.a.toNat]!
      { m with frames := m.frames.dropLast ++ [{ x with stack := s.take (n - g.params.toNat), pc := x.pc + 1 }, ⟨o.a, 0, s.drop (n - g.params.toNat) ++ (freshOf g).drop g.params.toNat, []⟩] }
  else if o.code = 13 then
    if m.frames.length = 1 then { m with frames := [], status := 2 }
    else if 0 < (p[x.fn.toNat]!).result then
      { m with frames := m.frames.dropLast.dropLast ++ [{ m.frames.dropLast.getLast! with stack := m.frames.dropLast.getLast!.stack ++ [a] }] }
    else { m with frames := m.frames.dropLast }
  else if o.code = 14 then
    if a.n < 0 ∨ m.blocks.length = 8 ∨ 40 < (cellsOf m.blocks : Int) + a.n then trapped m 3
    else { go 1 [⟨true, m.blocks.length + 1⟩] with blocks := m.blocks ++ [List.replicate a.n.toNat 0] }
  else if o.code = 15 then
    if b.n = 0 then trapped m 1
    else if btw a.n 0 ((m.blocks[(b.n - 1).toNat]!).length - 1) = false then trapped m 2
    else go 2 [num ((m.blocks[(b.n - 1).toNat]!)[a.n.toNat]!)]
  else if o.code = 16 then
    let c := s[n - 3]!
    if c.n = 0 then trapped m 1
    else if btw b.n 0 ((m.blocks[(c.n - 1).toNat]!).length - 1) = false then trapped m 2
    else { go 3 [] with blocks := m.blocks.set (c.n - 1).toNat ((m.blocks[(c.n - 1).toNat]!).set b.n.toNat a.n) }
  else if o.code = 17 then
    if a.n = 0 then trapped m 1 else go 1 [num (m.blocks[(a.n - 1).toNat]!).length]
  else if o.code = 18 then go 0 [⟨true, 0⟩]
  else if o.code = 19 then go 1 [num (if a.n = 0 then 1 else 0)]
  else if o.code = 20 then
    if m.out.length = 10 then trapped m 5 else { go 1 [] with out := m.out ++ [a.n] }
  else if o.code = 21 then
    if m.inp = [] then { m with status := 1 }
    else { go 0 [num (m.inp[0]!)] with inp := m.inp.tail, status := 0 }
  else go 0 []

def stepOf (p : List Fun) (m : Mach) : Mach :=
  if 1 < m.status then m else doOp p m m.frames.getLast! (opAt p m)

def costOf (code : Int) : Int := if code = 14 then 3 else if code = 12 then 2 else 1

/-- a run, at most so many steps -/
def runSteps (p : List Fun) : Nat → Mach → Int → Mach × Int
  | 0, m, fuel => (m, fuel)
  | k + 1, m, fuel =>
    if 1 < m.status then (m, fuel)
    else if fuel < costOf (opAt p m).code then (m, fuel)
    else if (stepOf p m).status ≠ 0 then (stepOf p m, fuel - costOf (opAt p m).code)
    else runSteps p k (stepOf p m) (fuel - costOf (opAt p m).code)

def runOf (p : List Fun) (m : Mach) (fuel : Int) : Mach × Int := runSteps p (fuel.toNat + 1) m fuel

end Mz

/- What it means that a program is right, in plain words on lists; no program is in sight here. -/
namespace Mz

theorem btw_iff {n lo hi : Int} : btw n lo hi = true ↔ lo ≤ n ∧ n ≤ hi := by simp [btw]
theorem firstErr_zero {α : Type} {f : α → Int} {l : List α} (h : firstErr f l = 0) : ∀ x ∈ l, f x = 0 := by
  induction l with
  | nil => intro x hx; simp at hx
  | cons a l ih =>
    intro x hx
    simp only [firstErr] at h
    by_cases c : f a = 0
    · rw [if_pos c] at h
      rcases List.mem_cons.1 hx with rfl | hx
      · exact c
      · exact ih h x hx
    · rw [if_neg c] at h; exact absurd h c
theorem checkOp_zero {o : Op} (h : checkOp o = 0) : (1 ≤ o.code ∧ o.code ≤ 21) ∧ (hasA o.code = false → o.a = 0) ∧ (-2147483648 ≤ o.a ∧ o.a ≤ 2147483647) := by
  unfold checkOp at h
  by_cases c1 : isOp o.code = false
  · rw [if_pos c1] at h; omega
  rw [if_neg c1] at h
  by_cases c2 : hasA o.code = false ∧ o.a ≠ 0
  · rw [if_pos c2] at h; omega
  rw [if_neg c2] at h
  by_cases c3 : isInt o.a = false
  · rw [if_pos c3] at h; omega
  have c1' : isOp o.code = true := by simpa using c1
  have c3' : isInt o.a = true := by simpa using c3
  refine ⟨btw_iff.1 c1', fun hh => ?_, btw_iff.1 c3'⟩
  by_cases c : o.a = 0
  · exact c
  · exact absurd ⟨hh, c⟩ c2
theorem checkCode_zero {l : List Op} (h : checkCode l = 0) : l.length ≤ 40 ∧ ∀ o ∈ l, checkOp o = 0 := by
  unfold checkCode at h
  by_cases c : 40 < l.length
  · rw [if_pos c] at h; omega
  · rw [if_neg c] at h; exact ⟨by omega, firstErr_zero h⟩
structure FunOk (p : List Fun) (f : Fun) : Prop where
  nlocals : f.locals.length ≤ 6
  params : 0 ≤ f.params ∧ f.params ≤ f.locals.length
  result : 0 ≤ f.result ∧ f.result ≤ 2
  locals : ∀ t ∈ f.locals, 1 ≤ t ∧ t ≤ 2
  code : f.code ≠ []
  ncode : f.code.length ≤ 40
  ops : ∀ o ∈ f.code, checkOp o = 0
  fits : ∀ o ∈ f.code, opFits p f o = true
theorem checkFun_zero {p : List Fun} {f : Fun} (h : checkFun p f = 0) : FunOk p f := by
  unfold checkFun at h
  by_cases c1 : 6 < f.locals.length
  · rw [if_pos c1] at h; omega
  rw [if_neg c1] at h
  by_cases c2 : btw f.params 0 f.locals.length = false
  · rw [if_pos c2] at h; omega
  rw [if_neg c2] at h
  by_cases c3 : btw f.result 0 2 = false ∨ f.locals.all (fun t => btw t 1 2) = false
  · rw [if_pos c3] at h; omega
  rw [if_neg c3] at h
  by_cases c4 : f.code = []
  · rw [if_pos c4] at h; omega
  rw [if_neg c4] at h
  by_cases c5 : checkCode f.code ≠ 0
  · rw [if_pos c5] at h; exact absurd h c5
  rw [if_neg c5] at h
  by_cases c6 : f.code.all (opFits p f) = false
  · rw [if_pos c6] at h; omega
  have c2' : btw f.params 0 f.locals.length = true := by simpa using c2
  have c3a : btw f.result 0 2 = true := by
    cases hb : btw f.result 0 2 with
    | false => exact absurd (.inl hb) c3
    | true => rfl
  have c3b : f.locals.all (fun t => btw t 1 2) = true := by
    cases hb : f.locals.all (fun t => btw t 1 2) with
    | false => exact absurd (.inr hb) c3
    | true => rfl
  have c5' := checkCode_zero (Classical.not_not.1 c5)
  have c6' : f.code.all (opFits p f) = true := by simpa using c6
  rw [List.all_eq_true] at c3b c6'
  exact ⟨by omega, btw_iff.1 c2', btw_iff.1 c3a, fun t ht => btw_iff.1 (c3b t ht), c4, c5'.1, c5'.2, c6'⟩
theorem opFits_ok {p : List Fun} {f : Fun} {o : Op} (hc : checkOp o = 0) (h : opFits p f o = true) : OpOk p f o := by
  have := checkOp_zero hc
  refine ⟨this.1, fun c => ?_, fun c => ?_, fun c => ?_⟩
  · unfold opFits at h; rw [if_pos c] at h; have := btw_iff.1 h; omega
  · unfold opFits at h; rw [if_neg (by omega), if_pos c] at h; have := btw_iff.1 h; omega
  · unfold opFits at h; rw [if_neg (by omega), if_neg (by omega), if_pos c] at h; have := btw_iff.1 h; omega
structure ProgOk (p : List Fun) : Prop where
  ne : p ≠ []
  len : p.length ≤ 5
  funs : ∀ f ∈ p, FunOk p f
  main : (p.head!).params = 0 ∧ (p.head!).result = 0
theorem checkProg_zero {p : List Fun} (h : checkProg p = 0) : ProgOk p := by
  unfold checkProg at h
  by_cases c1 : p = []
  · rw [if_pos c1] at h; omega
  rw [if_neg c1] at h
  by_cases c2 : 5 < p.length
  · rw [if_pos c2] at h; omega
  rw [if_neg c2] at h
  by_cases c3 : firstErr (checkFun p) p ≠ 0
  · rw [if_pos c3] at h; exact absurd h c3
  rw [if_neg c3] at h
  by_cases c4 : 0 < p.head!.params ∨ 0 < p.head!.result
  · rw [if_pos c4] at h; omega
  have hf := firstErr_zero (Classical.not_not.1 c3)
  have hm : p.head! ∈ p := by
    cases p with
    | nil => exact absurd rfl c1
    | cons a l => exact List.mem_cons_self ..
  have h0 := checkFun_zero (hf _ hm)
  have := h0.params
  have := h0.result
  exact ⟨c1, by omega, fun f hf' => checkFun_zero (hf f hf'), by omega, by omega⟩
theorem ProgOk.ty {p : List Fun} (h : ProgOk p) : ProgTy p :=
  ⟨fun f hf => ⟨(h.funs f hf).locals, (h.funs f hf).result⟩, fun f hf => (h.funs f hf).params,
    fun f hf => ⟨(h.funs f hf).code, (h.funs f hf).ncode, (h.funs f hf).nlocals, fun o ho => opFits_ok ((h.funs f hf).ops o ho) ((h.funs f hf).fits o ho)⟩⟩
theorem ProgOk.ready {p : List Fun} (h : ProgOk p) {f : Fun} (hf : f ∈ p) : Ready p f :=
  ⟨h.ty, h.ty.funs f hf, (h.funs f hf).code, (h.ty.code f hf).2.2.2⟩
theorem checkFits_zero {p : List Fun} (h : checkFits p = 0) : checkProg p = 0 ∧ ∀ f ∈ p, (entriesSt p f).isSome = true := by
  unfold checkFits at h
  by_cases c1 : checkProg p ≠ 0
  · rw [if_pos c1] at h; exact absurd h c1
  rw [if_neg c1] at h
  by_cases c2 : p.all (fun f => (entriesSt p f).isSome) = true
  · rw [List.all_eq_true] at c2; exact ⟨Classical.not_not.1 c1, c2⟩
  · rw [if_neg c2] at h; omega
end Mz

/- Behind a call of a function that fits there is an entry; stacks of entries are short. -/
namespace Mz

theorem entries_sol {p : List Fun} {f : Fun} {st : St} (hr : Ready p f) (h : entriesSt p f = some st) : Sol p f st := by
  have := entriesSt_least hr
  rw [h] at this
  exact this.1
theorem behind_call {p : List Fun} {f : Fun} {st : St} {pc : Nat} {s : List Int} (hr : Ready p f) (h : entriesSt p f = some st) (hs : st[pc]? = some (some s)) (hc : (f.code[pc]!).code = 12) :
    ∃ t, st[pc + 1]? = some (some t) ∧ (0 < (p[(f.code[pc]!).a.toNat]!).result → t ≠ []) := by
  have hsol := entries_sol hr h
  obtain ⟨out, hout, hall⟩ := hsol.step pc s hs
  have hn : nexts f.code[pc]! pc = [pc + 1] := by
    unfold nexts; rw [if_neg (by omega), if_neg (by omega), if_neg (by omega)]
  obtain ⟨t, ht, hst⟩ := hall (pc + 1) (by rw [hn]; simp)
  refine ⟨t, ht, fun hres he => ?_⟩
  subst he
  have hl := standsAll_length hst
  simp at hl
  subst hl
  unfold tryOp takeLeave at hout
  rw [if_neg (by omega), if_neg (by omega), if_neg (by omega), if_pos hc, if_pos hres] at hout
  simp only at hout
  split at hout
  · cases hout
  split at hout
  · cases hout
  split at hout
  · cases hout
  · simp at hout
theorem entry_lens {p : List Fun} {f : Fun} {st : St} (hr : Ready p f) (h : entriesSt p f = some st) (hn : f.code.length ≤ 40) : st.length ≤ 40 := by
  rw [(entries_sol hr h).len]; exact hn
end Mz

/- What it means that a machine is right, in plain words on lists; no program is in sight here. -/
namespace Mz

/-- types that the stack of a frame must be as that waits for function f -/
def wantMid (p : List Fun) (x : Frm) (f : Int) : Option (List Int) :=
  if btw x.pc 1 (p[x.fn.toNat]!).code.length = false ∨ (p[x.fn.toNat]!).code[(x.pc - 1).toNat]! ≠ ⟨12, f⟩ then none
  else if (entryAt p x.fn (x.pc - 1)).isNone then none
  else some (if 0 < (p[f.toNat]!).result then ((entryAt p x.fn x.pc).getD []).dropLast else (entryAt p x.fn x.pc).getD [])

structure FrmOk (p : List Fun) (nb : Nat) (x : Frm) (w : Option (List Int)) : Prop where
  fn : 0 ≤ x.fn ∧ x.fn < p.length
  loc : asAll x.locals (p[x.fn.toNat]!).locals = true
  lvals : ∀ v ∈ x.locals, valOk nb v = true
  svals : ∀ v ∈ x.stack, valOk nb v = true
  want : ∃ t, w = some t ∧ asAll x.stack t = true

/-- frames that wait, each for the one ahead, the last one for function f -/
def Waits (p : List Fun) (nb : Nat) : List Frm → Int → Prop
  | [], _ => True
  | [x], f => FrmOk p nb x (wantMid p x f)
  | x :: y :: l, f => FrmOk p nb x (wantMid p x y.fn) ∧ Waits p nb (y :: l) f

theorem waits_snoc {p : List Fun} {nb : Nat} {x : Frm} {f : Int} : ∀ {l : List Frm}, Waits p nb (l ++ [x]) f ↔ Waits p nb l x.fn ∧ FrmOk p nb x (wantMid p x f)
  | [] => by simp [Waits]
  | [a] => by simp [Waits]
  | a :: b :: l => by
    have := waits_snoc (p := p) (nb := nb) (x := x) (f := f) (l := b :: l)
    simp only [List.cons_append] at this ⊢
    simp only [Waits, this]; constructor
    · rintro ⟨h1, h2, h3⟩; exact ⟨⟨h1, h2⟩, h3⟩
    · rintro ⟨⟨h1, h2⟩, h3⟩; exact ⟨h1, h2, h3⟩

structure RightS (p : List Fun) (m : Mach) : Prop where
  status : 0 ≤ m.status ∧ m.status ≤ 3
  trap1 : m.status = 3 → 1 ≤ m.trap ∧ m.trap ≤ 5
  trap0 : m.status ≠ 3 → m.trap = 0
  nblocks : m.blocks.length ≤ 8
  cells : cellsOf m.blocks ≤ 40
  bints : ∀ b ∈ m.blocks, ∀ n ∈ b, isInt n = true
  ninp : m.inp.length ≤ 10
  nout : m.out.length ≤ 10
  inps : ∀ n ∈ m.inp, isInt n = true
  outs : ∀ n ∈ m.out, isInt n = true
  nframes : m.frames.length ≤ 6
  done : m.status = 2 ↔ m.frames = []
  frames : m.frames = [] ∨ ∃ l x, m.frames = l ++ [x] ∧ Waits p m.blocks.length l x.fn ∧ FrmOk p m.blocks.length x (entryAt p x.fn x.pc) ∧ (m.frames[0]!).fn = 0
  wait : m.status = 1 → m.inp = [] ∧ (opAt p m).code = 21

theorem asAll_len : ∀ {s : List Val} {t : List Int}, asAll s t = true → s.length = t.length
  | [], [], _ => rfl
  | [], _ :: _, h => by simp [asAll] at h
  | _ :: _, [], h => by simp [asAll] at h
  | _ :: s, _ :: t, h => by simp only [asAll, Bool.and_eq_true] at h; simp [asAll_len h.2]

theorem checkStack_zero {w : Option (List Int)} {s : List Val} : checkStack w s = 0 ↔ ∃ t, w = some t ∧ asAll s t = true := by
  unfold checkStack
  cases w with
  | none => simp
  | some t =>
    simp only
    by_cases h : t.length ≠ s.length
    · rw [if_pos h]; constructor
      · intro h; omega
      · rintro ⟨t', e, h'⟩; simp only [Option.some.injEq] at e; subst e; exact absurd (asAll_len h').symm h
    · rw [if_neg h]
      by_cases h2 : asAll s t = false
      · rw [if_pos h2]; constructor
        · intro h; omega
        · rintro ⟨t', e, h'⟩; simp only [Option.some.injEq] at e; subst e; rw [h2] at h'; cases h'
      · rw [if_neg h2]; simp only [true_iff]; exact ⟨t, rfl, by simpa using h2⟩
theorem checkFrame_zero {p : List Fun} {m : Mach} {i : Nat} (hf : 0 ≤ (m.frames[i]!).fn ∧ (m.frames[i]!).fn < p.length) : checkFrame p m i = 0 ↔ FrmOk p m.blocks.length m.frames[i]! (wantOf p m i) := by
  unfold checkFrame
  by_cases h1 : (m.frames[i]!).locals.length ≠ (p[(m.frames[i]!).fn.toNat]!).locals.length
  · rw [if_pos h1]; constructor
    · intro h; omega
    · intro h; exact absurd (asAll_len h.loc) h1
  rw [if_neg h1]
  by_cases h2 : ((m.frames[i]!).locals ++ (m.frames[i]!).stack).all (valOk m.blocks.length) = false
  · rw [if_pos h2]; constructor
    · intro h; omega
    · intro h; exfalso
      have : ((m.frames[i]!).locals ++ (m.frames[i]!).stack).all (valOk m.blocks.length) = true := by
        rw [List.all_eq_true]; intro v hv
        rcases List.mem_append.1 hv with hv | hv
        · exact h.lvals v hv
        · exact h.svals v hv
      rw [h2] at this; cases this
  rw [if_neg h2]
  have h2' : ((m.frames[i]!).locals ++ (m.frames[i]!).stack).all (valOk m.blocks.length) = true := by simpa using h2
  rw [List.all_eq_true] at h2'
  by_cases h3 : asAll (m.frames[i]!).locals (p[(m.frames[i]!).fn.toNat]!).locals = false
  · rw [if_pos h3]; constructor
    · intro h; omega
    · intro h; have := h.loc; rw [h3] at this; cases this
  rw [if_neg h3, checkStack_zero]
  constructor
  · intro h; exact ⟨hf, by simpa using h3, fun v hv => h2' v (List.mem_append.2 (.inl hv)), fun v hv => h2' v (List.mem_append.2 (.inr hv)), h⟩
  · intro h; exact h.want

theorem waits_iff {p : List Fun} {nb : Nat} {f : Int} : ∀ {l : List Frm}, Waits p nb l f ↔ ∀ i, i < l.length → FrmOk p nb l[i]! (wantMid p l[i]! (if i + 1 < l.length then (l[i + 1]!).fn else f))
  | [] => by simp [Waits]
  | [x] => by
    simp only [Waits, List.length_singleton]; constructor
    · intro h i hi; obtain rfl : i = 0 := by omega
      simpa using h
    · intro h; simpa using h 0 (by omega)
  | x :: y :: l => by
    simp only [Waits, waits_iff (l := y :: l)]; constructor
    · rintro ⟨h1, h2⟩ i hi
      cases i with
      | zero => simpa using h1
      | succ i => 
        have := h2 i (by simpa using hi)
        simpa using this
    · intro h
      refine ⟨by simpa using h 0 (by simp), fun i hi => ?_⟩
      have := h (i + 1) (by simpa using hi)
      simpa using this
theorem snoc_last {α : Type} [Inhabited α] (l : List α) (x : α) : (l ++ [x])[l.length]! = x := by
  rw [List.getElem!_eq_getElem?_getD]; simp
theorem snoc_old {α : Type} [Inhabited α] {l : List α} {x : α} {i : Nat} (h : i < l.length) : (l ++ [x])[i]! = l[i]! := by
  rw [List.getElem!_eq_getElem?_getD, List.getElem!_eq_getElem?_getD, List.getElem?_append_left h]
theorem wantOf_mid {p : List Fun} {m : Mach} {i : Nat} (h : i + 1 < m.frames.length) : wantOf p m i = wantMid p m.frames[i]! (m.frames[i + 1]!).fn := by
  unfold wantOf wantMid; rw [if_pos h]
theorem wantOf_top {p : List Fun} {m : Mach} {i : Nat} (h : ¬ i + 1 < m.frames.length) : wantOf p m i = entryAt p (m.frames[i]!).fn (m.frames[i]!).pc := by
  unfold wantOf; rw [if_neg h]
theorem frames_iff {p : List Fun} {m : Mach} {l : List Frm} {x : Frm} (hm : m.frames = l ++ [x]) :
    (∀ i, i < m.frames.length → FrmOk p m.blocks.length m.frames[i]! (wantOf p m i)) ↔ Waits p m.blocks.length l x.fn ∧ FrmOk p m.blocks.length x (entryAt p x.fn x.pc) := by
  have hlen : m.frames.length = l.length + 1 := by rw [hm]; simp
  constructor
  · intro h
    refine ⟨waits_iff.2 fun i hi => ?_, ?_⟩
    · have := h i (by omega)
      rw [wantOf_mid (by omega), hm, snoc_old hi] at this
      by_cases c : i + 1 < l.length
      · rw [snoc_old c] at this; rw [if_pos c]; exact this
      · obtain e : i + 1 = l.length := by omega
        rw [e, snoc_last] at this; rw [if_neg c]; exact this
    · have := h l.length (by omega)
      rw [wantOf_top (by omega), hm, snoc_last] at this; exact this
  · rintro ⟨h1, h2⟩ i hi
    rw [waits_iff] at h1
    by_cases c : i < l.length
    · have := h1 i c
      rw [wantOf_mid (by omega), hm, snoc_old c]
      by_cases c' : i + 1 < l.length
      · rw [if_pos c'] at this; rw [snoc_old c']; exact this
      · rw [if_neg c'] at this
        obtain e : i + 1 = l.length := by omega
        rw [e, snoc_last]; exact this
    · obtain rfl : i = l.length := by omega
      rw [wantOf_top (by omega), hm, snoc_last]; exact h2
theorem firstErr_iff {α : Type} {f : α → Int} {l : List α} : firstErr f l = 0 ↔ ∀ x ∈ l, f x = 0 := by
  refine ⟨firstErr_zero, fun h => ?_⟩
  induction l with
  | nil => rfl
  | cons a l ih => simp only [firstErr]; rw [if_pos (h a (List.mem_cons_self ..))]; exact ih fun x hx => h x (List.mem_cons_of_mem _ hx)
theorem ends_snoc {α : Type} (l : List α) : l = [] ∨ ∃ k x, l = k ++ [x] := by
  rcases List.eq_nil_or_concat l with h | ⟨k, x, h⟩
  · exact .inl h
  · exact .inr ⟨k, x, by simpa using h⟩
theorem all_btw {p : List Fun} {l : List Frm} (h : l.all (fun x => btw x.fn 0 ((p.length : Int) - 1)) = true) : ∀ i, i < l.length → 0 ≤ (l[i]!).fn ∧ (l[i]!).fn < p.length := by
  intro i hi
  rw [List.all_eq_true] at h
  have := btw_iff.1 (h _ (getElem!_mem hi)); omega

theorem checkBlocks_zero {l : List (List Int)} : checkBlocks l = 0 ↔ l.length ≤ 8 ∧ cellsOf l ≤ 40 ∧ ∀ b ∈ l, ∀ n ∈ b, isInt n = true := by
  unfold checkBlocks
  by_cases h1 : 8 < l.length ∨ 40 < cellsOf l
  · rw [if_pos h1]; constructor
    · intro h; omega
    · rintro ⟨a, b, _⟩; omega
  rw [if_neg h1]
  by_cases h2 : l.all (fun b => b.all isInt) = false
  · rw [if_pos h2]; constructor
    · intro h; omega
    · rintro ⟨_, _, c⟩; exfalso
      have : l.all (fun b => b.all isInt) = true := by
        rw [List.all_eq_true]; intro b hb; rw [List.all_eq_true]; exact c b hb
      rw [h2] at this; cases this
  · rw [if_neg h2]
    have h2' : l.all (fun b => b.all isInt) = true := by simpa using h2
    rw [List.all_eq_true] at h2'
    simp only [true_iff]
    exact ⟨by omega, by omega, fun b hb n hn => by have := h2' b hb; rw [List.all_eq_true] at this; exact this n hn⟩

theorem checkRight_zero {p : List Fun} {m : Mach} : checkRight p m = 0 ↔ RightS p m := by
  unfold checkRight
  by_cases c1 : btw m.status 0 3 = false
  · rw [if_pos c1]; constructor
    · intro h; omega
    · intro h; have := btw_iff.2 h.status; rw [c1] at this; cases this
  rw [if_neg c1]
  have s1 : 0 ≤ m.status ∧ m.status ≤ 3 := btw_iff.1 (by simpa using c1)
  by_cases c2 : (m.status = 3 ∧ btw m.trap 1 5 = false) ∨ (m.status ≠ 3 ∧ m.trap ≠ 0)
  · rw [if_pos c2]; constructor
    · intro h; omega
    · intro h; exfalso
      rcases c2 with ⟨a, b⟩ | ⟨a, b⟩
      · have := btw_iff.2 (h.trap1 a); rw [b] at this; cases this
      · exact b (h.trap0 a)
  rw [if_neg c2]
  have s2 : (m.status = 3 → 1 ≤ m.trap ∧ m.trap ≤ 5) ∧ (m.status ≠ 3 → m.trap = 0) := by
    refine ⟨fun a => ?_, fun a => ?_⟩
    · cases hb : btw m.trap 1 5 with
      | true => exact btw_iff.1 hb
      | false => exact absurd (.inl ⟨a, hb⟩) c2
    · by_cases hb : m.trap = 0
      · exact hb
      · exact absurd (.inr ⟨a, hb⟩) c2
  by_cases c3 : checkBlocks m.blocks ≠ 0
  · rw [if_pos c3]; constructor
    · intro h; exact absurd h c3
    · intro h; exact absurd (checkBlocks_zero.2 ⟨h.nblocks, h.cells, h.bints⟩) c3
  rw [if_neg c3]
  have s3 := checkBlocks_zero.1 (Classical.not_not.1 c3)
  by_cases c4 : 10 < m.inp.length ∨ 10 < m.out.length
  · rw [if_pos c4]; constructor
    · intro h; omega
    · intro h; have := h.ninp; have := h.nout; omega
  rw [if_neg c4]
  by_cases c5 : (m.inp ++ m.out).all isInt = false
  · rw [if_pos c5]; constructor
    · intro h; omega
    · intro h; exfalso
      have : (m.inp ++ m.out).all isInt = true := by
        rw [List.all_eq_true]; intro n hn
        rcases List.mem_append.1 hn with hn | hn
        · exact h.inps n hn
        · exact h.outs n hn
      rw [c5] at this; cases this
  rw [if_neg c5]
  have s5 : (m.inp ++ m.out).all isInt = true := by simpa using c5
  rw [List.all_eq_true] at s5
  by_cases c6 : 6 < m.frames.length
  · rw [if_pos c6]; constructor
    · intro h; omega
    · intro h; have := h.nframes; omega
  rw [if_neg c6]
  by_cases c7 : m.frames = [] ∧ m.status ≠ 2
  · rw [if_pos c7]; constructor
    · intro h; omega
    · intro h; exact absurd (h.done.2 c7.1) c7.2
  rw [if_neg c7]
  by_cases c8 : m.frames ≠ [] ∧ m.status = 2
  · rw [if_pos c8]; constructor
    · intro h; omega
    · intro h; exact absurd (h.done.1 c8.2) c8.1
  rw [if_neg c8]
  have s8 : m.status = 2 ↔ m.frames = [] := by
    constructor
    · intro h; by_cases hf : m.frames = []
      · exact hf
      · exact absurd ⟨hf, h⟩ c8
    · intro h; by_cases hf : m.status = 2
      · exact hf
      · exact absurd ⟨h, hf⟩ c7
  by_cases c9 : m.frames.all (fun x => btw x.fn 0 ((p.length : Int) - 1)) = false
  · rw [if_pos c9]; constructor
    · intro h; omega
    · intro h; exfalso
      have : m.frames.all (fun x => btw x.fn 0 ((p.length : Int) - 1)) = true := by
        rcases h.frames with hf | ⟨l, x, hf, hw, hx, _⟩
        · rw [hf]; rfl
        · rw [List.all_eq_true]; intro y hy
          obtain ⟨i, hi, rfl⟩ := List.mem_iff_getElem.1 hy
          have := ((frames_iff hf).2 ⟨hw, hx⟩ i hi).fn
          rw [getElem!_pos m.frames i hi] at this
          exact btw_iff.2 (by omega)
      rw [c9] at this; cases this
  rw [if_neg c9]
  have s9 := all_btw (p := p) (l := m.frames) (by simpa using c9)
  by_cases c10 : m.frames ≠ [] ∧ (m.frames[0]!).fn ≠ 0
  · rw [if_pos c10]; constructor
    · intro h; omega
    · intro h; rcases h.frames with hf | ⟨l, x, hf, _, _, h0⟩
      · exact absurd hf c10.1
      · exact absurd h0 c10.2
  rw [if_neg c10]
  have key : firstErr (checkFrame p m) (List.range m.frames.length) = 0 ↔ ∀ i, i < m.frames.length → FrmOk p m.blocks.length m.frames[i]! (wantOf p m i) := by
    rw [firstErr_iff]
    constructor
    · intro h i hi; exact (checkFrame_zero (s9 i hi)).1 (h i (List.mem_range.2 hi))
    · intro h i hi; exact (checkFrame_zero (s9 i (List.mem_range.1 hi))).2 (h i (List.mem_range.1 hi))
  by_cases c11 : firstErr (checkFrame p m) (List.range m.frames.length) ≠ 0
  · rw [if_pos c11]; constructor
    · intro h; exact absurd h c11
    · intro h; exfalso
      rcases h.frames with hf | ⟨l, x, hf, hw, hx, _⟩
      · exact c11 (by rw [hf]; rfl)
      · exact c11 (key.2 ((frames_iff hf).2 ⟨hw, hx⟩))
  rw [if_neg c11]
  have s11 := key.1 (Classical.not_not.1 c11)
  have sfr : m.frames = [] ∨ ∃ l x, m.frames = l ++ [x] ∧ Waits p m.blocks.length l x.fn ∧ FrmOk p m.blocks.length x (entryAt p x.fn x.pc) ∧ (m.frames[0]!).fn = 0 := by
    rcases ends_snoc m.frames with hf | ⟨l, x, hf⟩
    · exact .inl hf
    · have := (frames_iff hf).1 s11
      refine .inr ⟨l, x, hf, this.1, this.2, ?_⟩
      by_cases h0 : (m.frames[0]!).fn = 0
      · exact h0
      · exact absurd ⟨by rw [hf]; simp, h0⟩ c10
  by_cases c12 : m.status = 1 ∧ (m.inp ≠ [] ∨ (opAt p m).code ≠ 21)
  · rw [if_pos c12]; constructor
    · intro h; omega
    · intro h; exfalso
      have := h.wait c12.1
      rcases c12.2 with a | a
      · exact a this.1
      · exact a this.2
  rw [if_neg c12]
  simp only [true_iff]
  refine ⟨s1, s2.1, s2.2, s3.1, s3.2.1, s3.2.2, by omega, by omega, fun n hn => s5 n (List.mem_append.2 (.inl hn)), fun n hn => s5 n (List.mem_append.2 (.inr hn)), by omega, s8, sfr, fun h => ?_⟩
  constructor
  · by_cases a : m.inp = []
    · exact a
    · exact absurd ⟨h, .inl a⟩ c12
  · by_cases a : (opAt p m).code = 21
    · exact a
    · exact absurd ⟨h, .inr a⟩ c12
end Mz

/- A step of a right machine is a right machine: on plain lists; no program is in sight here. -/
namespace Mz

theorem valOk_mono {nb nb' : Nat} {v : Val} (h : valOk nb v = true) (hn : nb ≤ nb') : valOk nb' v = true := by
  unfold valOk at h ⊢
  by_cases c : v.ref = true
  · rw [if_pos c] at h ⊢; rw [btw_iff] at h ⊢; omega
  · rw [if_neg c] at h ⊢; exact h
theorem FrmOk.mono {p : List Fun} {nb nb' : Nat} {x : Frm} {w : Option (List Int)} (h : FrmOk p nb x w) (hn : nb ≤ nb') : FrmOk p nb' x w :=
  ⟨h.fn, h.loc, fun v hv => valOk_mono (h.lvals v hv) hn, fun v hv => valOk_mono (h.svals v hv) hn, h.want⟩
theorem Waits.mono {p : List Fun} {nb nb' : Nat} {f : Int} (hn : nb ≤ nb') : ∀ {l : List Frm}, Waits p nb l f → Waits p nb' l f
  | [], _ => trivial
  | [_], h => FrmOk.mono h hn
  | _ :: _ :: _, h => ⟨h.1.mono hn, Waits.mono hn h.2⟩

theorem asT_stands {v : Val} {t t' : Int} (h : asT v t = true) (hs : stands t t' = true) : asT v t' = true := by
  rcases stands_iff.1 hs with rfl | ⟨rfl, rfl⟩
  · exact h
  · simp [asT] at h ⊢; exact h.1
theorem asAll_stands : ∀ {s : List Val} {t t' : List Int}, asAll s t = true → standsAll t t' = true → asAll s t' = true
  | [], [], [], _, _ => rfl
  | [], [], _ :: _, _, h => by simp [standsAll] at h
  | [], _ :: _, _, h, _ => by simp [asAll] at h
  | _ :: _, [], _, h, _ => by simp [asAll] at h
  | _ :: _, _ :: _, [], _, h => by simp [standsAll] at h
  | v :: s, a :: t, b :: t', h, k => by
    simp only [asAll, standsAll, Bool.and_eq_true] at h k ⊢
    exact ⟨asT_stands h.1 k.1, asAll_stands h.2 k.2⟩
theorem asAll_take : ∀ {s : List Val} {t : List Int} (k : Nat), asAll s t = true → asAll (s.take k) (t.take k) = true
  | [], [], k, _ => by simp [asAll]
  | [], _ :: _, _, h => by simp [asAll] at h
  | _ :: _, [], _, h => by simp [asAll] at h
  | _ :: _, _ :: _, 0, _ => by simp [asAll]
  | _ :: s, _ :: t, k + 1, h => by
    simp only [asAll, Bool.and_eq_true, List.take_succ_cons] at h ⊢
    exact ⟨h.1, asAll_take k h.2⟩
theorem asAll_drop : ∀ {s : List Val} {t : List Int} (k : Nat), asAll s t = true → asAll (s.drop k) (t.drop k) = true
  | [], [], k, _ => by simp [asAll]
  | [], _ :: _, _, h => by simp [asAll] at h
  | _ :: _, [], _, h => by simp [asAll] at h
  | _ :: _, _ :: _, 0, h => h
  | _ :: s, _ :: t, k + 1, h => by
    simp only [asAll, Bool.and_eq_true, List.drop_succ_cons] at h ⊢
    exact asAll_drop k h.2
theorem asAll_append : ∀ {s s' : List Val} {t t' : List Int}, asAll s t = true → asAll s' t' = true → asAll (s ++ s') (t ++ t') = true
  | [], _, [], _, _, h => h
  | [], _, _ :: _, _, h, _ => by simp [asAll] at h
  | _ :: _, _, [], _, h, _ => by simp [asAll] at h
  | _ :: s, _, _ :: t, _, h, k => by
    simp only [asAll, Bool.and_eq_true, List.cons_append] at h ⊢
    exact ⟨h.1, asAll_append h.2 k⟩
theorem asAll_get : ∀ {s : List Val} {t : List Int} {i : Nat}, asAll s t = true → i < t.length → asT s[i]! t[i]! = true
  | [], _ :: _, _, h, _ => by simp [asAll] at h
  | _ :: _, _ :: _, 0, h, _ => by simp only [asAll, Bool.and_eq_true] at h; simpa using h.1
  | _ :: s, _ :: t, i + 1, h, hi => by
    simp only [asAll, Bool.and_eq_true] at h
    simpa using asAll_get (i := i) h.2 (by simpa using hi)
theorem asAll_set : ∀ {s : List Val} {t : List Int} {i : Nat} {v : Val}, asAll s t = true → i < t.length → asT v t[i]! = true → asAll (s.set i v) t = true
  | [], _ :: _, _, _, h, _, _ => by simp [asAll] at h
  | _ :: _, _ :: _, 0, _, h, _, hv => by simp only [asAll, Bool.and_eq_true, List.set_cons_zero] at h ⊢; exact ⟨by simpa using hv, h.2⟩
  | _ :: s, _ :: t, i + 1, v, h, hi, hv => by
    simp only [asAll, Bool.and_eq_true, List.set_cons_succ] at h ⊢
    exact ⟨h.1, asAll_set h.2 (by simpa using hi) (by simpa using hv)⟩
theorem drop_get {α : Type} [Inhabited α] {l : List α} {k i : Nat} : (l.drop k)[i]! = l[k + i]! := by
  rw [List.getElem!_eq_getElem?_getD, List.getElem!_eq_getElem?_getD, List.getElem?_drop]

theorem isInt_wrap (n : Int) : isInt (wrap n) = true := by
  unfold isInt; rw [btw_iff]; unfold wrap; omega
theorem num_as (n : Int) : asT (num n) 1 = true := rfl
theorem num_ok (nb : Nat) (n : Int) : valOk nb (num n) = true := by unfold valOk num; simp [isInt_wrap]

theorem mem_get {α : Type} [Inhabited α] {l : List α} {i : Nat} (h : i < l.length) : l[i]! ∈ l := getElem!_mem h

/-- where a frame is: its op, what that takes and leaves, and where it goes on -/
structure Here (p : List Fun) (x : Frm) (o : Op) (t take leave : List Int) : Prop where
  is : o = (p[x.fn.toNat]!).code[x.pc.toNat]!
  fun_ : FunOk p (p[x.fn.toNat]!)
  ok : OpOk p (p[x.fn.toNat]!) o
  num : isInt o.a = true
  pc : 0 ≤ x.pc ∧ x.pc < (p[x.fn.toNat]!).code.length
  stack : asAll x.stack t = true
  tl : takeLeave p (p[x.fn.toNat]!) o t = some (take, leave)
  len : take.length ≤ t.length
  took : standsAll (t.drop (t.length - take.length)) take = true
  small : (t.take (t.length - take.length) ++ leave).length ≤ 8
  next : ∀ to ∈ nexts o x.pc.toNat, ∃ t', entryAt p x.fn to = some t' ∧ standsAll (t.take (t.length - take.length) ++ leave) t' = true

theorem entryAt_iff {p : List Fun} {fn pc : Int} {st : St} {t : List Int} (h : entriesSt p (p[fn.toNat]!) = some st) : entryAt p fn pc = some t ↔ 0 ≤ pc ∧ st[pc.toNat]? = some (some t) := by
  unfold entryAt
  rw [h]; simp only
  by_cases h0 : 0 ≤ pc
  · rw [if_pos h0]
    cases hx : st[pc.toNat]? with
    | none => simp
    | some x => cases x <;> simp [h0]
  · rw [if_neg h0]; simp [h0]
theorem tryOp_some {p : List Fun} {f : Fun} {o : Op} {t out : List Int} (h : tryOp p f o t = some out) :
    ∃ take leave, takeLeave p f o t = some (take, leave) ∧ take.length ≤ t.length ∧ standsAll (t.drop (t.length - take.length)) take = true ∧ out = t.take (t.length - take.length) ++ leave ∧ out.length ≤ 8 := by
  unfold tryOp at h
  cases ht : takeLeave p f o t with
  | none => rw [ht] at h; cases h
  | some x =>
    obtain ⟨take, leave⟩ := x
    rw [ht] at h; simp only at h
    by_cases c1 : t.length < take.length
    · rw [if_pos c1] at h; cases h
    rw [if_neg c1] at h
    by_cases c2 : standsAll (t.drop (t.length - take.length)) take = false
    · rw [if_pos c2] at h; cases h
    rw [if_neg c2] at h
    by_cases c3 : 8 < (t.take (t.length - take.length) ++ leave).length
    · rw [if_pos c3] at h; cases h
    rw [if_neg c3] at h
    simp only [Option.some.injEq] at h
    exact ⟨take, leave, rfl, by omega, by simpa using c2, h.symm, by rw [← h]; omega⟩
theorem fun_mem {p : List Fun} {f : Int} (h : 0 ≤ f ∧ f < p.length) : p[f.toNat]! ∈ p := getElem!_mem (by omega)
theorem fits_st {p : List Fun} {f : Int} (hfit : checkFits p = 0) (h : 0 ≤ f ∧ f < p.length) : ProgOk p ∧ Ready p (p[f.toNat]!) ∧ FunOk p (p[f.toNat]!) ∧ ∃ st, entriesSt p (p[f.toNat]!) = some st ∧ Sol p (p[f.toNat]!) st := by
  obtain ⟨h1, h2⟩ := checkFits_zero hfit
  have hp := checkProg_zero h1
  have hr := hp.ready (fun_mem h)
  obtain ⟨st, hst⟩ := Option.isSome_iff_exists.1 (h2 _ (fun_mem h))
  exact ⟨hp, hr, hp.funs _ (fun_mem h), st, hst, entries_sol hr hst⟩
/-- at a place with an entry -/
theorem here_at {p : List Fun} {x : Frm} {t : List Int} (hfit : checkFits p = 0) (hf : 0 ≤ x.fn ∧ x.fn < p.length) (ht : entryAt p x.fn x.pc = some t) (hs : asAll x.stack t = true) :
    ∃ take leave, Here p x ((p[x.fn.toNat]!).code[x.pc.toNat]!) t take leave := by
  obtain ⟨hp, hr, hfun, st, hst, hsol⟩ := fits_st hfit hf
  obtain ⟨h0, hg⟩ := (entryAt_iff hst).1 ht
  obtain ⟨out, hout, hall⟩ := hsol.step _ _ hg
  have hl : x.pc.toNat < (p[x.fn.toNat]!).code.length := by
    rw [← hsol.len]
    rcases Nat.lt_or_ge x.pc.toNat st.length with h | h
    · exact h
    · rw [List.getElem?_eq_none h] at hg; cases hg
  have hm := getElem!_mem hl
  obtain ⟨take, leave, h1, h2, h3, rfl, h4⟩ := tryOp_some hout
  have hc := checkOp_zero (hfun.ops _ hm)
  refine ⟨take, leave, rfl, hfun, hr.ops _ hm, btw_iff.2 hc.2.2, by omega, hs, h1, h2, h3, h4, fun to hto => ?_⟩
  obtain ⟨t', ht', hst'⟩ := hall to hto
  exact ⟨t', (entryAt_iff hst).2 ⟨by omega, by simpa using ht'⟩, hst'⟩
theorem here_top {p : List Fun} {nb : Nat} {x : Frm} (hfit : checkFits p = 0) (h : FrmOk p nb x (entryAt p x.fn x.pc)) :
    ∃ t take leave, Here p x ((p[x.fn.toNat]!).code[x.pc.toNat]!) t take leave := by
  obtain ⟨t, ht, hs⟩ := h.want
  obtain ⟨take, leave, hh⟩ := here_at hfit h.fn ht hs
  exact ⟨t, take, leave, hh⟩

theorem Here.slen {p : List Fun} {x : Frm} {o : Op} {t take leave : List Int} (h : Here p x o t take leave) : x.stack.length = t.length := asAll_len h.stack
/-- values that an op takes -/
theorem Here.val {p : List Fun} {x : Frm} {o : Op} {t take leave : List Int} (h : Here p x o t take leave) {i : Nat} (hi : i < take.length) : asT x.stack[x.stack.length - take.length + i]! take[i]! = true := by
  have h1 := asAll_drop (t.length - take.length) h.stack
  have h2 := asAll_stands h1 h.took
  have := asAll_get h2 hi
  rw [drop_get] at this
  rw [h.slen]; exact this
theorem Here.inval {p : List Fun} {x : Frm} {o : Op} {t take leave : List Int} (h : Here p x o t take leave) {i : Nat} (hi : i < take.length) : x.stack[x.stack.length - take.length + i]! ∈ x.stack := by
  have := h.len; have := h.slen
  exact getElem!_mem (by omega)
theorem Here.rest {p : List Fun} {x : Frm} {o : Op} {t take leave : List Int} (h : Here p x o t take leave) (lv : List Val) (hlv : asAll lv leave = true) : asAll (x.stack.take (x.stack.length - take.length) ++ lv) (t.take (t.length - take.length) ++ leave) = true := by
  rw [h.slen]; exact asAll_append (asAll_take _ h.stack) hlv
theorem Here.go {p : List Fun} {nb nb' : Nat} {x : Frm} {w : Option (List Int)} {o : Op} {t take leave : List Int} (H : Here p x o t take leave) (hx : FrmOk p nb x w) (hnb : nb ≤ nb') (lv : List Val) (hlv : asAll lv leave = true) (hok : ∀ v ∈ lv, valOk nb' v = true)
    (k : Nat) (hk : take.length = k) (to : Int) (h0 : 0 ≤ to) (hto : to.toNat ∈ nexts o x.pc.toNat) (locs : List Val) (hl : asAll locs (p[x.fn.toNat]!).locals = true) (hlo : ∀ v ∈ locs, valOk nb' v = true) :
    FrmOk p nb' { x with stack := x.stack.take (x.stack.length - k) ++ lv, pc := to, locals := locs } (entryAt p x.fn to) := by
  subst hk
  obtain ⟨t', ht', hst'⟩ := H.next _ hto
  refine ⟨hx.fn, hl, hlo, fun v hv => ?_, ⟨t', ?_, asAll_stands (H.rest lv hlv) hst'⟩⟩
  · rcases List.mem_append.1 hv with hv | hv
    · exact valOk_mono (hx.svals v (List.mem_of_mem_take hv)) hnb
    · exact hok v hv
  · rw [← ht']; congr 1; omega

theorem top_facts {l : List Frm} {x : Frm} : (l ++ [x]).getLast! = x ∧ (l ++ [x]).dropLast = l := by
  constructor
  · rw [List.getLast!_eq_getLast?_getD]; simp
  · simp
theorem RightS.set {p : List Fun} {m m' : Mach} {l : List Frm} {x x' : Frm} (h : RightS p m) (hm : m.frames = l ++ [x]) (hf : m'.frames = l ++ [x']) (hfn : x'.fn = x.fn) (hnb : m.blocks.length ≤ m'.blocks.length)
    (hx : FrmOk p m'.blocks.length x' (entryAt p x'.fn x'.pc)) (hst : m'.status = 0) (htr : m'.trap = 0) (hb : m'.blocks.length ≤ 8 ∧ cellsOf m'.blocks ≤ 40 ∧ ∀ b ∈ m'.blocks, ∀ n ∈ b, isInt n = true)
    (hi : m'.inp.length ≤ 10 ∧ ∀ n ∈ m'.inp, isInt n = true) (ho : m'.out.length ≤ 10 ∧ ∀ n ∈ m'.out, isInt n = true) : RightS p m' := by
  rcases h.frames with h0 | ⟨l2, x2, h1, hw, _, hz⟩
  · rw [h0] at hm; simp at hm
  obtain ⟨rfl, rfl⟩ : l2 = l ∧ x2 = x := by
    have := hm.symm.trans h1
    have := List.append_inj' this rfl
    exact ⟨this.1.symm, by simpa using this.2.symm⟩
  have hn := h.nframes
  refine ⟨by omega, by omega, by omega, hb.1, hb.2.1, hb.2.2, hi.1, ho.1, hi.2, ho.2, by rw [hf]; rw [hm] at hn; simpa using hn, ?_, .inr ⟨l2, x', hf, by rw [hfn]; exact hw.mono hnb, hx, ?_⟩, by omega⟩
  · rw [hst, hf]; simp
  · rw [hf]; rw [hm] at hz
    cases l2 with
    | nil => simp at hz ⊢; rw [hfn]; exact hz
    | cons a l2 => simpa using hz
theorem RightS.trapped {p : List Fun} {m : Mach} (h : RightS p m) (hs : m.status ≤ 1) {why : Int} (hw : 1 ≤ why ∧ why ≤ 5) : RightS p (trapped m why) := by
  refine ⟨by simp [Mz.trapped], fun _ => hw, fun c => absurd rfl c, h.nblocks, h.cells, h.bints, h.ninp, h.nout, h.inps, h.outs, h.nframes, ?_, h.frames, fun c => by simp [Mz.trapped] at c⟩
  constructor
  · intro c; simp [Mz.trapped] at c
  · intro c; have := h.done.2 c; omega

theorem tl_plain {p : List Fun} {f : Fun} {o : Op} {t : List Int} (c2 : o.code ≠ 2) (c3 : o.code ≠ 3) (c4 : o.code ≠ 4) (c12 : o.code ≠ 12) (c13 : o.code ≠ 13) : takeLeave p f o t = some (plainOf o.code (if o.code = 8 ∨ o.code = 9 then f.locals[o.a.toNat]! else 0)) := by
  unfold takeLeave; rw [if_neg c2, if_neg c3, if_neg c4, if_neg c12, if_neg c13]
theorem Here.plain {p : List Fun} {x : Frm} {o : Op} {t take leave : List Int} (h : Here p x o t take leave) (c2 : o.code ≠ 2) (c3 : o.code ≠ 3) (c4 : o.code ≠ 4) (c12 : o.code ≠ 12) (c13 : o.code ≠ 13) :
    take = (plainOf o.code (if o.code = 8 ∨ o.code = 9 then (p[x.fn.toNat]!).locals[o.a.toNat]! else 0)).1 ∧ leave = (plainOf o.code (if o.code = 8 ∨ o.code = 9 then (p[x.fn.toNat]!).locals[o.a.toNat]! else 0)).2 := by
  have := h.tl
  rw [tl_plain c2 c3 c4 c12 c13] at this
  simp only [Option.some.injEq] at this
  rw [this]; exact ⟨rfl, rfl⟩
theorem nexts_on {o : Op} {pc : Nat} (h : o.code ≠ 10) (h' : o.code ≠ 13) : pc + 1 ∈ nexts o pc := by
  unfold nexts
  rw [if_neg h', if_neg h]
  by_cases c : o.code = 11
  · rw [if_pos c]; split
    · simp
    · split <;> simp
  · rw [if_neg c]; simp
theorem nexts_jump {o : Op} {pc : Nat} (h : o.code = 10 ∨ o.code = 11) : o.a.toNat ∈ nexts o pc := by
  unfold nexts
  rw [if_neg (by omega)]
  by_cases c : o.code = 10
  · rw [if_pos c]; simp
  · rw [if_neg c, if_pos (by omega)]; split
    · next e => rw [e]; simp
    · split <;> simp

theorem cellsOf_append (a b : List (List Int)) : cellsOf (a ++ b) = cellsOf a + cellsOf b := by
  induction a with
  | nil => simp [cellsOf]
  | cons x a ih => simp only [List.cons_append, cellsOf, ih]; omega
theorem cellsOf_set : ∀ {l : List (List Int)} {i : Nat} {b : List Int}, b.length = (l[i]!).length → cellsOf (l.set i b) = cellsOf l
  | [], i, b, _ => by simp
  | a :: l, 0, b, h => by simp only [List.set_cons_zero, cellsOf]; simp at h; omega
  | a :: l, i + 1, b, h => by simp only [List.set_cons_succ, cellsOf]; rw [cellsOf_set (by simpa using h)]
theorem mem_set_or {α : Type} {l : List α} {i : Nat} {a b : α} (h : b ∈ l.set i a) : b ∈ l ∨ b = a := by
  rcases List.mem_or_eq_of_mem_set h with h | h
  · exact .inl h
  · exact .inr h
theorem as_num {v : Val} (h : asT v 1 = true) : v.ref = false := by simpa [asT] using h
theorem as_ref {v : Val} (h : asT v 2 = true) : v.ref = true := by simpa [asT] using h
theorem standsAll_snoc {u t : List Int} {r : Int} (h : standsAll (u ++ [r]) t = true) : ∃ v z, t = v ++ [z] ∧ standsAll u v = true ∧ stands r z = true := by
  have hl := standsAll_length h
  rcases List.eq_nil_or_concat t with rfl | ⟨v, z, rfl⟩
  · simp at hl
  · rw [List.concat_eq_append] at h hl ⊢
    simp at hl
    have h1 := standsAll_take u.length h
    rw [List.take_append_of_le_length (Nat.le_refl _), List.take_append_of_le_length (by omega)] at h1
    rw [List.take_of_length_le (Nat.le_refl _), List.take_of_length_le (by omega)] at h1
    have h2 := standsAll_drop u.length h
    rw [hl] at h2
    rw [List.drop_append_of_le_length (by omega), List.drop_append_of_le_length (Nat.le_refl _)] at h2
    rw [List.drop_of_length_le (by omega), List.drop_of_length_le (Nat.le_refl _)] at h2
    simp only [List.nil_append, standsAll, Bool.and_true] at h2
    exact ⟨v, z, rfl, h1, h2⟩
theorem freshOf_as {f : Fun} (h : ∀ t ∈ f.locals, 1 ≤ t ∧ t ≤ 2) : asAll (freshOf f) f.locals = true := by
  unfold freshOf
  have : ∀ l : List Int, (∀ t ∈ l, 1 ≤ t ∧ t ≤ 2) → asAll (l.map fun t => ⟨t == 2, 0⟩) l = true := by
    intro l
    induction l with
    | nil => intro _; rfl
    | cons a l ih =>
      intro h
      simp only [List.map_cons, asAll, Bool.and_eq_true]
      refine ⟨?_, ih fun t ht => h t (List.mem_cons_of_mem _ ht)⟩
      have := h a (List.mem_cons_self ..)
      by_cases c : a = 1
      · subst c; rfl
      · obtain rfl : a = 2 := by omega
        rfl
  exact this _ h
theorem freshOf_ok {f : Fun} {nb : Nat} : ∀ v ∈ freshOf f, valOk nb v = true := by
  intro v hv
  unfold freshOf at hv
  rw [List.mem_map] at hv
  obtain ⟨t, _, rfl⟩ := hv
  unfold valOk
  by_cases c : (t == 2) = true
  · simp only [c, if_true]; rw [btw_iff]; omega
  · simp [c, isInt, btw]
end Mz
