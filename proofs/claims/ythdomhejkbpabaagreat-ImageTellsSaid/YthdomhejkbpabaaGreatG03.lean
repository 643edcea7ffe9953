/- Lemmas: Keep2, Keep3, Img. -/
import Derived.Test.YthdomhejkbpabaaGreatG02
set_option linter.unusedVariables false
set_option linter.unusedSimpArgs false
/- A step of a right machine is a right machine: op by op; no program is in sight here. -/
namespace Mz

theorem RightS.go {p : List Fun} {m m' : Mach} {l : List Frm} {x : Frm} {o : Op} {t take leave : List Int} (h : RightS p m) (hm : m.frames = l ++ [x]) (H : Here p x o t take leave) {w : Option (List Int)} (hx : FrmOk p m.blocks.length x w)
    (lv : List Val) (k : Nat) (to : Int) (locs : List Val) (hf : m'.frames = m.frames.dropLast ++ [{ x with stack := x.stack.take (x.stack.length - k) ++ lv, pc := to, locals := locs }]) (hnb : m.blocks.length ≤ m'.blocks.length)
    (hlv : asAll lv leave = true) (hok : ∀ v ∈ lv, valOk m'.blocks.length v = true) (hk : take.length = k) (h0 : 0 ≤ to) (hto : to.toNat ∈ nexts o x.pc.toNat) (hl : asAll locs (p[x.fn.toNat]!).locals = true) (hlo : ∀ v ∈ locs, valOk m'.blocks.length v = true)
    (hst : m'.status = 0) (htr : m'.trap = 0) (hb : m'.blocks.length ≤ 8 ∧ cellsOf m'.blocks ≤ 40 ∧ ∀ b ∈ m'.blocks, ∀ n ∈ b, isInt n = true)
    (hi : m'.inp.length ≤ 10 ∧ ∀ n ∈ m'.inp, isInt n = true) (ho : m'.out.length ≤ 10 ∧ ∀ n ∈ m'.out, isInt n = true) : RightS p m' := by
  rw [hm, top_facts.2] at hf
  exact h.set (x' := { x with stack := x.stack.take (x.stack.length - k) ++ lv, pc := to, locals := locs }) hm hf rfl hnb (H.go hx hnb lv hlv hok k hk to h0 hto locs hl hlo) hst htr hb hi ho
/-- nothing but the frame is other -/
theorem RightS.go' {p : List Fun} {m : Mach} {l : List Frm} {x : Frm} {o : Op} {t take leave : List Int} (h : RightS p m) (hs : m.status = 0) (hm : m.frames = l ++ [x]) (H : Here p x o t take leave) {w : Option (List Int)} (hx : FrmOk p m.blocks.length x w)
    (lv : List Val) (k : Nat) (to : Int) (hlv : asAll lv leave = true) (hok : ∀ v ∈ lv, valOk m.blocks.length v = true) (hk : take.length = k) (h0 : 0 ≤ to) (hto : to.toNat ∈ nexts o x.pc.toNat) :
    RightS p (setTop m { x with stack := x.stack.take (x.stack.length - k) ++ lv, pc := to }) :=
  h.go hm H hx lv k to x.locals rfl (Nat.le_refl _) hlv hok hk h0 hto hx.loc hx.lvals hs (h.trap0 (by omega)) ⟨h.nblocks, h.cells, h.bints⟩ ⟨h.ninp, h.inps⟩ ⟨h.nout, h.outs⟩

theorem pc_on {pc : Int} (h : 0 ≤ pc) : (pc + 1).toNat = pc.toNat + 1 := by omega
theorem Here.on {p : List Fun} {x : Frm} {o : Op} {t take leave : List Int} (H : Here p x o t take leave) (h : o.code ≠ 10) (h' : o.code ≠ 13) : 0 ≤ x.pc + 1 ∧ (x.pc + 1).toNat ∈ nexts o x.pc.toNat := by
  have := H.pc
  exact ⟨by omega, by rw [pc_on H.pc.1]; exact nexts_on h h'⟩
theorem plain_at {p : List Fun} {x : Frm} {o : Op} {t take leave : List Int} (H : Here p x o t take leave) (c : o.code ≠ 2 ∧ o.code ≠ 3 ∧ o.code ≠ 4 ∧ o.code ≠ 12 ∧ o.code ≠ 13) {a b : List Int} (e : plainOf o.code (if o.code = 8 ∨ o.code = 9 then (p[x.fn.toNat]!).locals[o.a.toNat]! else 0) = (a, b)) : take = a ∧ leave = b := by
  have := H.plain c.1 c.2.1 c.2.2.1 c.2.2.2.1 c.2.2.2.2
  rw [e] at this; exact this
theorem some_pair {α β : Type} {a c : α} {b d : β} (h : some (a, b) = some (c, d)) : c = a ∧ d = b := by
  simp only [Option.some.injEq, Prod.mk.injEq] at h; exact ⟨h.1.symm, h.2.symm⟩
theorem Here.pop {p : List Fun} {x : Frm} {o : Op} {t take leave : List Int} (H : Here p x o t take leave) (c : o.code = 2) : take = t.drop (t.length - 1) ∧ leave = [] ∧ 1 ≤ t.length := by
  have h := H.tl
  unfold takeLeave at h
  rw [if_pos c] at h
  by_cases k : t.length < 1
  · rw [if_pos k] at h; cases h
  · rw [if_neg k] at h; have := some_pair h; exact ⟨this.1, this.2, by omega⟩
theorem Here.dup {p : List Fun} {x : Frm} {o : Op} {t take leave : List Int} (H : Here p x o t take leave) (c : o.code = 3) : take = t.drop (t.length - 1) ∧ leave = [t[t.length - 1]!, t[t.length - 1]!] ∧ 1 ≤ t.length := by
  have h := H.tl
  unfold takeLeave at h
  rw [if_neg (by omega), if_pos c] at h
  by_cases k : t.length < 1
  · rw [if_pos k] at h; cases h
  · rw [if_neg k] at h; have := some_pair h; exact ⟨this.1, by rw [this.2, getLast!_eq], by omega⟩
theorem Here.swap {p : List Fun} {x : Frm} {o : Op} {t take leave : List Int} (H : Here p x o t take leave) (c : o.code = 4) : take = t.drop (t.length - 2) ∧ leave = [t[t.length - 1]!, t[t.length - 2]!] ∧ 2 ≤ t.length := by
  have h := H.tl
  unfold takeLeave at h
  rw [if_neg (by omega), if_neg (by omega), if_pos c] at h
  by_cases k : t.length < 2
  · rw [if_pos k] at h; cases h
  · rw [if_neg k] at h; have := some_pair h; exact ⟨this.1, this.2, by omega⟩
theorem Here.call {p : List Fun} {x : Frm} {o : Op} {t take leave : List Int} (H : Here p x o t take leave) (c : o.code = 12) : take = (p[o.a.toNat]!).locals.take (p[o.a.toNat]!).params.toNat ∧ leave = if 0 < (p[o.a.toNat]!).result then [(p[o.a.toNat]!).result] else [] := by
  have h := H.tl
  unfold takeLeave at h
  rw [if_neg (by omega), if_neg (by omega), if_neg (by omega), if_pos c] at h
  exact some_pair h
theorem Here.ret {p : List Fun} {x : Frm} {o : Op} {t take leave : List Int} (H : Here p x o t take leave) (c : o.code = 13) : take = (if 0 < (p[x.fn.toNat]!).result then [(p[x.fn.toNat]!).result] else []) ∧ leave = [] ∧ t.length = take.length := by
  have h := H.tl
  unfold takeLeave at h
  rw [if_neg (by omega), if_neg (by omega), if_neg (by omega), if_neg (by omega), if_pos c] at h
  by_cases k : t.length ≠ (if 0 < (p[x.fn.toNat]!).result then [(p[x.fn.toNat]!).result] else []).length
  · rw [if_pos k] at h; cases h
  · rw [if_neg k] at h; have := some_pair h; exact ⟨this.1, this.2, by rw [this.1]; omega⟩
theorem drop_len {α : Type} {l : List α} {k : Nat} (h : k ≤ l.length) : (l.drop (l.length - k)).length = k := by simp; omega
/-- a value of the stack is as its type says -/
theorem Here.asGet {p : List Fun} {x : Frm} {o : Op} {t take leave : List Int} (H : Here p x o t take leave) {i : Nat} (hi : i < t.length) : asT x.stack[i]! t[i]! = true ∧ x.stack[i]! ∈ x.stack :=
  ⟨asAll_get H.stack hi, getElem!_mem (by rw [H.slen]; exact hi)⟩
theorem as1 {v : Val} {t : Int} (h : asT v t = true) : asAll [v] [t] = true := by simp [asAll, h]
theorem as2 {v u : Val} {t s : Int} (h : asT v t = true) (k : asT u s = true) : asAll [v, u] [t, s] = true := by simp [asAll, h, k]

/-- what a call leaves is right -/
theorem RightS.call {p : List Fun} {m : Mach} {l : List Frm} {x : Frm} {o : Op} {t take leave : List Int} (hfit : checkFits p = 0) (h : RightS p m) (hs : m.status = 0) (hm : m.frames = l ++ [x]) (H : Here p x o t take leave) (hx : FrmOk p m.blocks.length x (entryAt p x.fn x.pc)) (c : o.code = 12) (h6 : m.frames.length ≠ 6) :
    RightS p { m with frames := m.frames.dropLast ++ [{ x with stack := x.stack.take (x.stack.length - (p[o.a.toNat]!).params.toNat), pc := x.pc + 1 }, ⟨o.a, 0, x.stack.drop (x.stack.length - (p[o.a.toNat]!).params.toNat) ++ (freshOf (p[o.a.toNat]!)).drop (p[o.a.toNat]!).params.toNat, []⟩] } := by
  obtain ⟨e1, e2⟩ := H.call c
  have hg := H.ok.call c
  obtain ⟨hp, hr, hfun, st, hst, hsol⟩ := fits_st hfit hg
  have hpar := hfun.params
  have hk : take.length = (p[o.a.toNat]!).params.toNat := by rw [e1, List.length_take]; omega
  have hn := h.nframes
  obtain ⟨t', ht', hst'⟩ := H.next _ (by have := nexts_on (o := o) (pc := x.pc.toNat) (by omega) (by omega); exact this)
  have hpc := H.pc
  have ht2 : entryAt p x.fn (x.pc + 1) = some t' := by rw [← ht']; congr 1; omega
  rcases h.frames with h0 | ⟨l2, x2, h1, hw, _, hz⟩
  · rw [h0] at hm; simp at hm
  obtain ⟨rfl, rfl⟩ : l2 = l ∧ x2 = x := by
    have := hm.symm.trans h1
    have := List.append_inj' this rfl
    exact ⟨this.1.symm, by simpa using this.2.symm⟩
  have hargs : asAll (x2.stack.drop (x2.stack.length - (p[o.a.toNat]!).params.toNat)) ((p[o.a.toNat]!).locals.take (p[o.a.toNat]!).params.toNat) = true := by
    have := asAll_stands (asAll_drop (t.length - take.length) H.stack) H.took
    rw [hk, ← H.slen] at this; rw [e1] at this; exact this
  have hlen : (m.frames.dropLast ++ [({ x2 with stack := x2.stack.take (x2.stack.length - (p[o.a.toNat]!).params.toNat), pc := x2.pc + 1 } : Frm), ⟨o.a, 0, x2.stack.drop (x2.stack.length - (p[o.a.toNat]!).params.toNat) ++ (freshOf (p[o.a.toNat]!)).drop (p[o.a.toNat]!).params.toNat, []⟩]).length = m.frames.length + 1 := by
    rw [hm]; simp
  refine ⟨h.status, h.trap1, h.trap0, h.nblocks, h.cells, h.bints, h.ninp, h.nout, h.inps, h.outs, by simp only [hlen]; omega, ?_, .inr ⟨l2 ++ [{ x2 with stack := x2.stack.take (x2.stack.length - (p[o.a.toNat]!).params.toNat), pc := x2.pc + 1 }], ⟨o.a, 0, x2.stack.drop (x2.stack.length - (p[o.a.toNat]!).params.toNat) ++ (freshOf (p[o.a.toNat]!)).drop (p[o.a.toNat]!).params.toNat, []⟩, ?_, ?_, ?_, ?_⟩, fun c => by simp only at c; omega⟩
  · simp only; rw [hs]; simp
  · simp only; rw [hm, top_facts.2]; simp
  · rw [waits_snoc]
    refine ⟨hw, ⟨hx.fn, hx.loc, hx.lvals, fun v hv => hx.svals v (List.mem_of_mem_take hv), ?_⟩⟩
    simp only
    unfold wantMid
    simp only
    have hop : (p[x2.fn.toNat]!).code[(x2.pc + 1 - 1).toNat]! = ⟨12, o.a⟩ := by
      rw [show x2.pc + 1 - 1 = x2.pc by omega, ← H.is, ← c]
    have hent : (entryAt p x2.fn (x2.pc + 1 - 1)).isNone = false := by
      rw [show x2.pc + 1 - 1 = x2.pc by omega]
      obtain ⟨u, hu, _⟩ := hx.want
      rw [hu]; rfl
    rw [if_neg, if_neg (by rw [hent]; simp), ht2]
    · refine ⟨_, rfl, ?_⟩
      simp only [Option.getD_some]
      have h3 : asAll (x2.stack.take (x2.stack.length - (p[o.a.toNat]!).params.toNat)) (t.take (t.length - take.length)) = true := by
        rw [H.slen, hk]; exact asAll_take _ H.stack
      by_cases hres : 0 < (p[o.a.toNat]!).result
      · rw [if_pos hres]
        rw [e2, if_pos hres] at hst'
        obtain ⟨v, z, rfl, hv, _⟩ := standsAll_snoc hst'
        rw [List.dropLast_concat]
        exact asAll_stands h3 hv
      · rw [if_neg hres]
        rw [e2, if_neg hres, List.append_nil] at hst'
        exact asAll_stands h3 hst'
    · rw [hop]
      intro hor
      rcases hor with hor | hor
      · have : btw (x2.pc + 1) 1 ((p[x2.fn.toNat]!).code.length : Int) = true := btw_iff.2 (by omega)
        rw [hor] at this; cases this
      · exact hor rfl
  · refine ⟨hg, ?_, ?_, fun v hv => by simp at hv, ⟨[], (entryAt_iff hst).2 ⟨Int.le_refl _, hsol.zero⟩, rfl⟩⟩
    · simp only
      have := asAll_append hargs (asAll_drop (p[o.a.toNat]!).params.toNat (freshOf_as hfun.locals))
      rwa [List.take_append_drop] at this
    · intro v hv
      rcases List.mem_append.1 hv with hv | hv
      · exact hx.svals v (List.mem_of_mem_drop hv)
      · exact freshOf_ok v (List.mem_of_mem_drop hv)
  · simp only; rw [hm, top_facts.2]
    rw [hm] at hz
    cases l2 with
    | nil => simpa using hz
    | cons a l2 => simpa using hz

/-- what a return leaves is right -/
theorem RightS.ret {p : List Fun} {m : Mach} {l : List Frm} {x : Frm} {o : Op} {t take leave : List Int} (hfit : checkFits p = 0) (h : RightS p m) (hs : m.status = 0) (hm : m.frames = l ++ [x]) (H : Here p x o t take leave) (hx : FrmOk p m.blocks.length x (entryAt p x.fn x.pc)) (c : o.code = 13) :
    RightS p (if m.frames.length = 1 then { m with frames := [], status := 2 }
    else if 0 < (p[x.fn.toNat]!).result then
      { m with frames := m.frames.dropLast.dropLast ++ [{ m.frames.dropLast.getLast! with stack := m.frames.dropLast.getLast!.stack ++ [x.stack[x.stack.length - 1]!] }] }
    else { m with frames := m.frames.dropLast }) := by
  obtain ⟨e1, e2, e3⟩ := H.ret c
  by_cases h1 : m.frames.length = 1
  · rw [if_pos h1]
    exact ⟨by simp, fun c => by simp at c, fun _ => h.trap0 (by omega), h.nblocks, h.cells, h.bints, h.ninp, h.nout, h.inps, h.outs, by simp, by simp, .inl rfl, fun c => by simp at c⟩
  rw [if_neg h1]
  rcases h.frames with h0 | ⟨l2, x2, h1', hw, _, hz⟩
  · rw [h0] at hm; simp at hm
  obtain ⟨rfl, rfl⟩ : l2 = l ∧ x2 = x := by
    have := hm.symm.trans h1'
    have := List.append_inj' this rfl
    exact ⟨this.1.symm, by simpa using this.2.symm⟩
  rcases ends_snoc l2 with rfl | ⟨k, y, rfl⟩
  · rw [hm] at h1; simp at h1
  have hn := h.nframes
  have hd : m.frames.dropLast = k ++ [y] := by rw [hm, top_facts.2]
  obtain ⟨hw1, hw2⟩ := waits_snoc.1 hw
  -- what the frame behind waits for
  obtain ⟨u, hu, hys⟩ := hw2.want
  unfold wantMid at hu
  by_cases b1 : btw y.pc 1 (p[y.fn.toNat]!).code.length = false ∨ (p[y.fn.toNat]!).code[(y.pc - 1).toNat]! ≠ ⟨12, x2.fn⟩
  · rw [if_pos b1] at hu; cases hu
  rw [if_neg b1] at hu
  by_cases b2 : (entryAt p y.fn (y.pc - 1)).isNone
  · rw [if_pos b2] at hu; cases hu
  rw [if_neg b2] at hu
  simp only [Option.some.injEq] at hu
  have b1' : 1 ≤ y.pc ∧ y.pc ≤ (p[y.fn.toNat]!).code.length := by
    rw [← btw_iff]
    cases hb : btw y.pc 1 (p[y.fn.toNat]!).code.length with
    | true => rfl
    | false => exact absurd (.inl hb) b1
  have hop : (p[y.fn.toNat]!).code[(y.pc - 1).toNat]! = ⟨12, x2.fn⟩ := by
    by_cases hq : (p[y.fn.toNat]!).code[(y.pc - 1).toNat]! = ⟨12, x2.fn⟩
    · exact hq
    · exact absurd (.inr hq) b1
  obtain ⟨s0, hs0⟩ : ∃ s0, entryAt p y.fn (y.pc - 1) = some s0 := by
    cases he : entryAt p y.fn (y.pc - 1) with
    | none => rw [he] at b2; exact absurd rfl b2
    | some s0 => exact ⟨s0, rfl⟩
  obtain ⟨hp, hr, hfun, st, hst, hsol⟩ := fits_st hfit hw2.fn
  obtain ⟨_, hg⟩ := (entryAt_iff hst).1 hs0
  obtain ⟨out, hout, hall⟩ := hsol.step _ _ hg
  rw [hop] at hout hall
  obtain ⟨t', ht', hst'⟩ := hall ((y.pc - 1).toNat + 1) (nexts_on (by simp) (by simp))
  have hent : entryAt p y.fn y.pc = some t' := (entryAt_iff hst).2 ⟨by omega, by rw [show y.pc.toNat = (y.pc - 1).toNat + 1 by omega]; exact ht'⟩
  obtain ⟨tk, lv, q1, q2, q3, rfl, q4⟩ := tryOp_some hout
  have q5 : lv = if 0 < (p[x2.fn.toNat]!).result then [(p[x2.fn.toNat]!).result] else [] := by
    unfold takeLeave at q1
    rw [if_neg (by simp), if_neg (by simp), if_neg (by simp), if_pos rfl] at q1
    exact (some_pair q1).2
  rw [hent, Option.getD_some] at hu
  by_cases hres : 0 < (p[x2.fn.toNat]!).result
  · rw [if_pos hres, hd, top_facts.1, top_facts.2]
    rw [if_pos hres] at hu q5 e1
    rw [q5] at hst'
    obtain ⟨v, z, rfl, hv, hz2⟩ := standsAll_snoc hst'
    rw [List.dropLast_concat] at hu
    have hval : asT x2.stack[x2.stack.length - 1]! (p[x2.fn.toNat]!).result = true := by
      have := H.val (i := 0) (by rw [e1]; simp)
      rw [e1] at this; simpa using this
    have hin : x2.stack[x2.stack.length - 1]! ∈ x2.stack := by
      have := H.inval (i := 0) (by rw [e1]; simp)
      rw [e1] at this; simpa using this
    refine ⟨h.status, h.trap1, h.trap0, h.nblocks, h.cells, h.bints, h.ninp, h.nout, h.inps, h.outs, by rw [hm] at hn; simp at hn ⊢; omega, by simp [hs], .inr ⟨k, { y with stack := y.stack ++ [x2.stack[x2.stack.length - 1]!] }, rfl, hw1, ⟨hw2.fn, hw2.loc, hw2.lvals, fun w hw => ?_, ⟨v ++ [z], hent, ?_⟩⟩, ?_⟩, fun c => by simp only at c; omega⟩
    · rcases List.mem_append.1 hw with hw | hw
      · exact hw2.svals w hw
      · simp only [List.mem_singleton] at hw; subst hw; exact hx.svals _ hin
    · simp only; rw [hu]; exact asAll_append hys (as1 (asT_stands hval hz2))
    · rw [hm] at hz
      cases k with
      | nil => simpa using hz
      | cons a k => simpa using hz
  · rw [if_neg hres, hd]
    rw [if_neg hres] at hu
    refine ⟨h.status, h.trap1, h.trap0, h.nblocks, h.cells, h.bints, h.ninp, h.nout, h.inps, h.outs, by rw [hm] at hn; simp at hn ⊢; omega, by simp [hs], .inr ⟨k, y, rfl, hw1, ⟨hw2.fn, hw2.loc, hw2.lvals, hw2.svals, ⟨t', hent, by rw [hu]; exact hys⟩⟩, ?_⟩, fun c => by simp only at c; omega⟩
    rw [hm] at hz
    cases k with
    | nil => simpa using hz
    | cons a k => simpa using hz
end Mz

/- A step of a right machine is a right machine; no program is in sight here. -/
namespace Mz

theorem RightS.setLocal {p : List Fun} {m : Mach} {l : List Frm} {x : Frm} {o : Op} {t take leave : List Int} (h : RightS p m) (hs : m.status = 0) (hm : m.frames = l ++ [x]) (H : Here p x o t take leave) (hx : FrmOk p m.blocks.length x (entryAt p x.fn x.pc)) (c : o.code = 9) :
    RightS p (setTop m { x with stack := x.stack.take (x.stack.length - 1), locals := x.locals.set o.a.toNat x.stack[x.stack.length - 1]!, pc := x.pc + 1 }) := by
  obtain ⟨e1, e2⟩ := plain_at H (by omega) (a := [(p[x.fn.toNat]!).locals[o.a.toNat]!]) (b := []) (by rw [c]; simp [plainOf])
  have hon := H.on (by omega) (by omega)
  have hl := H.ok.load (.inr c)
  have hv := H.val (i := 0) (by rw [e1]; simp)
  have hin := H.inval (i := 0) (by rw [e1]; simp)
  rw [e1] at hv hin
  simp only [List.length_singleton, Nat.add_zero] at hv hin
  refine h.go (m' := setTop m { x with stack := x.stack.take (x.stack.length - 1), locals := x.locals.set o.a.toNat x.stack[x.stack.length - 1]!, pc := x.pc + 1 }) hm H hx [] 1 (x.pc + 1) (x.locals.set o.a.toNat x.stack[x.stack.length - 1]!) (by simp [setTop]) (Nat.le_refl _) (by rw [e2]; rfl) (fun v hv => by simp at hv) (by rw [e1]; rfl) hon.1 hon.2 (asAll_set hx.loc (by omega) (by simpa using hv)) (fun v hv => ?_) hs (h.trap0 (by omega)) ⟨h.nblocks, h.cells, h.bints⟩ ⟨h.ninp, h.inps⟩ ⟨h.nout, h.outs⟩
  rcases mem_set_or hv with hv | rfl
  · exact hx.lvals v hv
  · exact hx.svals _ hin

theorem do_right {p : List Fun} {m : Mach} {l : List Frm} {x : Frm} {o : Op} {t take leave : List Int} (hfit : checkFits p = 0) (h : RightS p m) (hs : m.status ≤ 1) (hw : m.status = 1 → o.code = 21) (ho : opAt p m = o) (hm : m.frames = l ++ [x]) (H : Here p x o t take leave) (hx : FrmOk p m.blocks.length x (entryAt p x.fn x.pc)) :
    RightS p (doOp p m x o) := by
  have hst := h.status
  have his := H.ok.is
  have hpc := H.pc
  have hsl := H.slen
  have hlen := H.len
  by_cases c21 : o.code = 21
  · unfold doOp; simp only
    repeat rw [if_neg (by omega)]
    rw [if_pos c21]
    by_cases hi : m.inp = []
    · rw [if_pos hi]
      refine ⟨by simp, fun c => by simp at c, fun _ => h.trap0 (by omega), h.nblocks, h.cells, h.bints, h.ninp, h.nout, h.inps, h.outs, h.nframes, ?_, h.frames, fun _ => ⟨hi, by rw [← c21, ← ho]; rfl⟩⟩
      simp only; rw [hm]; simp
    · rw [if_neg hi]
      obtain ⟨e1, e2⟩ := plain_at H (by omega) (a := []) (b := [1]) (by rw [c21]; simp [plainOf])
      have hon := H.on (by omega) (by omega)
      have hni := h.ninp
      exact h.go (m' := { setTop m { x with stack := x.stack.take (x.stack.length - 0) ++ [num (m.inp[0]!)], pc := x.pc + 1 } with inp := m.inp.tail, status := 0 }) hm H hx [num (m.inp[0]!)] 0 (x.pc + 1) x.locals rfl (Nat.le_refl _) (by rw [e2]; exact as1 (num_as _)) (fun v hv => by simp only [List.mem_singleton] at hv; subst hv; exact num_ok _ _) (by rw [e1]; rfl) hon.1 hon.2 hx.loc hx.lvals rfl (h.trap0 (by omega)) ⟨h.nblocks, h.cells, h.bints⟩ ⟨by simp; omega, fun n hn => h.inps n (List.mem_of_mem_tail hn)⟩ ⟨h.nout, h.outs⟩
  have hs0 : m.status = 0 := by
    by_cases c : m.status = 1
    · exact absurd (hw c) c21
    · omega
  -- an op that pushes numbers
  have nums : ∀ (k n : Int), ∀ v ∈ [num n], valOk m.blocks.length v = true := fun _ n v hv => by simp only [List.mem_singleton] at hv; subst hv; exact num_ok _ _
  by_cases c1 : o.code = 1
  · obtain ⟨e1, e2⟩ := plain_at H (by omega) (a := []) (b := [1]) (by rw [c1]; simp [plainOf])
    have hon := H.on (by omega) (by omega)
    unfold doOp; simp only
    rw [if_pos c1]
    exact h.go' hs0 hm H hx _ 0 _ (by rw [e2]; exact as1 (num_as _)) (nums 0 _) (by rw [e1]; rfl) hon.1 hon.2
  by_cases c2 : o.code = 2
  · obtain ⟨e1, e2, e3⟩ := H.pop c2
    have hon := H.on (by omega) (by omega)
    unfold doOp; simp only
    repeat rw [if_neg (by omega)]
    rw [if_pos c2]
    exact h.go' hs0 hm H hx _ 1 _ (by rw [e2]; rfl) (fun v hv => by simp at hv) (by rw [e1]; exact drop_len e3) hon.1 hon.2
  by_cases c3 : o.code = 3
  · obtain ⟨e1, e2, e3⟩ := H.dup c3
    have hon := H.on (by omega) (by omega)
    have ha := H.asGet (i := t.length - 1) (by omega)
    unfold doOp; simp only
    repeat rw [if_neg (by omega)]
    rw [if_pos c3]
    rw [← hsl] at ha
    exact h.go' hs0 hm H hx _ 1 _ (by rw [e2, ← hsl]; exact as2 ha.1 ha.1) (fun v hv => by simp only [List.mem_cons, List.not_mem_nil, or_false, or_self] at hv; subst hv; exact hx.svals _ ha.2) (by rw [e1]; exact drop_len e3) hon.1 hon.2
  by_cases c4 : o.code = 4
  · obtain ⟨e1, e2, e3⟩ := H.swap c4
    have hon := H.on (by omega) (by omega)
    have ha := H.asGet (i := t.length - 1) (by omega)
    have hb := H.asGet (i := t.length - 2) (by omega)
    unfold doOp; simp only
    repeat rw [if_neg (by omega)]
    rw [if_pos c4]
    rw [← hsl] at ha hb
    refine h.go' hs0 hm H hx _ 2 _ (by rw [e2, ← hsl]; exact as2 ha.1 hb.1) (fun v hv => ?_) (by rw [e1]; exact drop_len e3) hon.1 hon.2
    simp only [List.mem_cons, List.not_mem_nil, or_false] at hv
    rcases hv with rfl | rfl
    · exact hx.svals _ ha.2
    · exact hx.svals _ hb.2
  by_cases c5 : o.code = 5 ∨ o.code = 6 ∨ o.code = 7
  · obtain ⟨e1, e2⟩ := plain_at H (by omega) (a := [1, 1]) (b := [1]) (by unfold plainOf; rw [if_neg (by omega), if_pos c5])
    have hon := H.on (by omega) (by omega)
    unfold doOp; simp only
    repeat rw [if_neg (by omega)]
    rcases c5 with c | c | c
    · rw [if_pos c]; exact h.go' hs0 hm H hx _ 2 _ (by rw [e2]; exact as1 (num_as _)) (nums 0 _) (by rw [e1]; rfl) hon.1 hon.2
    · rw [if_neg (by omega), if_pos c]; exact h.go' hs0 hm H hx _ 2 _ (by rw [e2]; exact as1 (num_as _)) (nums 0 _) (by rw [e1]; rfl) hon.1 hon.2
    · rw [if_neg (by omega), if_neg (by omega), if_pos c]; exact h.go' hs0 hm H hx _ 2 _ (by rw [e2]; exact as1 (num_as _)) (nums 0 _) (by rw [e1]; rfl) hon.1 hon.2
  by_cases c8 : o.code = 8
  · obtain ⟨e1, e2⟩ := plain_at H (by omega) (a := []) (b := [(p[x.fn.toNat]!).locals[o.a.toNat]!]) (by rw [c8]; simp [plainOf])
    have hon := H.on (by omega) (by omega)
    have hl := H.ok.load (.inl c8)
    have hll := asAll_len hx.loc
    unfold doOp; simp only
    repeat rw [if_neg (by omega)]
    rw [if_pos c8]
    exact h.go' hs0 hm H hx _ 0 _ (by rw [e2]; exact as1 (asAll_get hx.loc (by omega))) (fun v hv => by simp only [List.mem_singleton] at hv; subst hv; exact hx.lvals _ (getElem!_mem (by omega))) (by rw [e1]; rfl) hon.1 hon.2
  by_cases c9 : o.code = 9
  · unfold doOp; simp only
    repeat rw [if_neg (by omega)]
    rw [if_pos c9]
    exact h.setLocal hs0 hm H hx c9
  by_cases c10 : o.code = 10
  · obtain ⟨e1, e2⟩ := plain_at H (by omega) (a := []) (b := []) (by rw [c10]; simp [plainOf])
    have hj := H.ok.jump (.inl c10)
    unfold doOp; simp only
    repeat rw [if_neg (by omega)]
    rw [if_pos c10]
    have := h.go' hs0 hm H hx [] 0 o.a (by rw [e2]; rfl) (fun v hv => by simp at hv) (by rw [e1]; rfl) hj.1 (nexts_jump (.inl c10))
    simpa using this
  by_cases c11 : o.code = 11
  · obtain ⟨e1, e2⟩ := plain_at H (by omega) (a := [1]) (b := []) (by rw [c11]; simp [plainOf])
    have hj := H.ok.jump (.inr c11)
    have hon := H.on (by omega) (by omega)
    unfold doOp; simp only
    repeat rw [if_neg (by omega)]
    rw [if_pos c11]
    by_cases hz : (x.stack[x.stack.length - 1]!).n = 0
    · rw [if_pos hz]
      have := h.go' hs0 hm H hx [] 1 o.a (by rw [e2]; rfl) (fun v hv => by simp at hv) (by rw [e1]; rfl) hj.1 (nexts_jump (.inr c11))
      simpa using this
    · rw [if_neg hz]
      have := h.go' hs0 hm H hx [] 1 (x.pc + 1) (by rw [e2]; rfl) (fun v hv => by simp at hv) (by rw [e1]; rfl) hon.1 hon.2
      simpa using this
  by_cases c12 : o.code = 12
  · unfold doOp; simp only
    repeat rw [if_neg (by omega)]
    rw [if_pos c12]
    by_cases h6 : m.frames.length = 6
    · rw [if_pos h6]; exact h.trapped hs (by omega)
    · rw [if_neg h6]; exact h.call hfit hs0 hm H hx c12 h6
  by_cases c13 : o.code = 13
  · unfold doOp; simp only
    repeat rw [if_neg (by omega)]
    rw [if_pos c13]
    exact h.ret hfit hs0 hm H hx c13
  by_cases c14 : o.code = 14
  · obtain ⟨e1, e2⟩ := plain_at H (by omega) (a := [1]) (b := [2]) (by rw [c14]; simp [plainOf])
    have hon := H.on (by omega) (by omega)
    unfold doOp; simp only
    repeat rw [if_neg (by omega)]
    rw [if_pos c14]
    by_cases ht : (x.stack[x.stack.length - 1]!).n < 0 ∨ m.blocks.length = 8 ∨ 40 < (cellsOf m.blocks : Int) + (x.stack[x.stack.length - 1]!).n
    · rw [if_pos ht]; exact h.trapped hs (by omega)
    · rw [if_neg ht]
      have hnb := h.nblocks
      refine h.go (m' := { setTop m { x with stack := x.stack.take (x.stack.length - 1) ++ [⟨true, m.blocks.length + 1⟩], pc := x.pc + 1 } with blocks := m.blocks ++ [List.replicate (x.stack[x.stack.length - 1]!).n.toNat 0] }) hm H hx [⟨true, m.blocks.length + 1⟩] 1 (x.pc + 1) x.locals rfl (by simp) (by rw [e2]; rfl) (fun v hv => ?_) (by rw [e1]; rfl) hon.1 hon.2 hx.loc (fun v hv => valOk_mono (hx.lvals v hv) (by simp)) hs0 (h.trap0 (by omega)) ⟨by simp; omega, ?_, fun b hb n hn => ?_⟩ ⟨h.ninp, h.inps⟩ ⟨h.nout, h.outs⟩
      · simp only [List.mem_singleton] at hv; subst hv
        unfold valOk; simp only [if_true, List.length_append, List.length_singleton]; rw [btw_iff]; omega
      · simp only [cellsOf_append, cellsOf, List.length_replicate]; omega
      · rcases List.mem_append.1 hb with hb | hb
        · exact h.bints b hb n hn
        · simp only [List.mem_singleton] at hb; subst hb
          have := (List.mem_replicate.1 hn).2; subst this; decide
  by_cases c15 : o.code = 15
  · obtain ⟨e1, e2⟩ := plain_at H (by omega) (a := [2, 1]) (b := [1]) (by rw [c15]; simp [plainOf])
    have hon := H.on (by omega) (by omega)
    unfold doOp; simp only
    repeat rw [if_neg (by omega)]
    rw [if_pos c15]
    by_cases ht : (x.stack[x.stack.length - 2]!).n = 0
    · rw [if_pos ht]; exact h.trapped hs (by omega)
    rw [if_neg ht]
    by_cases ht2 : btw (x.stack[x.stack.length - 1]!).n 0 ((m.blocks[((x.stack[x.stack.length - 2]!).n - 1).toNat]!).length - 1) = false
    · rw [if_pos ht2]; exact h.trapped hs (by omega)
    rw [if_neg ht2]
    exact h.go' hs0 hm H hx _ 2 _ (by rw [e2]; exact as1 (num_as _)) (nums 0 _) (by rw [e1]; rfl) hon.1 hon.2
  by_cases c16 : o.code = 16
  · obtain ⟨e1, e2⟩ := plain_at H (by omega) (a := [2, 1, 1]) (b := []) (by rw [c16]; simp [plainOf])
    have hon := H.on (by omega) (by omega)
    unfold doOp; simp only
    repeat rw [if_neg (by omega)]
    rw [if_pos c16]
    by_cases ht : (x.stack[x.stack.length - 3]!).n = 0
    · rw [if_pos ht]; exact h.trapped hs (by omega)
    rw [if_neg ht]
    by_cases ht2 : btw (x.stack[x.stack.length - 2]!).n 0 ((m.blocks[((x.stack[x.stack.length - 3]!).n - 1).toNat]!).length - 1) = false
    · rw [if_pos ht2]; exact h.trapped hs (by omega)
    rw [if_neg ht2]
    have hl3 : 3 ≤ t.length := by rw [e1] at hlen; simpa using hlen
    have hva := H.val (i := 2) (by rw [e1]; simp)
    have hina := H.inval (i := 2) (by rw [e1]; simp)
    rw [e1] at hva hina
    simp only [List.length_cons, List.length_nil] at hva hina
    rw [show x.stack.length - (0 + 1 + 1 + 1) + 2 = x.stack.length - 1 by omega] at hva hina
    have hai : isInt (x.stack[x.stack.length - 1]!).n = true := by
      have h1 := hx.svals _ hina
      have h2 := as_num hva
      unfold valOk at h1; rw [h2] at h1; simpa using h1
    refine h.go (m' := { setTop m { x with stack := x.stack.take (x.stack.length - 3) ++ [], pc := x.pc + 1 } with blocks := m.blocks.set ((x.stack[x.stack.length - 3]!).n - 1).toNat ((m.blocks[((x.stack[x.stack.length - 3]!).n - 1).toNat]!).set (x.stack[x.stack.length - 2]!).n.toNat (x.stack[x.stack.length - 1]!).n) }) hm H hx [] 3 (x.pc + 1) x.locals rfl (by simp) (by rw [e2]; rfl) (fun v hv => by simp at hv) (by rw [e1]; rfl) hon.1 hon.2 hx.loc (fun v hv => valOk_mono (hx.lvals v hv) (by simp)) hs0 (h.trap0 (by omega)) ⟨by simp; exact h.nblocks, ?_, fun b hb n hn => ?_⟩ ⟨h.ninp, h.inps⟩ ⟨h.nout, h.outs⟩
    · simp only; rw [cellsOf_set (by simp)]; exact h.cells
    · simp only at hb
      rcases mem_set_or hb with hb | rfl
      · exact h.bints b hb n hn
      · rcases mem_set_or hn with hn | rfl
        · by_cases hi : ((x.stack[x.stack.length - 3]!).n - 1).toNat < m.blocks.length
          · exact h.bints _ (getElem!_mem hi) n hn
          · rw [List.getElem!_eq_getElem?_getD, List.getElem?_eq_none (by omega)] at hn
            exact absurd hn List.not_mem_nil
        · exact hai
  by_cases c17 : o.code = 17
  · obtain ⟨e1, e2⟩ := plain_at H (by omega) (a := [2]) (b := [1]) (by rw [c17]; simp [plainOf])
    have hon := H.on (by omega) (by omega)
    unfold doOp; simp only
    repeat rw [if_neg (by omega)]
    rw [if_pos c17]
    by_cases ht : (x.stack[x.stack.length - 1]!).n = 0
    · rw [if_pos ht]; exact h.trapped hs (by omega)
    · rw [if_neg ht]; exact h.go' hs0 hm H hx _ 1 _ (by rw [e2]; exact as1 (num_as _)) (nums 0 _) (by rw [e1]; rfl) hon.1 hon.2
  by_cases c18 : o.code = 18
  · obtain ⟨e1, e2⟩ := plain_at H (by omega) (a := []) (b := [3]) (by rw [c18]; simp [plainOf])
    have hon := H.on (by omega) (by omega)
    unfold doOp; simp only
    repeat rw [if_neg (by omega)]
    rw [if_pos c18]
    exact h.go' hs0 hm H hx _ 0 _ (by rw [e2]; rfl) (fun v hv => by simp only [List.mem_singleton] at hv; subst hv; unfold valOk; simp only [if_true]; rw [btw_iff]; omega) (by rw [e1]; rfl) hon.1 hon.2
  by_cases c19 : o.code = 19
  · obtain ⟨e1, e2⟩ := plain_at H (by omega) (a := [2]) (b := [1]) (by rw [c19]; simp [plainOf])
    have hon := H.on (by omega) (by omega)
    unfold doOp; simp only
    repeat rw [if_neg (by omega)]
    rw [if_pos c19]
    exact h.go' hs0 hm H hx _ 1 _ (by rw [e2]; exact as1 (num_as _)) (nums 0 _) (by rw [e1]; rfl) hon.1 hon.2
  · have c20 : o.code = 20 := by omega
    obtain ⟨e1, e2⟩ := plain_at H (by omega) (a := [1]) (b := []) (by rw [c20]; simp [plainOf])
    have hon := H.on (by omega) (by omega)
    have hva := H.val (i := 0) (by rw [e1]; simp)
    have hina := H.inval (i := 0) (by rw [e1]; simp)
    rw [e1] at hva hina
    simp only [List.length_singleton, Nat.add_zero] at hva hina
    have hai : isInt (x.stack[x.stack.length - 1]!).n = true := by
      have h1 := hx.svals _ hina
      have h2 := as_num hva
      unfold valOk at h1; rw [h2] at h1; simpa using h1
    unfold doOp; simp only
    repeat rw [if_neg (by omega)]
    rw [if_pos c20]
    by_cases ht : m.out.length = 10
    · rw [if_pos ht]; exact h.trapped hs (by omega)
    · rw [if_neg ht]
      have hno := h.nout
      refine h.go (m' := { setTop m { x with stack := x.stack.take (x.stack.length - 1) ++ [], pc := x.pc + 1 } with out := m.out ++ [(x.stack[x.stack.length - 1]!).n] }) hm H hx [] 1 (x.pc + 1) x.locals rfl (Nat.le_refl _) (by rw [e2]; rfl) (fun v hv => by simp at hv) (by rw [e1]; rfl) hon.1 hon.2 hx.loc hx.lvals hs0 (h.trap0 (by omega)) ⟨h.nblocks, h.cells, h.bints⟩ ⟨h.ninp, h.inps⟩ ⟨by simp; omega, fun n hn => ?_⟩
      simp only at hn
      rcases List.mem_append.1 hn with hn | hn
      · exact h.outs n hn
      · simp only [List.mem_singleton] at hn; subst hn; exact hai

/-- a machine that goes on has a frame, and that is at an op that fits -/
theorem right_top {p : List Fun} {m : Mach} (hfit : checkFits p = 0) (h : RightS p m) (hs : m.status ≤ 1) :
    ∃ l x t take leave, m.frames = l ++ [x] ∧ Here p x (opAt p m) t take leave ∧ FrmOk p m.blocks.length x (entryAt p x.fn x.pc) ∧ Waits p m.blocks.length l x.fn := by
  rcases h.frames with h0 | ⟨l, x, hm, hw, hx, _⟩
  · have := h.done.2 h0; omega
  · obtain ⟨t, take, leave, H⟩ := here_top hfit hx
    have ho : opAt p m = (p[x.fn.toNat]!).code[x.pc.toNat]! := by unfold opAt; rw [hm, top_facts.1]
    exact ⟨l, x, t, take, leave, hm, by rw [ho]; exact H, hx, hw⟩
theorem step_right {p : List Fun} {m : Mach} (hfit : checkFits p = 0) (h : RightS p m) : RightS p (stepOf p m) := by
  unfold stepOf
  by_cases c : 1 < m.status
  · rw [if_pos c]; exact h
  · rw [if_neg c]
    obtain ⟨l, x, t, take, leave, hm, H, hx, _⟩ := right_top hfit h (by omega)
    rw [show m.frames.getLast! = x by rw [hm, top_facts.1]]
    exact do_right hfit h (by omega) (fun c => (h.wait c).2) rfl hm H hx
theorem runSteps_right {p : List Fun} (hfit : checkFits p = 0) : ∀ (k : Nat) (m : Mach) (fuel : Int), RightS p m → RightS p (runSteps p k m fuel).1
  | 0, _, _, h => h
  | k + 1, m, fuel, h => by
    unfold runSteps
    by_cases c1 : 1 < m.status
    · rw [if_pos c1]; exact h
    rw [if_neg c1]
    by_cases c2 : fuel < costOf (opAt p m).code
    · rw [if_pos c2]; exact h
    rw [if_neg c2]
    by_cases c3 : (stepOf p m).status ≠ 0
    · rw [if_pos c3]; exact step_right hfit h
    · rw [if_neg c3]; exact runSteps_right hfit k _ _ (step_right hfit h)
theorem runOf_right {p : List Fun} (hfit : checkFits p = 0) {m : Mach} {fuel : Int} (h : RightS p m) : RightS p (runOf p m fuel).1 := runSteps_right hfit _ _ _ h
theorem start_right {p : List Fun} (hfit : checkFits p = 0) : RightS p (startOf p) := by
  obtain ⟨h1, h2⟩ := checkFits_zero hfit
  have hp := checkProg_zero h1
  have hf : (0 : Int) ≤ 0 ∧ (0 : Int) < p.length := ⟨Int.le_refl _, by have := List.length_pos_iff.2 hp.ne; omega⟩
  obtain ⟨_, hr, hfun, st, hst, hsol⟩ := fits_st hfit hf
  refine ⟨by simp [startOf], fun c => by simp [startOf] at c, fun _ => rfl, by simp [startOf], by simp [startOf, cellsOf], fun b hb => by simp [startOf] at hb, by simp [startOf], by simp [startOf], fun n hn => by simp [startOf] at hn, fun n hn => by simp [startOf] at hn, by simp [startOf], by simp [startOf], .inr ⟨[], ⟨0, 0, freshOf (p[0]!), []⟩, rfl, trivial, ⟨hf, freshOf_as hfun.locals, freshOf_ok, fun v hv => by simp at hv, ⟨[], (entryAt_iff hst).2 ⟨Int.le_refl _, hsol.zero⟩, rfl⟩⟩, rfl⟩, fun c => by simp [startOf] at c⟩
end Mz

/- Machines as bytes: what is written of one, and what bytes tell; one is the other's inverse; no program is in sight here. -/
namespace Mz

def byteOf (n : Int) : UInt8 := UInt8.ofNat (n % 256).toNat
def fourOf (n : Int) : List UInt8 := [byteOf (n / 16777216), byteOf (n / 65536), byteOf (n / 256), byteOf n]
def numbersB (l : List Int) : List UInt8 := byteOf l.length :: l.flatMap fourOf
def valB (v : Val) : List UInt8 := byteOf (if v.ref then 1 else 0) :: fourOf v.n
def valuesB (l : List Val) : List UInt8 := byteOf l.length :: l.flatMap valB
def frmB (x : Frm) : List UInt8 := byteOf x.fn :: byteOf x.pc :: (valuesB x.locals ++ valuesB x.stack)
def imageOf (m : Mach) : List UInt8 :=
  byteOf m.status :: byteOf m.trap :: (numbersB m.inp ++ numbersB m.out ++ (byteOf m.blocks.length :: m.blocks.flatMap numbersB) ++ (byteOf m.frames.length :: m.frames.flatMap frmB))

abbrev Rd (α : Type) := List UInt8 → Option (α × List UInt8)
def rdOne : Rd Int
  | [] => none
  | b :: s => some ((b.toNat : Int), s)
def numberOf (a b c d : UInt8) : Int := wrap (256 * (256 * (256 * (a.toNat : Int) + b.toNat) + c.toNat) + d.toNat)
def rdFour : Rd Int
  | a :: b :: c :: d :: s => some (numberOf a b c d, s)
  | _ => none
def rdMany {α : Type} (f : Rd α) : Nat → Rd (List α)
  | 0, s => some ([], s)
  | k + 1, s => match f s with
    | none => none
    | some (x, s) => match rdMany f k s with
      | none => none
      | some (l, s) => some (x :: l, s)
def rdSome {α : Type} (f : Rd α) : Rd (List α) := fun s => match rdOne s with
  | none => none
  | some (n, s) => rdMany f n.toNat s
def rdVal : Rd Val := fun s => match rdOne s with
  | none => none
  | some (n, s) => if 1 < n then none else match rdFour s with
    | none => none
    | some (k, s) => some (⟨n == 1, k⟩, s)
def rdFrm : Rd Frm := fun s => match rdOne s with
  | none => none
  | some (f, s) => match rdOne s with
    | none => none
    | some (pc, s) => match rdSome rdVal s with
      | none => none
      | some (l, s) => match rdSome rdVal s with
        | none => none
        | some (k, s) => some (⟨f, pc, l, k⟩, s)
def rdMach : Rd Mach := fun s => match rdOne s with
  | none => none
  | some (st, s) => match rdOne s with
    | none => none
    | some (tr, s) => match rdSome rdFour s with
      | none => none
      | some (i, s) => match rdSome rdFour s with
        | none => none
        | some (o, s) => match rdSome (rdSome rdFour) s with
          | none => none
          | some (b, s) => match rdSome rdFrm s with
            | none => none
            | some (f, s) => some (⟨f, b, i, o, st, tr⟩, s)
def machOf (s : List UInt8) : Option Mach := match rdMach s with
  | some (m, []) => some m
  | _ => none

/-- what was written is read -/
def Reads {α : Type} (f : Rd α) (g : α → List UInt8) (ok : α → Prop) : Prop := ∀ x, ok x → ∀ s, f (g x ++ s) = some (x, s)
/-- what is read was written -/
def Wrote {α : Type} (f : Rd α) (g : α → List UInt8) : Prop := ∀ s x r, f s = some (x, r) → s = g x ++ r

theorem byteOf_nat (b : UInt8) : byteOf (b.toNat : Int) = b := by
  unfold byteOf
  have h := b.toNat_lt
  rw [show ((b.toNat : Int) % 256).toNat = b.toNat by omega]
  exact UInt8.ofNat_toNat
theorem byteOf_toNat (n : Int) : ((byteOf n).toNat : Int) = n % 256 := by
  unfold byteOf
  rw [UInt8.toNat_ofNat_of_lt' (by have : (n % 256).toNat < 256 := by omega
                                   exact this)]
  omega
theorem one_reads : Reads rdOne (fun n => [byteOf n]) (fun n => 0 ≤ n ∧ n < 256) := by
  intro x hx s
  simp only [List.cons_append, List.nil_append, rdOne, byteOf_toNat]
  rw [show x % 256 = x by omega]
theorem one_wrote : Wrote rdOne (fun n => [byteOf n]) := by
  intro s x r h
  cases s with
  | nil => cases h
  | cons b s =>
    simp only [rdOne, Option.some.injEq, Prod.mk.injEq] at h
    obtain ⟨rfl, rfl⟩ := h
    show b :: s = [byteOf ((b.toNat : Nat) : Int)] ++ s
    rw [byteOf_nat]; rfl
theorem four_reads : Reads rdFour fourOf (fun n => isInt n = true) := by
  intro x hx s
  simp only [fourOf, List.cons_append, List.nil_append, rdFour, numberOf, byteOf_toNat]
  unfold isInt at hx
  rw [btw_iff] at hx
  have e : wrap (256 * (256 * (256 * (x / 16777216 % 256) + x / 65536 % 256) + x / 256 % 256) + x % 256) = x := by unfold wrap; omega
  rw [e]
theorem byteOf_congr {a b : Int} (h : a % 256 = b % 256) : byteOf a = byteOf b := by unfold byteOf; rw [h]
theorem byteOf_eq {n : Int} {b : UInt8} (h : n % 256 = b.toNat) : byteOf n = b := by
  have := b.toNat_lt
  have e := byteOf_congr (a := n) (b := (b.toNat : Int)) (by omega)
  rw [e, byteOf_nat]
theorem four_number (a b c d : UInt8) : fourOf (numberOf a b c d) = [a, b, c, d] := by
  have ha := a.toNat_lt
  have hb := b.toNat_lt
  have hc := c.toNat_lt
  have hd := d.toNat_lt
  unfold fourOf numberOf wrap
  rw [byteOf_eq (b := a) (by omega), byteOf_eq (b := b) (by omega), byteOf_eq (b := c) (by omega), byteOf_eq (b := d) (by omega)]
theorem four_wrote : Wrote rdFour fourOf := by
  intro s x r h
  match s, h with
  | a :: b :: c :: d :: s, h =>
    simp only [rdFour, Option.some.injEq, Prod.mk.injEq] at h
    obtain ⟨rfl, rfl⟩ := h
    rw [four_number]; rfl
theorem four_isInt {s r : List UInt8} {x : Int} (h : rdFour s = some (x, r)) : isInt x = true := by
  match s, h with
  | a :: b :: c :: d :: s, h =>
    simp only [rdFour, Option.some.injEq, Prod.mk.injEq] at h
    rw [← h.1]; exact isInt_wrap _
theorem many_reads {α : Type} {f : Rd α} {g : α → List UInt8} {ok : α → Prop} (h : Reads f g ok) : ∀ (l : List α), (∀ x ∈ l, ok x) → ∀ s, rdMany f l.length (l.flatMap g ++ s) = some (l, s)
  | [], _, s => rfl
  | x :: l, hl, s => by
    simp only [List.flatMap_cons, List.append_assoc, List.length_cons, rdMany]
    rw [h x (hl x (List.mem_cons_self ..))]
    simp only
    rw [many_reads h l (fun y hy => hl y (List.mem_cons_of_mem _ hy)) s]
theorem many_wrote {α : Type} {f : Rd α} {g : α → List UInt8} (h : Wrote f g) : ∀ (k : Nat) (s : List UInt8) (l : List α) (r : List UInt8), rdMany f k s = some (l, r) → s = l.flatMap g ++ r ∧ l.length = k
  | 0, s, l, r, e => by simp only [rdMany, Option.some.injEq, Prod.mk.injEq] at e; obtain ⟨rfl, rfl⟩ := e; exact ⟨rfl, rfl⟩
  | k + 1, s, l, r, e => by
    unfold rdMany at e
    split at e
    · cases e
    · next x s1 h1 =>
      split at e
      · cases e
      · next l1 s2 h2 =>
        simp only [Option.some.injEq, Prod.mk.injEq] at e
        obtain ⟨rfl, rfl⟩ := e
        have a := h _ _ _ h1
        have b := many_wrote h k _ _ _ h2
        exact ⟨by rw [a, b.1]; simp, by simp [b.2]⟩
def someB {α : Type} (g : α → List UInt8) (l : List α) : List UInt8 := byteOf l.length :: l.flatMap g
theorem some_reads {α : Type} {f : Rd α} {g : α → List UInt8} {ok : α → Prop} (h : Reads f g ok) : Reads (rdSome f) (someB g) (fun l => l.length < 256 ∧ ∀ x ∈ l, ok x) := by
  intro l hl s
  unfold rdSome someB
  have := one_reads (l.length : Int) (by omega) (l.flatMap g ++ s)
  simp only [List.cons_append, List.nil_append] at this ⊢
  rw [this]; simp only
  rw [show ((l.length : Int)).toNat = l.length by omega]
  exact many_reads h l hl.2 s
theorem some_wrote {α : Type} {f : Rd α} {g : α → List UInt8} (h : Wrote f g) : Wrote (rdSome f) (someB g) := by
  intro s l r e
  unfold rdSome at e
  split at e
  · cases e
  · next n s1 h1 =>
    have a := one_wrote _ _ _ h1
    obtain ⟨b, c⟩ := many_wrote h _ _ _ _ e
    unfold someB
    rw [a, b]
    have hn : 0 ≤ n := by
      match s, h1 with
      | x :: s, h1 => simp only [rdOne, Option.some.injEq, Prod.mk.injEq] at h1; omega
    rw [show (l.length : Int) = n by omega]; rfl
theorem val_reads : Reads rdVal valB (fun v => isInt v.n = true) := by
  intro v hv s
  unfold rdVal valB
  have := one_reads (if v.ref then 1 else 0) (by split <;> omega) (fourOf v.n ++ s)
  simp only [List.cons_append, List.nil_append] at this ⊢
  rw [this]; simp only
  rw [if_neg (by split <;> omega), four_reads v.n hv s]
  simp only
  obtain ⟨r, n⟩ := v
  cases r <;> rfl
theorem val_wrote : Wrote rdVal valB := by
  intro s v r e
  unfold rdVal at e
  split at e
  · cases e
  · next n s1 h1 =>
    split at e
    · cases e
    · next hn =>
      split at e
      · cases e
      · next k s2 h2 =>
        simp only [Option.some.injEq, Prod.mk.injEq] at e
        obtain ⟨rfl, rfl⟩ := e
        have a := one_wrote _ _ _ h1
        have b := four_wrote _ _ _ h2
        have h0 : 0 ≤ n := by
          match s, h1 with
          | x :: s, h1 => simp only [rdOne, Option.some.injEq, Prod.mk.injEq] at h1; omega
        rw [a, b]; unfold valB
        by_cases c : n = 1
        · subst c; rfl
        · obtain rfl : n = 0 := by omega
          rfl
def frmFits (x : Frm) : Prop := (0 ≤ x.fn ∧ x.fn < 256) ∧ (0 ≤ x.pc ∧ x.pc < 256) ∧ (x.locals.length < 256 ∧ ∀ v ∈ x.locals, isInt v.n = true) ∧ (x.stack.length < 256 ∧ ∀ v ∈ x.stack, isInt v.n = true)
theorem frm_reads : Reads rdFrm frmB frmFits := by
  intro x hx s
  obtain ⟨h1, h2, h3, h4⟩ := hx
  unfold rdFrm frmB
  have e1 := one_reads x.fn h1 (byteOf x.pc :: (valuesB x.locals ++ valuesB x.stack ++ s))
  have e2 := one_reads x.pc h2 (valuesB x.locals ++ valuesB x.stack ++ s)
  have e3 := some_reads val_reads x.locals h3 (valuesB x.stack ++ s)
  have e4 := some_reads val_reads x.stack h4 s
  simp only [List.cons_append, List.nil_append, List.append_assoc] at e1 e2 e3 e4 ⊢
  rw [e1]; simp only
  rw [e2]; simp only
  rw [show valuesB x.locals = someB valB x.locals from rfl, e3]; simp only
  rw [show valuesB x.stack = someB valB x.stack from rfl, e4]
theorem frm_wrote : Wrote rdFrm frmB := by
  intro s x r e
  unfold rdFrm at e
  split at e
  · cases e
  next f s1 h1 =>
  split at e
  · cases e
  next pc s2 h2 =>
  split at e
  · cases e
  next l s3 h3 =>
  split at e
  · cases e
  next k s4 h4 =>
  simp only [Option.some.injEq, Prod.mk.injEq] at e
  obtain ⟨rfl, rfl⟩ := e
  rw [one_wrote _ _ _ h1, one_wrote _ _ _ h2, some_wrote val_wrote _ _ _ h3, some_wrote val_wrote _ _ _ h4]
  unfold frmB
  simp only [List.cons_append, List.nil_append, List.append_assoc]; rfl
def machFits (m : Mach) : Prop := (0 ≤ m.status ∧ m.status < 256) ∧ (0 ≤ m.trap ∧ m.trap < 256) ∧ (m.inp.length < 256 ∧ ∀ n ∈ m.inp, isInt n = true) ∧ (m.out.length < 256 ∧ ∀ n ∈ m.out, isInt n = true) ∧
  (m.blocks.length < 256 ∧ ∀ b ∈ m.blocks, b.length < 256 ∧ ∀ n ∈ b, isInt n = true) ∧ (m.frames.length < 256 ∧ ∀ x ∈ m.frames, frmFits x)
theorem mach_reads : Reads rdMach imageOf machFits := by
  intro m hm s
  obtain ⟨h1, h2, h3, h4, h5, h6⟩ := hm
  unfold rdMach imageOf
  have e6 := some_reads frm_reads m.frames h6 s
  have e5 := some_reads (some_reads four_reads) m.blocks h5 (someB frmB m.frames ++ s)
  have e4 := some_reads four_reads m.out h4 (someB (someB fourOf) m.blocks ++ (someB frmB m.frames ++ s))
  have e3 := some_reads four_reads m.inp h3 (someB fourOf m.out ++ (someB (someB fourOf) m.blocks ++ (someB frmB m.frames ++ s)))
  have e2 := one_reads m.trap h2 (someB fourOf m.inp ++ (someB fourOf m.out ++ (someB (someB fourOf) m.blocks ++ (someB frmB m.frames ++ s))))
  have e1 := one_reads m.status h1 (byteOf m.trap :: (someB fourOf m.inp ++ (someB fourOf m.out ++ (someB (someB fourOf) m.blocks ++ (someB frmB m.frames ++ s)))))
  rw [show numbersB m.inp = someB fourOf m.inp from rfl, show numbersB m.out = someB fourOf m.out from rfl, show (byteOf m.blocks.length :: m.blocks.flatMap numbersB) = someB (someB fourOf) m.blocks from rfl, show (byteOf m.frames.length :: m.frames.flatMap frmB) = someB frmB m.frames from rfl]
  simp only [List.cons_append, List.nil_append, List.append_assoc] at e1 e2 ⊢
  rw [e1]; simp only
  rw [e2]; simp only
  rw [e3]; simp only
  rw [e4]; simp only
  rw [e5]; simp only
  rw [e6]
theorem mach_wrote : Wrote rdMach imageOf := by
  intro s x r e
  unfold rdMach at e
  split at e
  · cases e
  next f s1 h1 =>
  split at e
  · cases e
  next pc s2 h2 =>
  split at e
  · cases e
  next l s3 h3 =>
  split at e
  · cases e
  next k s4 h4 =>
  split at e
  · cases e
  next k s5 h5 =>
  split at e
  · cases e
  next k s6 h6 =>
  simp only [Option.some.injEq, Prod.mk.injEq] at e
  obtain ⟨rfl, rfl⟩ := e
  rw [one_wrote _ _ _ h1, one_wrote _ _ _ h2, some_wrote four_wrote _ _ _ h3, some_wrote four_wrote _ _ _ h4, some_wrote (some_wrote four_wrote) _ _ _ h5, some_wrote frm_wrote _ _ _ h6]
  unfold imageOf
  simp only [List.cons_append, List.nil_append, List.append_assoc]; rfl

theorem valOk_int {nb : Nat} {v : Val} (hn : nb ≤ 8) (h : valOk nb v = true) : isInt v.n = true := by
  unfold valOk at h
  by_cases c : v.ref = true
  · rw [if_pos c, btw_iff] at h; exact btw_iff.2 (by omega)
  · rw [if_neg c] at h; exact h
theorem cellsOf_mem {l : List (List Int)} {b : List Int} (h : b ∈ l) : b.length ≤ cellsOf l := by
  induction l with
  | nil => simp at h
  | cons a l ih =>
    simp only [cellsOf]
    rcases List.mem_cons.1 h with rfl | h
    · omega
    · have := ih h; omega
theorem entry_small {p : List Fun} {fn pc : Int} {t : List Int} (hfit : checkFits p = 0) (hf : 0 ≤ fn ∧ fn < p.length) (h : entryAt p fn pc = some t) : 0 ≤ pc ∧ pc < (p[fn.toNat]!).code.length := by
  obtain ⟨_, _, _, st, hst, hsol⟩ := fits_st hfit hf
  obtain ⟨h0, hg⟩ := (entryAt_iff hst).1 h
  refine ⟨h0, ?_⟩
  rw [← hsol.len]
  rcases Nat.lt_or_ge pc.toNat st.length with h | h
  · omega
  · rw [List.getElem?_eq_none h] at hg; cases hg
theorem roundsOf_mid {p : List Fun} {f : Fun} (hr : Ready p f) : ∀ (k : Nat) (st st' : St), Mid p f st → roundsOf p f k st = some st' → Mid p f st'
  | 0, st, st', h, e => by simp only [roundsOf, Option.some.injEq] at e; subst e; exact h
  | k + 1, st, st', h, e => by
    simp only [roundsOf] at e
    have h1 := roundFrom_mid hr f.code.length 0 st false h
    cases hx : roundFrom p f f.code.length 0 (st, false) with
    | none => rw [hx] at e; cases e
    | some y =>
      obtain ⟨st1, more⟩ := y
      rw [hx] at h1 e; simp only at h1 e
      cases more with
      | true => rw [if_pos rfl] at e; exact roundsOf_mid hr k st1 st' h1.1 e
      | false => simp only [Bool.false_eq_true, if_false, Option.some.injEq] at e; subst e; exact h1.1
theorem entry_len {p : List Fun} {fn pc : Int} {t : List Int} (hfit : checkFits p = 0) (hf : 0 ≤ fn ∧ fn < p.length) (h : entryAt p fn pc = some t) : t.length ≤ 8 := by
  obtain ⟨_, hr, _, st, hst, hsol⟩ := fits_st hfit hf
  obtain ⟨h0, hg⟩ := (entryAt_iff hst).1 h
  exact ((roundsOf_mid hr _ _ _ (mid_start hr.code) hst).ty _ _ hg).2
theorem want_len {p : List Fun} {x : Frm} {f : Int} {t : List Int} (hfit : checkFits p = 0) (hf : 0 ≤ x.fn ∧ x.fn < p.length) (h : wantMid p x f = some t) : (0 ≤ x.pc ∧ x.pc ≤ (p[x.fn.toNat]!).code.length) ∧ t.length ≤ 8 := by
  unfold wantMid at h
  by_cases b1 : btw x.pc 1 (p[x.fn.toNat]!).code.length = false ∨ (p[x.fn.toNat]!).code[(x.pc - 1).toNat]! ≠ ⟨12, f⟩
  · rw [if_pos b1] at h; cases h
  rw [if_neg b1] at h
  by_cases b2 : (entryAt p x.fn (x.pc - 1)).isNone
  · rw [if_pos b2] at h; cases h
  rw [if_neg b2] at h
  simp only [Option.some.injEq] at h
  have b1' : 1 ≤ x.pc ∧ x.pc ≤ (p[x.fn.toNat]!).code.length := by
    rw [← btw_iff]
    cases hb : btw x.pc 1 (p[x.fn.toNat]!).code.length with
    | true => rfl
    | false => exact absurd (.inl hb) b1
  have hl : ((entryAt p x.fn x.pc).getD []).length ≤ 8 := by
    cases he : entryAt p x.fn x.pc with
    | none => simp
    | some u => exact entry_len hfit hf he
  refine ⟨by omega, ?_⟩
  rw [← h]; split
  · simp only [List.length_dropLast]; omega
  · exact hl
theorem FrmOk.small {p : List Fun} {nb : Nat} {x : Frm} {w : Option (List Int)} (hfit : checkFits p = 0) (hnb : nb ≤ 8) (h : FrmOk p nb x w) (hw : ∀ t, w = some t → (0 ≤ x.pc ∧ x.pc ≤ (p[x.fn.toNat]!).code.length) ∧ t.length ≤ 8) : frmFits x := by
  obtain ⟨hp, _, hfun, _⟩ := fits_st hfit h.fn
  obtain ⟨t, ht, hs⟩ := h.want
  have h1 := hw t ht
  have h2 := asAll_len hs
  have h3 := asAll_len h.loc
  have := hp.len
  have := h.fn
  have := hfun.ncode
  have := hfun.nlocals
  exact ⟨by omega, by omega, ⟨by omega, fun v hv => valOk_int hnb (h.lvals v hv)⟩, ⟨by omega, fun v hv => valOk_int hnb (h.svals v hv)⟩⟩
theorem right_small {p : List Fun} {m : Mach} (hfit : checkFits p = 0) (h : RightS p m) : machFits m := by
  have := h.status
  have htr : 0 ≤ m.trap ∧ m.trap < 256 := by
    by_cases c : m.status = 3
    · have := h.trap1 c; omega
    · have := h.trap0 c; omega
  have := h.ninp
  have := h.nout
  have hnb := h.nblocks
  have hc := h.cells
  have := h.nframes
  refine ⟨by omega, htr, ⟨by omega, h.inps⟩, ⟨by omega, h.outs⟩, ⟨by omega, fun b hb => ⟨by have := cellsOf_mem hb; omega, h.bints b hb⟩⟩, ⟨by omega, fun x hx => ?_⟩⟩
  rcases h.frames with h0 | ⟨l, y, hm, hw, hy, _⟩
  · rw [h0] at hx; simp at hx
  · rw [hm] at hx
    rcases List.mem_append.1 hx with hx | hx
    · obtain ⟨i, hi, rfl⟩ := List.mem_iff_getElem.1 hx
      have := (waits_iff.1 hw) i hi
      rw [getElem!_pos l i hi] at this
      exact this.small hfit hnb fun t ht => want_len hfit this.fn ht
    · simp only [List.mem_singleton] at hx; subst hx
      exact hy.small hfit hnb fun t ht => ⟨by have := entry_small hfit hy.fn ht; omega, entry_len hfit hy.fn ht⟩
/-- what is written of a right machine tells it -/
theorem image_back {p : List Fun} {m : Mach} (hfit : checkFits p = 0) (h : RightS p m) : machOf (imageOf m) = some m := by
  unfold machOf
  have := mach_reads m (right_small hfit h) []
  rw [List.append_nil] at this
  rw [this]
/-- bytes that tell a machine are what is written of it -/
theorem image_of {s : List UInt8} {m : Mach} (h : machOf s = some m) : imageOf m = s := by
  unfold machOf at h
  split at h
  · next m' h1 =>
    simp only [Option.some.injEq] at h; subst h
    have := mach_wrote _ _ _ h1
    rw [this, List.append_nil]
  · cases h
end Mz
