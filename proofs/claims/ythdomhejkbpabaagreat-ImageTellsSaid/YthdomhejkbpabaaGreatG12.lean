/- Lemmas: Fit, Come, Inv, Step1, Step. -/
import Derived.Test.YthdomhejkbpabaaGreatG09
import Derived.Test.YthdomhejkbpabaaGreatG10
import Derived.Test.YthdomhejkbpabaaGreatG11
import Derived.Maps.AppendAt
import Derived.Test.YthdomhejkbpabaaGreatG05
set_option linter.unusedVariables false
set_option linter.unusedSimpArgs false
/- The fitter of a function as it lies in memory; a stack comes to a place. -/
namespace Go.Proofs.YthdomhejkbpabaaGreat
open Go.RowKit

/-- a list that is not empty lies in another block than tb -/
def Far (v : Value) (tb : Option Nat) : Prop := ∀ b o n c, v = .slice (some ⟨b, o, none⟩) n c → 0 < n → tb ≠ some b
theorem FInts.came {w w' : World} {lo : Nat} {v : Value} {l : List Int} (h : FInts w lo v l) (hsz : w.heap.size ≤ w'.heap.size)
    (hblk : ∀ b o n c, v = .slice (some ⟨b, o, none⟩) n c → 0 < n → b < w.heap.size → w'.heap[b]? = w.heap[b]?) : FInts w' lo v l := by
  obtain ⟨⟨ao, c, rfl, k2, k3, k4, k5, k6, k7⟩, hlo⟩ := h
  refine ⟨⟨ao, c, rfl, k2, k3, k4, k5, k6, fun hn => ?_⟩, hlo⟩
  obtain ⟨b, o, e, hlt, hc⟩ := k7 hn
  subst e
  refine ⟨b, o, rfl, by omega, fun j u hu => ?_⟩
  rw [← hc j u hu]
  exact World.cell?_of_block (hblk b o _ _ rfl hn hlt)
theorem FInts.lt {w : World} {lo : Nat} {l : List Int} {b o n c : Nat} (h : FInts w lo (.slice (some ⟨b, o, none⟩) n c) l) (hn : 0 < n) : lo ≤ b ∧ b < w.heap.size := by
  obtain ⟨⟨ao, c', e, k2, k3, k4, k5, k6, k7⟩, hlo⟩ := h
  refine ⟨hlo b o _ _ rfl, ?_⟩
  simp only [Value.slice.injEq] at e
  obtain ⟨rfl, rfl, rfl⟩ := e
  obtain ⟨b', o', e', hlt, _⟩ := k7 hn
  simp only [Option.some.injEq, Addr.mk.injEq, and_true] at e'
  omega
/-- one number behind numbers; where the new slice lies -/
theorem push_int_at {ops : Array Oper} {rest : List Oper} {o : Oper} {a : Act} {Q : Exit → Act → World → Prop} {s x : Operand}
    (hgd : o.guard = none) (ho : o.op = .call { callee := .builtin .append, args := #[s, x], argTypes := #[27, 27] })
    {base n : Nat} {v : Value} {xs : List Value} {k : Int} {wr : World} (hs : a.eval s = v) (hown : wr.ownsRow base 3 1 v n xs) (hx : a.eval x = .slice (some ⟨wr.heap.size, 0, none⟩) 1 1) (hn : n ≤ 1000000) (hb : base ≤ wr.heap.size)
    (h : ∀ v' w', w'.ownsRow base 3 1 v' (n + 1) (xs ++ [.int .i64 k]) → wr.grownBy w' v.ownBlock → (v'.ownBlock = v.ownBlock ∨ v'.ownBlock = some (wr.heap.size + 1)) → wpList Tryz.prog ops Q rest (a.put o.dst v') w') :
    wpList Tryz.prog ops Q (o :: rest) a (wr.alloc (.cells #[.int .i64 k] 3)) := by
  obtain ⟨i, hi0, hz0, hz1, hz2⟩ := info_parts info_int
  refine wpList_append_own_at _ hgd s x 27 ho base 3 i (.int .i64 0) 1 8 Tryz.underlying27 hi0 hz0 hz1 hz2 rfl (by decide) v n xs hs (hown.alloc _) ⟨wr.heap.size, 0, none⟩ 1 1 [.int .i64 k] hx rfl (cell_one_new wr (.int .i64 k) 3) (by intro u hu; simp at hu; subst hu; rfl) (by unfold maxLen; omega) (by omega) (by simp; omega) ?_
  intro v' w' hown' hg _ hat
  have hg' : wr.grownBy w' v.ownBlock := ⟨hg.os, hg.tape, hg.output, by have := hg.size; simp at this; omega, fun k hk hne => by
    rw [hg.block k (by simp; omega) hne]; exact Below.heap_alloc _ _ _ hk⟩
  exact h v' w' hown' hg' (by simpa using hat)

/-- what the fitter's own cells hold -/
def fitCells (fv lv cv : Value) (f : Mz.Fun) (n ab mb : Nat) (tv : Value) : Nat → Value
  | 0 => fv | 1 => .int .i64 f.params | 2 => lv | 3 => .int .i64 f.result | 4 => cv | 5 => .slice (some ⟨ab, 0, none⟩) n n | 6 => .slice (some ⟨mb, 0, none⟩) n n | _ => tv
structure Fit (w : World) (lo xb ab mb : Nat) (fv lv cv : Value) (f : Mz.Fun) (st : Mz.St) (todo : List Nat) (tv : Value) : Prop where
  xbl : xb < lo
  len : st.length = f.code.length
  row : w.rowIs xb 178 8 (fitCells fv lv cv f f.code.length ab mb tv)
  am : AtMet w lo ab mb 27 4 st
  own : w.ownsRow lo 3 1 tv todo.length (todo.map (fun (k : Nat) => Value.int .i64 k))
  far : ∀ i, i < st.length → ∀ v, w.cell? ⟨ab, i, none⟩ = some v → Far v tv.ownBlock

/-- all old blocks but the fitter's have stayed -/
structure Came (xb ab mb : Nat) (tb : Option Nat) (w w' : World) : Prop where
  os : w'.os = w.os
  tape : w'.tape = w.tape
  output : w'.output = w.output
  size : w.heap.size ≤ w'.heap.size
  block : ∀ k, k < w.heap.size → k ≠ xb → k ≠ ab → k ≠ mb → tb ≠ some k → w'.heap[k]? = w.heap[k]?
theorem Came.of_below {xb ab mb : Nat} {tb : Option Nat} {w w' : World} (h : Below w.heap.size w w') : Came xb ab mb tb w w' := ⟨h.os, h.tape, h.output, h.size, fun k hk _ _ _ _ => h.block k hk⟩
theorem Came.below {xb ab mb B : Nat} {tb : Option Nat} {w w' : World} (h : Came xb ab mb tb w w') (hB : B ≤ w.heap.size) (h1 : B ≤ xb) (h2 : B ≤ ab) (h3 : B ≤ mb) (h4 : ∀ k, tb = some k → B ≤ k) : Below B w w' :=
  ⟨h.os, h.tape, h.output, h.size, fun k hk => h.block k (by omega) (by omega) (by omega) (by omega) (fun e => by have := h4 k e; omega)⟩

/-- the fitter stays where memory below the heap's end stays -/
theorem Fit.frame {w w' : World} {lo xb ab mb : Nat} {fv lv cv : Value} {f : Mz.Fun} {st : Mz.St} {todo : List Nat} {tv : Value} (h : Fit w lo xb ab mb fv lv cv f st todo tv) (hb : Below w.heap.size w w') : Fit w' lo xb ab mb fv lv cv f st todo tv := by
  obtain ⟨h1, h2, h3, h4, h5, h6⟩ := h
  refine ⟨h1, h2, h3.of_block (hb.block _ h3.lt), h4.frame hb, owns_of_block h5 fun g hg => hb.block _ (h5.lt g hg).2, fun i hi v hv => ?_⟩
  refine h6 i hi v ?_
  rw [← hv]
  exact (World.cell?_of_block (hb.block ab (by have := h4.abl; have := h4.size; omega))).symm

/-- a stack laid at a place, the place laid behind those to do -/
theorem Fit.laid {w w2 w3 : World} {lo xb ab mb pc : Nat} {fv lv cv : Value} {f : Mz.Fun} {st : Mz.St} {todo : List Nat} {tv tv' v : Value} {l : List Int} (h : Fit w lo xb ab mb fv lv cv f st todo tv) (hpc : pc < st.length)
    (hv : FInts w lo v l) (hfar : Far v tv.ownBlock) (hw2 : w2 = ((w.setCell ⟨ab, pc, none⟩ v).setCell ⟨mb, pc, none⟩ (.bool true)).drew)
    (hown : w3.ownsRow lo 3 1 tv' (todo.length + 1) (todo.map (fun (k : Nat) => Value.int .i64 k) ++ [.int .i64 pc])) (hg : w2.grownBy w3 tv.ownBlock) (hat : tv'.ownBlock = tv.ownBlock ∨ tv'.ownBlock = some (w2.heap.size + 1)) :
    Fit (w3.setCell ⟨xb, 7, none⟩ tv') lo xb ab mb fv lv cv f (st.set pc (some l)) (todo ++ [pc]) tv' ∧ Came xb ab mb tv.ownBlock w (w3.setCell ⟨xb, 7, none⟩ tv') ∧ (tv'.ownBlock = tv.ownBlock ∨ ∃ g, w.heap.size ≤ g ∧ tv'.ownBlock = some g) := by
  obtain ⟨h1, h2, h3, h4, h5, h6⟩ := h
  have hz2 : w2.heap.size = w.heap.size := by subst hw2; simp [World.setCell]
  have k1 := h4.abl
  have k2 := h4.mbl
  have k3 := h4.size
  have k4 := h4.ne
  obtain ⟨g, hrow, _⟩ := h4.at'
  have tbx : tv.ownBlock ≠ some xb := owns_ne h3 h5 (by decide)
  have tba : tv.ownBlock ≠ some ab := owns_ne hrow h5 (by decide)
  have tbm : tv.ownBlock ≠ some mb := owns_ne h4.met h5 (by decide)
  have xa : xb ≠ ab := by
    rintro rfl
    obtain ⟨c, hb, _⟩ := h3
    obtain ⟨c', hb', _⟩ := hrow
    rw [hb] at hb'
    simp at hb'
  have xm : xb ≠ mb := by
    rintro rfl
    obtain ⟨c, hb, _⟩ := h3
    obtain ⟨c', hb', _⟩ := h4.met
    rw [hb] at hb'
    simp at hb'
  have hA2 : AtMet w2 lo ab mb 27 4 (st.set pc (some l)) := by subst hw2; exact (h4.new hpc hv).frame ((Below.refl _ _).drew)
  have hX2 : w2.rowIs xb 178 8 (fitCells fv lv cv f f.code.length ab mb tv) := by subst hw2; exact ((h3.setOther (by simpa using xa) _).setOther (by simpa using xm) _).drew
  have sx : w3.heap[xb]? = w2.heap[xb]? := hg.block xb (by rw [hz2]; exact h3.lt) (fun e => tbx e.symm)
  have sa : w3.heap[ab]? = w2.heap[ab]? := hg.block ab (by omega) (fun e => tba e.symm)
  have sm : w3.heap[mb]? = w2.heap[mb]? := hg.block mb (by omega) (fun e => tbm e.symm)
  have hX3 := hX2.of_block sx
  have farw2 : ∀ i, i < (st.set pc (some l)).length → ∀ u, w2.cell? ⟨ab, i, none⟩ = some u → Far u tv.ownBlock := by
    intro i hi u hu
    rw [List.length_set] at hi
    have e : w2.cell? ⟨ab, i, none⟩ = (w.setCell ⟨ab, pc, none⟩ v).cell? ⟨ab, i, none⟩ := by
      subst hw2
      show ((w.setCell ⟨ab, pc, none⟩ v).setCell ⟨mb, pc, none⟩ (.bool true)).cell? ⟨ab, i, none⟩ = _
      rw [World.cell?_setCell_other _ _ _ _ (by intro e; simp only [Addr.mk.injEq] at e; omega)]
    rw [e] at hu
    by_cases c : pc = i
    · subst c
      rw [World.cell?_setCell_same _ _ _ (hrow.cell hi)] at hu
      cases hu; exact hfar
    · rw [World.cell?_setCell_other _ _ _ _ (by simp [c])] at hu
      exact h6 i hi u hu
  have hl3 : w2.heap.size ≤ w3.heap.size := hg.size
  have hA3 : AtMet w3 lo ab mb 27 4 (st.set pc (some l)) := by
    obtain ⟨a1, a2, a3, a4, a5, g2, a6, a7⟩ := hA2
    refine ⟨a1, a2, a3, by omega, a5.of_block sm, g2, a6.of_block sa, fun i hi => (a7 i hi).came hl3 fun b o n c e hn hb => ?_⟩
    exact hg.block b hb (fun e' => farw2 i hi _ (a6.cell hi) b o n c e hn e'.symm)
  have hown3 : v.ownBlock = v.ownBlock := rfl
  have htx : tv'.ownBlock ≠ some xb := owns_ne hX3 hown (by decide)
  have hbs : Below (w3.heap.size) w3 w3 := Below.refl _ _
  refine ⟨⟨h1, by rw [List.length_set]; exact h2, (hX3.set 7 tv').congr (fun i hi => ?_), ?_, ?_, fun i hi u hu => ?_⟩, ⟨?_, ?_, ?_, ?_, fun k hk n1 n2 n3 n4 => ?_⟩, ?_⟩
  · by_cases c : i = 7
    · subst c; rfl
    · rw [if_neg c]
      have : i < 7 := by omega
      match i, this with
      | 0, _ => rfl
      | 1, _ => rfl
      | 2, _ => rfl
      | 3, _ => rfl
      | 4, _ => rfl
      | 5, _ => rfl
      | 6, _ => rfl
  · obtain ⟨a1, a2, a3, a4, a5, g2, a6, a7⟩ := hA3
    exact ⟨a1, a2, a3, by simpa [World.setCell] using a4, a5.setOther (by simpa using Ne.symm xm) _, g2, a6.setOther (by simpa using Ne.symm xa) _, fun i hi => (a7 i hi).setCell h1 _⟩
  · rw [List.length_append, List.map_append]
    exact owns_of_block hown fun g hg' => Below.heap_setCell _ _ _ _ (by intro e; exact htx (by rw [hg', e]))
  · rw [World.cell?_setCell_other _ _ _ _ (by intro e; simp only [Addr.mk.injEq] at e; omega), World.cell?_of_block (w := w2) sa] at hu
    intro b o n c e hn
    have h2f := farw2 i hi u hu b o n c e hn
    rcases hat with ha | ha
    · rw [ha]; exact h2f
    · rw [ha]
      intro e2
      rw [Option.some.injEq] at e2
      obtain ⟨a1, a2, a3, a4, a5, g2, a6, a7⟩ := hA2
      have hu2 := a6.cell hi
      rw [hu, Option.some.injEq] at hu2
      have := a7 i hi
      rw [← hu2, e] at this
      have := (this.lt hn).2
      omega
  · simp only [World.setCell]; rw [hg.os]; subst hw2; rfl
  · simp only [World.setCell]; rw [hg.tape]; subst hw2; rfl
  · simp only [World.setCell]; rw [hg.output]; subst hw2; rfl
  · simp [World.setCell]; omega
  · rw [Below.heap_setCell _ _ _ _ n1, hg.block k (by omega) (fun e => n4 e.symm)]
    subst hw2
    show ((w.setCell ⟨ab, pc, none⟩ v).setCell ⟨mb, pc, none⟩ (.bool true)).heap[k]? = _
    rw [Below.heap_setCell _ _ _ _ n3, Below.heap_setCell _ _ _ _ n2]
  · rcases hat with ha | ha
    · exact .inl ha
    · exact .inr ⟨_, by omega, ha⟩
end Go.Proofs.YthdomhejkbpabaaGreat

/- A stack comes to a place: the fitter's come, walked. -/
namespace Go.Proofs.YthdomhejkbpabaaGreat
open Go.RowKit

/-- between the stores and the append -/
theorem Fit.mid {w w2 : World} {lo xb ab mb pc : Nat} {fv lv cv : Value} {f : Mz.Fun} {st : Mz.St} {todo : List Nat} {tv v : Value} (h : Fit w lo xb ab mb fv lv cv f st todo tv) (hw2 : w2 = ((w.setCell ⟨ab, pc, none⟩ v).setCell ⟨mb, pc, none⟩ (.bool true)).drew) :
    w2.cell? ⟨xb, 7, none⟩ = some tv ∧ w2.ownsRow lo 3 1 tv todo.length (todo.map (fun (k : Nat) => Value.int .i64 k)) ∧ w2.heap.size = w.heap.size ∧ ∀ w3, w2.grownBy w3 tv.ownBlock → w3.cell? ⟨xb, 7, none⟩ = some tv ∧ w3.frozen? ⟨xb, 7, none⟩ = false := by
  obtain ⟨h1, h2, h3, h4, h5, h6⟩ := h
  have hz2 : w2.heap.size = w.heap.size := by subst hw2; simp [World.setCell]
  obtain ⟨g, hrow, _⟩ := h4.at'
  have tbx : tv.ownBlock ≠ some xb := owns_ne h3 h5 (by decide)
  have tba : tv.ownBlock ≠ some ab := owns_ne hrow h5 (by decide)
  have tbm : tv.ownBlock ≠ some mb := owns_ne h4.met h5 (by decide)
  have xa : xb ≠ ab := by
    rintro rfl
    obtain ⟨c, hb, _⟩ := h3
    obtain ⟨c', hb', _⟩ := hrow
    rw [hb] at hb'
    simp at hb'
  have xm : xb ≠ mb := by
    rintro rfl
    obtain ⟨c, hb, _⟩ := h3
    obtain ⟨c', hb', _⟩ := h4.met
    rw [hb] at hb'
    simp at hb'
  have hX2 : w2.rowIs xb 178 8 (fitCells fv lv cv f f.code.length ab mb tv) := by subst hw2; exact ((h3.setOther (by simpa using xa) _).setOther (by simpa using xm) _).drew
  refine ⟨hX2.cell (i := 7) (by decide), owns_of_block h5 fun g hg => ?_, hz2, fun w3 hg => ?_⟩
  · subst hw2
    show ((w.setCell ⟨ab, pc, none⟩ v).setCell ⟨mb, pc, none⟩ (.bool true)).heap[g]? = _
    rw [Below.heap_setCell _ _ _ _ (by intro e; exact tbm (by rw [hg, e])), Below.heap_setCell _ _ _ _ (by intro e; exact tba (by rw [hg, e]))]
  · have hX3 := hX2.of_block (hg.block xb (by rw [hz2]; exact h3.lt) (fun e => tbx e.symm))
    exact ⟨hX3.cell (i := 7) (by decide), hX3.frozen 7⟩

def CameTo (w : World) (lo xb ab mb : Nat) (fv lv cv : Value) (f : Mz.Fun) (st : Mz.St) (todo : List Nat) (tv : Value) (pc : Nat) (l : List Int) (e : Ending) (w' : World) : Prop :=
  Came xb ab mb tv.ownBlock w w' ∧ match Mz.come st pc l with
    | none => e = .returned (.bool false)
    | some (st', ch) => e = .returned (.bool true) ∧ ∃ tv', Fit w' lo xb ab mb fv lv cv f st' (if ch then todo ++ [pc] else todo) tv' ∧ (tv'.ownBlock = tv.ownBlock ∨ ∃ g, w.heap.size ≤ g ∧ tv'.ownBlock = some g)
theorem CameTo.none {w w' : World} {lo xb ab mb : Nat} {fv lv cv : Value} {f : Mz.Fun} {st : Mz.St} {todo : List Nat} {tv : Value} {pc : Nat} {l : List Int} {e : Ending} (h : Mz.come st pc l = none) (he : e = .returned (.bool false)) (hc : Came xb ab mb tv.ownBlock w w') : CameTo w lo xb ab mb fv lv cv f st todo tv pc l e w' := by
  refine ⟨hc, ?_⟩; rw [h]; exact he
theorem CameTo.some {w w' : World} {lo xb ab mb : Nat} {fv lv cv : Value} {f : Mz.Fun} {st st' : Mz.St} {ch : Bool} {todo : List Nat} {tv tv' : Value} {pc : Nat} {l : List Int} {e : Ending} (h : Mz.come st pc l = some (st', ch)) (he : e = .returned (.bool true)) (hc : Came xb ab mb tv.ownBlock w w')
    (hf : Fit w' lo xb ab mb fv lv cv f st' (if ch then todo ++ [pc] else todo) tv') (ht : tv'.ownBlock = tv.ownBlock ∨ ∃ g, w.heap.size ≤ g ∧ tv'.ownBlock = some g) : CameTo w lo xb ab mb fv lv cv f st todo tv pc l e w' := by
  refine ⟨hc, ?_⟩; rw [h]; exact ⟨he, tv', hf, ht⟩
theorem Came.trans {xb ab mb : Nat} {tb : Option Nat} {u v w : World} (h : Came xb ab mb tb u v) (k : Came xb ab mb tb v w) : Came xb ab mb tb u w :=
  ⟨k.os.trans h.os, k.tape.trans h.tape, k.output.trans h.output, Nat.le_trans h.size k.size, fun i hi n1 n2 n3 n4 => (k.block i (Nat.lt_of_lt_of_le hi h.size) n1 n2 n3 n4).trans (h.block i hi n1 n2 n3 n4)⟩

set_option maxHeartbeats 2000000 in
set_option maxRecDepth 100000 in
theorem come_any (w : World) (lo xb ab mb : Nat) (fv lv : Value) (co : Option Addr) (cc : Nat) (f : Mz.Fun) (st : Mz.St) (todo : List Nat) (tv : Value) (h : Fit w lo xb ab mb fv lv (.slice co f.code.length cc) f st todo tv) (pc : Nat) (hpc : pc ≤ f.code.length) (hn : f.code.length ≤ 40) (htd : todo.length ≤ 1000)
    (v : Value) (l : List Int) (hv : FInts w lo v l) (hfar : Far v tv.ownBlock) (hl : l.length ≤ 1000) (hst : ∀ i, i < st.length → ∀ t, nth st i = some t → t.length ≤ 1000) :
    Calls Tryz.prog 131 #[.pointer (some ⟨xb, 0, none⟩), .int .i64 pc, v] w (CameTo w lo xb ab mb fv lv (.slice co f.code.length cc) f st todo tv pc l) := by
  have x4 : w.cell? ⟨xb, 4, none⟩ = some (.slice co f.code.length cc) := h.row.cell (i := 4) (by decide)
  have x5 : w.cell? ⟨xb, 5, none⟩ = some (.slice (some ⟨ab, 0, none⟩) f.code.length f.code.length) := h.row.cell (i := 5) (by decide)
  have x6 : w.cell? ⟨xb, 6, none⟩ = some (.slice (some ⟨mb, 0, none⟩) f.code.length f.code.length) := h.row.cell (i := 6) (by decide)
  have HF := Lib.hid h
  have HV := Lib.hid hv
  have hlen := h.len
  have hsz := h.am.size
  have hlow := h.xbl
  clear h hv
  obtain ⟨vo, vc, rfl, _, _, _⟩ := HV.out.1.open
  obtain ⟨to', tc, rfl⟩ := owned_open HF.out.own
  by_cases hend : pc = f.code.length
  · have hend' : ((pc : Int) == (f.code.length : Int)) = true := by simp [hend]
    have HE : Hid (Mz.come st pc l = none) := come_end (by omega)
    clear hend
    go_enter Tryz.func131, Tryz.ntmps131
    go_wp2_with fail
    go_ret
    exact .none HE.out rfl (.of_below (Below.refl _ _))
  have hend' : ((pc : Int) == (f.code.length : Int)) = false := by rw [beq_eq_false_iff_ne]; omega
  have hlt : pc < f.code.length := by omega
  have hil : pc < st.length := by omega
  clear hend hpc
  obtain ⟨mc, av, ac, aF⟩ := HF.out.am.cells hil
  obtain ⟨fz1, fz2⟩ := HF.out.am.frozen pc
  have AF := Lib.hid aF
  have FAR := Lib.hid hfar
  have HST := Lib.hid hst
  clear aF hfar hst
  cases hs : nth st pc with
  | none =>
    rw [hs] at mc
    have HS := Lib.hid hs
    clear hs
    have abm := HF.out.am.ne
    have mc2 : (w.setCell ⟨ab, pc, none⟩ (.slice vo l.length vc)).cell? ⟨mb, pc, none⟩ = some (.bool (none : Option (List Int)).isSome) := by
      rw [World.cell?_setCell_other _ _ _ _ (by intro e; simp only [Addr.mk.injEq] at e; omega)]; exact mc
    go_enter Tryz.func131, Tryz.ntmps131
    go_wp2_with fail
    go_region
    obtain ⟨w2, hw2⟩ : ∃ w2, w2 = ((w.setCell ⟨ab, pc, none⟩ (.slice vo l.length vc)).setCell ⟨mb, pc, none⟩ (.bool true)).drew := ⟨_, rfl⟩
    rw [← hw2]
    obtain ⟨m1, m2, m3, m4⟩ := HF.out.mid hw2
    have ml : lo ≤ w2.heap.size := by omega
    clear m3
    have HW2 := Lib.hid hw2
    have M2 := Lib.hid m2
    have M4 := Lib.hid m4
    clear hw2 m2 m4 mc2 mc ac
    go_wp2_with (at_builtin; refine push_int_at rfl rfl rfl M2.out rfl (by omega) (by omega) ?_; intro tv' w3 hown3 hg3 hat3; obtain ⟨n1, n2⟩ := M4.out w3 hg3; obtain ⟨ta, tac, rfl⟩ := owned_open hown3)
    go_ret
    obtain ⟨r1, r2, r3⟩ := HF.out.laid hil HV.out FAR.out HW2.out hown3 hg3 hat3
    exact .some (come_new hil HS.out) rfl r2 r1 r3
  | some t =>
    rw [hs] at mc AF
    have HS := Lib.hid hs
    clear hs
    go_enter Tryz.func131, Tryz.ntmps131
    go_wp2_with fail
    refine (joined_any _ _ t l w.heap.size _ AF.out.1 HV.out.1 (Nat.le_refl _) (HST.out pc hil t HS.out)).mono ?_
    rintro e w4 ⟨⟨jv, rfl, hjv⟩, hb4⟩
    have hs4 := hb4.size
    have HF4 := Lib.hid (HF.out.frame hb4)
    have y5 : w4.cell? ⟨xb, 5, none⟩ = some (.slice (some ⟨ab, 0, none⟩) f.code.length f.code.length) := HF4.out.row.cell (i := 5) (by decide)
    have y6 : w4.cell? ⟨xb, 6, none⟩ = some (.slice (some ⟨mb, 0, none⟩) f.code.length f.code.length) := HF4.out.row.cell (i := 6) (by decide)
    have abl := HF.out.am.abl
    have ac4 := ((bcell hb4).1 ab pc (by omega)).trans ac
    have AF4 := Lib.hid (FInts.frame AF.out hb4)
    have CB := Lib.hid (Came.of_below (xb := xb) (ab := ab) (mb := mb) (tb := (Value.slice to' todo.length tc).ownBlock) hb4)
    clear hb4 x4 x5 x6 ac mc fz1 fz2
    cases hj : Mz.joinL t l with
    | none =>
      have HJ := Lib.hid hj
      clear hj hjv
      go_wp2_with fail
      go_ret
      exact .none (come_bad hil HS.out HJ.out) rfl CB.out
    | some j =>
      rw [hj] at hjv
      have HJ := Lib.hid hj
      clear hj
      obtain ⟨jo, jc, rfl, _, _, _⟩ := RInts.open (l := j) hjv.1
      have HJV : Hid (FInts w4 w.heap.size (.slice jo j.length jc) j) := hjv
      clear hjv
      go_wp2_with fail
      refine (equalInts_any _ _ j t w4.heap.size _ HJV.out.1 AF4.out.1 (Nat.le_refl _)).mono ?_
      rintro e w5 ⟨rfl, nn, rfl⟩
      have hb7 : Below w4.heap.size w4 (w4.drewN nn) := below_drewN _ _ _
      have HF5 := Lib.hid (HF4.out.frame hb7)
      have HJV5 := Lib.hid (FInts.frame HJV.out hb7)
      have CB5 := Lib.hid (CB.out.trans (Came.of_below hb7))
      have hs5 := hb7.size
      clear hb7 HF4 HJV CB y5 y6 ac4 AF4
      obtain ⟨w5, hw5⟩ : ∃ w5, w5 = w4.drewN nn := ⟨_, rfl⟩
      rw [← hw5] at HF5 HJV5 CB5 hs5 ⊢
      clear hw5
      by_cases hje : j = t
      · have hjd : decide (j = t) = true := by simp [hje]
        have HJE := Lib.hid hje
        clear hje
        go_wp2_with fail
        go_ret
        exact .some (come_same hil HS.out (by rw [HJ.out, HJE.out])) rfl CB5.out HF5.out (.inl rfl)
      · have hjd : decide (j = t) = false := by simp [hje]
        have HJE := Lib.hid hje
        clear hje
        have y5 : w5.cell? ⟨xb, 5, none⟩ = some (.slice (some ⟨ab, 0, none⟩) f.code.length f.code.length) := HF5.out.row.cell (i := 5) (by decide)
        have y6 : w5.cell? ⟨xb, 6, none⟩ = some (.slice (some ⟨mb, 0, none⟩) f.code.length f.code.length) := HF5.out.row.cell (i := 6) (by decide)
        obtain ⟨mc, av5, ac, _⟩ := HF5.out.am.cells hil
        obtain ⟨fz1, fz2⟩ := HF5.out.am.frozen pc
        have abm := HF5.out.am.ne
        have mc2 := mc
        rw [← World.cell?_setCell_other w5 ⟨ab, pc, none⟩ ⟨mb, pc, none⟩ (.slice jo j.length jc) (by intro e; simp only [Addr.mk.injEq] at e; omega)] at mc2
        go_wp2_with fail
        go_region
        obtain ⟨w2, hw2⟩ : ∃ w2, w2 = ((w5.setCell ⟨ab, pc, none⟩ (.slice jo j.length jc)).setCell ⟨mb, pc, none⟩ (.bool true)).drew := ⟨_, rfl⟩
        rw [← hw2]
        obtain ⟨m1, m2, m3, m4⟩ := HF5.out.mid hw2
        have ml : lo ≤ w2.heap.size := by omega
        clear m3
        have HW2 := Lib.hid hw2
        have M2 := Lib.hid m2
        have M4 := Lib.hid m4
        clear hw2 m2 m4 y5 y6 ac mc fz1 fz2 mc2
        go_wp2_with (at_builtin; refine push_int_at rfl rfl rfl M2.out rfl (by omega) (by omega) ?_; intro tv' w3 hown3 hg3 hat3; obtain ⟨n1, n2⟩ := M4.out w3 hg3; obtain ⟨ta, tac, rfl⟩ := owned_open hown3)
        go_ret
        have hjfar : Far (.slice jo j.length jc) (Value.slice to' todo.length tc).ownBlock := by
          intro b o n c e hn hb
          have h1 := HJV5.out.2 b o n c e
          have h2 := HF.out.own.lt b hb
          omega
        obtain ⟨r1, r2, r3⟩ := HF5.out.laid hil (HJV5.out.mono hsz) hjfar HW2.out hown3 hg3 hat3
        refine .some (come_join hil HS.out HJ.out HJE.out) rfl (CB5.out.trans r2) r1 ?_
        rcases r3 with r3 | ⟨g, hg, r3⟩
        · exact .inl r3
        · exact .inr ⟨g, by omega, r3⟩
end Go.Proofs.YthdomhejkbpabaaGreat

/- A function literal that writes, asked of each element in turn. -/
namespace Go.Proofs.YthdomhejkbpabaaGreat
open Go.RowKit

/-- each call hands on what holds, or stops -/
def Steps (k : FuncId) (cap : Array Value) (l : List Int) (I : Nat → World → Prop) (S : World → Prop) : Prop :=
  ∀ j, j < l.length → ∀ w1, I j w1 → Calls Tryz.prog k (#[.int .i64 (nth l j)] ++ cap) w1 fun e w2 => (e = .returned (.bool false) ∧ I (j + 1) w2) ∨ (e = .returned (.bool true) ∧ S w2)
def IndexRes (l : List Int) (I : Nat → World → Prop) (S : World → Prop) (e : Ending) (w' : World) : Prop :=
  (∃ j : Nat, e = .returned (.int .i64 j) ∧ S w') ∨ (e = .returned (.int .i64 (-1)) ∧ I l.length w')
set_option maxHeartbeats 400000 in
set_option maxRecDepth 10000 in
theorem indexFunc_inv (v : Value) (l : List Int) (k : FuncId) (cap : Array Value) (I : Nat → World → Prop) (S : World → Prop) (w : World) (h0 : I 0 w)
    (hr : ∀ j w1, I j w1 → RInts w1 w1.heap.size v l) (hk : Enters k) (hf : Steps k cap l I S) :
    Calls Tryz.prog 203 #[v, .func (.func k) #[] cap] w (IndexRes l I S) := by
  obtain ⟨ao, c, rfl, h1, h2, h3⟩ := (hr 0 w h0).open
  unfold maxLen at h2
  have HR := Lib.hid hr
  have HF := Lib.hid hf
  have H0 := Lib.hid h0
  clear hr hf h0
  go_enter Tryz.func203, Tryz.ntmps203
  go_wp2
  go_loopw [8] (fun i wr => ∃ k : Nat, k ≤ l.length ∧ i = .int .i64 k ∧ Hid (I k wr)) (fun i _ => l.length - (intOf i).toNat)
  case atStart => exact ⟨0, Nat.zero_le _, rfl, H0⟩
  case round =>
    obtain ⟨j, hj, rfl, hI⟩ := hrel
    clear H0
    by_cases hlt : j < l.length
    · have hrj := HR.out j wr hI.out
      obtain ⟨b, o, rfl, hbB, hc0⟩ := hrj.at hlt
      clear hrj
      have hke := hk
      unfold Enters at hke
      go_wp2_with fail
      refine (HF.out j hlt _ hI.out).mono ?_
      rintro e w2 (⟨rfl, hI2⟩ | ⟨rfl, hS⟩)
      · have HI2 := Lib.hid hI2
        clear hI2 hke hI
        go_wp2
        go_roundw
        case rel => exact ⟨j + 1, by omega, by go_num, HI2⟩
        case measure => simp [intOf]; omega
      · have HS := Lib.hid hS
        clear hS hke hI
        go_wp2
        go_ret
        exact .inl ⟨j, rfl, HS.out⟩
    · obtain rfl : j = l.length := by omega
      go_wp2
      go_ret
      exact .inr ⟨rfl, hI.out⟩
theorem containsFunc_inv (v : Value) (l : List Int) (k : FuncId) (cap : Array Value) (I : Nat → World → Prop) (S : World → Prop) (w : World) (h0 : I 0 w)
    (hr : ∀ j w1, I j w1 → RInts w1 w1.heap.size v l) (hk : Enters k) (hf : Steps k cap l I S) :
    Calls Tryz.prog 159 #[v, .func (.func k) #[] cap] w fun e w' => (e = .returned (.bool true) ∧ S w') ∨ (e = .returned (.bool false) ∧ I l.length w') := by
  go_enter Tryz.func159, Tryz.ntmps159
  go_wp2_with fail
  refine (indexFunc_inv v l k cap I S w h0 hr hk hf).mono ?_
  rintro e w' (⟨j, rfl, hS⟩ | ⟨rfl, hI⟩)
  · have HS := Lib.hid hS
    clear hS hf hr h0
    go_wp2_with fail
    go_ret
    exact .inl ⟨ret_bool (by simp), HS.out⟩
  · have HI := Lib.hid hI
    clear hI hf hr h0
    go_wp2_with fail
    go_ret
    exact .inr ⟨ret_bool (by simp), HI.out⟩
end Go.Proofs.YthdomhejkbpabaaGreat

/- The function literal in the fitter's step: a stack comes to each place in turn. -/
namespace Go.Proofs.YthdomhejkbpabaaGreat
open Go.RowKit

theorem comeW_none {s : List Int} {l : List Nat} {i : Nat} {st : Mz.St} {td : List Nat} (h : i < l.length) (hc : Mz.come st (nth l i) s = none) : Mz.comeW s (l.drop i) (st, td) = none := by
  rw [drop_nth h, Mz.comeW]; simp only; rw [hc]
theorem comeW_some {s : List Int} {l : List Nat} {i : Nat} {st st' : Mz.St} {td : List Nat} {c : Bool} (h : i < l.length) (hc : Mz.come st (nth l i) s = some (st', c)) : Mz.comeW s (l.drop i) (st, td) = Mz.comeW s (l.drop (i + 1)) (st', if c then td ++ [nth l i] else td) := by
  rw [drop_nth h, Mz.comeW]; simp only; rw [hc]
theorem come_good {n pc : Nat} {st st' : Mz.St} {s : List Int} {c : Bool} (h : Good n st) (hs : Mz.TyL s ∧ s.length ≤ 8) (hc : Mz.come st pc s = some (st', c)) : Good n st' := by
  unfold Mz.come at hc
  by_cases hto : pc < st.length
  · rw [nth_get? hto] at hc
    cases hx : nth st pc with
    | none =>
      rw [hx] at hc; simp only [Option.some.injEq, Prod.mk.injEq] at hc
      obtain ⟨rfl, _⟩ := hc
      exact h.set (by rw [← h.len]; exact hto) hs
    | some t =>
      rw [hx] at hc; simp only at hc
      cases hj : Mz.joinL t s with
      | none => rw [hj] at hc; cases hc
      | some j =>
        rw [hj] at hc; simp only at hc
        have ht := h.ty pc (by rw [← h.len]; exact hto) t hx
        split at hc
        · simp only [Option.some.injEq, Prod.mk.injEq] at hc
          obtain ⟨rfl, _⟩ := hc; exact h
        · simp only [Option.some.injEq, Prod.mk.injEq] at hc
          obtain ⟨rfl, _⟩ := hc
          exact h.set (by rw [← h.len]; exact hto) ⟨Mz.joinL_ty hj ht.1 hs.1, by rw [(Mz.joinL_len hj).1]; exact ht.2⟩
  · rw [List.getElem?_eq_none (by omega)] at hc; cases hc

/-- blocks from n to m stay -/
def Keeps (n m : Nat) (u v : World) : Prop := ∀ k, n ≤ k → k < m → v.heap[k]? = u.heap[k]?
structure StepI (lo0 lo xb ab mb n m : Nat) (fv lv cv : Value) (f : Mz.Fun) (out : List Int) (nx : List Nat) (Y : Option (Mz.St × List Nat)) (td0 : Nat) (W0 : World) (j : Nat) (w1 : World) : Prop where
  keeps : Keeps n m W0 w1
  size : m ≤ w1.heap.size
  below : Below lo0 W0 w1
  some : ∃ st todo tv, Mz.comeW out (nx.drop j) (st, todo) = Y ∧ Fit w1 lo xb ab mb fv lv cv f st todo tv ∧ Good f.code.length st ∧ todo.length ≤ td0 + j ∧ ∀ g, tv.ownBlock = some g → g < n ∨ m ≤ g
def StepS (lo0 : Nat) (Y : Option (Mz.St × List Nat)) (W0 w1 : World) : Prop := Y = none ∧ Below lo0 W0 w1

theorem Stk.keeps {u v : World} {n m sb : Nat} {l : List Int} {wr : Bool} (h : Stk u n sb l wr) (hk : Keeps n m u v) (hm : u.heap.size ≤ m) : Stk v n sb l wr := by
  obtain ⟨h1, v0, h2, h3⟩ := h
  refine ⟨h1, v0, h2.of_block (hk sb h1 (by have := h2.lt; omega)), owns_of_block h3 fun g hg => ?_⟩
  have := h3.lt g hg
  exact hk g this.1 (by omega)
theorem FInts.keeps {u v : World} {n m : Nat} {x : Value} {l : List Int} (h : FInts u n x l) (hk : Keeps n m u v) (hm : u.heap.size = m) (hs : m ≤ v.heap.size) : FInts v n x l :=
  h.came (by omega) fun b o k c e _ hb => hk b (h.2 b o k c e) (by omega)

set_option maxHeartbeats 2000000 in
set_option maxRecDepth 100000 in
theorem step1_any (lo0 lo xb ab mb n : Nat) (fv lv : Value) (co : Option Addr) (cc : Nat) (f : Mz.Fun) (out : List Int) (nx : List Nat) (Y : Option (Mz.St × List Nat)) (td0 : Nat) (W0 : World) (sb c1 c2 : Nat)
    (hlo0 : lo0 ≤ xb ∧ lo0 ≤ ab ∧ lo0 ≤ mb ∧ lo0 ≤ lo) (hlon : lo ≤ n) (hstk : Stk W0 n sb out false) (hc1 : n ≤ c1 ∧ W0.cell? ⟨c1, 0, none⟩ = some (.pointer (some ⟨xb, 0, none⟩))) (hc2 : n ≤ c2 ∧ W0.cell? ⟨c2, 0, none⟩ = some (.pointer (some ⟨sb, 0, none⟩)))
    (hc1m : c1 < W0.heap.size) (hc2m : c2 < W0.heap.size) (hty : Mz.TyL out ∧ out.length ≤ 8) (hnx : ∀ t ∈ nx, t ≤ f.code.length) (hn : f.code.length ≤ 40) (htd : td0 + nx.length ≤ 1000) :
    Steps 169 #[.pointer (some ⟨c1, 0, none⟩), .pointer (some ⟨c2, 0, none⟩)] (nx.map (fun (k : Nat) => (k : Int)))
      (StepI lo0 lo xb ab mb n W0.heap.size fv lv (.slice co f.code.length cc) f out nx Y td0 W0) (StepS lo0 Y W0) := by
  intro j hj w1 hI
  rw [List.length_map] at hj
  rw [nth_map _ hj]
  show Calls Tryz.prog 169 #[.int .i64 ((nth nx j : Nat) : Int), .pointer (some ⟨c1, 0, none⟩), .pointer (some ⟨c2, 0, none⟩)] w1 _
  obtain ⟨hkp, hsz, hbl, st, todo, tv, hY, hFit, hG, htl, htb⟩ := hI
  have hto : nth nx j ≤ f.code.length := hnx _ (nth_mem hj)
  have hs1 := hstk.keeps hkp (Nat.le_refl _)
  obtain ⟨so, sc, s0, s1, _, _, hown, hsb⟩ := hs1.cells
  have z1 : w1.cell? ⟨c1, 0, none⟩ = some (.pointer (some ⟨xb, 0, none⟩)) := (World.cell?_of_block (w := W0) (a := ⟨c1, 0, none⟩) (hkp c1 hc1.1 hc1m)).trans hc1.2
  have z2 : w1.cell? ⟨c2, 0, none⟩ = some (.pointer (some ⟨sb, 0, none⟩)) := (World.cell?_of_block (w := W0) (a := ⟨c2, 0, none⟩) (hkp c2 hc2.1 hc2m)).trans hc2.2
  have z3 : c1 < w1.heap.size := by omega
  have z4 : c2 < w1.heap.size := by omega
  have hxl := hFit.xbl
  have hal := hFit.am.abl
  have hml := hFit.am.mbl
  have HFT := Lib.hid hFit
  have HGD := Lib.hid hG
  have HTB := Lib.hid htb
  have HYY := Lib.hid hY
  have HKP := Lib.hid hkp
  have HBL := Lib.hid hbl
  have HTY := Lib.hid hty
  have hol := hty.2
  have CLN := Lib.hid (cloneInts_any (.slice so out.length sc) out w1.drew.heap.size w1.drew (RInts.of_owns hown (by omega)).drew (Nat.le_refl _))
  have hlw : lo ≤ w1.heap.size := hFit.am.size
  have hnm : n ≤ W0.heap.size := by omega
  have KEEP : Hid (∀ w2 w3, Below w1.drew.heap.size w1.drew w2 → Came xb ab mb tv.ownBlock w2 w3 → Keeps n W0.heap.size w1 w3 ∧ Below lo0 w1 w3 ∧ w2.heap.size ≤ w3.heap.size) := by
    intro w2 w3 hb2 hcm
    have hz := hb2.size
    refine ⟨fun k h1 h2 => ?_, ?_, hcm.size⟩
    · rw [hcm.block k (by simp at hz; omega) (by omega) (by omega) (by omega) (fun e => by have := htb k e; omega), hb2.block k (by simp; omega)]; rfl
    · refine (((Below.refl _ _).drew).trans (hb2.mono (by simp; omega))).trans (hcm.below (by simp at hz; omega) hlo0.1 hlo0.2.1 hlo0.2.2.1 (fun k e => ?_))
      have := (hFit.own.lt k e).1
      omega
  have IN : Hid (∀ w3, Keeps n W0.heap.size w1 w3 → w3.cell? ⟨c1, 0, none⟩ = some (.pointer (some ⟨xb, 0, none⟩)) ∧ w3.cell? ⟨c2, 0, none⟩ = some (.pointer (some ⟨sb, 0, none⟩)) ∧ w3.cell? ⟨sb, 0, none⟩ = some (.slice so out.length sc)) := by
    intro w3 hk
    have hsm : sb < W0.heap.size := by obtain ⟨_, _, _, _, _, _, _, h⟩ := hstk.cells; exact h
    exact ⟨(World.cell?_of_block (w := w1) (a := ⟨c1, 0, none⟩) (hk c1 hc1.1 hc1m)).trans z1, (World.cell?_of_block (w := w1) (a := ⟨c2, 0, none⟩) (hk c2 hc2.1 hc2m)).trans z2, (World.cell?_of_block (w := w1) (a := ⟨sb, 0, none⟩) (hk sb hstk.low hsm)).trans s0⟩
  have CLN2 : Hid (∀ r w2, w2.ownsRow w1.drew.heap.size 3 1 r out.length (out.map (Value.int .i64)) → Below w1.drew.heap.size w1.drew w2 → Fit w2 lo xb ab mb fv lv (.slice co f.code.length cc) f st todo tv ∧ FInts w2 lo r out ∧ Far r tv.ownBlock) := by
    intro r w2 ho hb2
    refine ⟨(hFit.frame ((Below.refl _ _).drew)).frame hb2, (FInts.of_owns ho (by omega)).mono (by simpa using hlw), fun b o k c e _ hb => ?_⟩
    have h1 := (FInts.of_owns ho (by omega)).2 b o k c e
    have h2 := (hFit.own.lt b hb).2
    simp at h1
    omega
  have hlens : Hid (∀ i, i < st.length → ∀ t, nth st i = some t → t.length ≤ 1000) := fun i hi t ht => by have := (hG.ty i (by rw [← hG.len]; exact hi) t ht).2; omega
  clear hFit hG htb hY hkp hbl hty hs1 hown hstk hc1 hc2 hnx
  cases hcm : Mz.come st (nth nx j) out with
  | none =>
    have HCM := Lib.hid hcm
    clear hcm
    go_enter Tryz.func169, Tryz.ntmps169
    go_wp2_with fail
    go_region_held3 (fun w' => w'.cell? ⟨c1, 0, none⟩ = some (.pointer (some ⟨xb, 0, none⟩)) ∧ w'.cell? ⟨c2, 0, none⟩ = some (.pointer (some ⟨sb, 0, none⟩)) ∧ w'.cell? ⟨sb, 0, none⟩ = some (.slice so out.length sc)) (first | go_keep | exact kk2 | exact kk3)
      (first
        | (go_at_call 148; refine CLN.out.mono ?_; rintro e w2 ⟨r, rfl, ho2, hb2⟩; obtain ⟨q1, q2, q3⟩ := CLN2.out r w2 ho2 hb2; have kk2 := IN.out w2 (KEEP.out w2 w2 hb2 (.of_below (Below.refl _ _))).1; have Q1 := Lib.hid q1; have Q2 := Lib.hid q2; have Q3 := Lib.hid q3; have HB2 := Lib.hid hb2; clear q1 q2 q3 ho2 hb2)
        | (go_at_call 131; refine (come_any w2 lo xb ab mb fv lv co cc f st todo tv Q1.out (nth nx j) hto hn (by omega) r out Q2.out Q3.out (by omega) hlens.out).mono ?_; rintro e w3 ⟨hcame, hm⟩; rw [HCM.out] at hm; subst hm; have kk3 := IN.out w3 (KEEP.out w2 w3 HB2.out hcame).1; have HCA := Lib.hid hcame; clear hcame))
    go_wp2_with fail
    go_ret
    obtain ⟨r1, r2, r3⟩ := KEEP.out _ _ HB2.out HCA.out
    exact .inr ⟨rfl, by rw [← HYY.out]; exact comeW_none hj HCM.out, HBL.out.trans r2⟩
  | some y =>
    obtain ⟨st', ch⟩ := y
    have HCM := Lib.hid hcm
    clear hcm
    go_enter Tryz.func169, Tryz.ntmps169
    go_wp2_with fail
    go_region_held3 (fun w' => w'.cell? ⟨c1, 0, none⟩ = some (.pointer (some ⟨xb, 0, none⟩)) ∧ w'.cell? ⟨c2, 0, none⟩ = some (.pointer (some ⟨sb, 0, none⟩)) ∧ w'.cell? ⟨sb, 0, none⟩ = some (.slice so out.length sc)) (first | go_keep | exact kk2 | exact kk3)
      (first
        | (go_at_call 148; refine CLN.out.mono ?_; rintro e w2 ⟨r, rfl, ho2, hb2⟩; obtain ⟨q1, q2, q3⟩ := CLN2.out r w2 ho2 hb2; have kk2 := IN.out w2 (KEEP.out w2 w2 hb2 (.of_below (Below.refl _ _))).1; have Q1 := Lib.hid q1; have Q2 := Lib.hid q2; have Q3 := Lib.hid q3; have HB2 := Lib.hid hb2; clear q1 q2 q3 ho2 hb2)
        | (go_at_call 131; refine (come_any w2 lo xb ab mb fv lv co cc f st todo tv Q1.out (nth nx j) hto hn (by omega) r out Q2.out Q3.out (by omega) hlens.out).mono ?_; rintro e w3 ⟨hcame, hm⟩; rw [HCM.out] at hm; obtain ⟨rfl, tv', hm1, hm2⟩ := hm; have HM1 := Lib.hid hm1; have HM2 := Lib.hid hm2; clear hm1 hm2; have kk3 := IN.out w3 (KEEP.out w2 w3 HB2.out hcame).1; have HCA := Lib.hid hcame; clear hcame))
    go_wp2_with fail
    go_ret
    obtain ⟨r1, r2, r3⟩ := KEEP.out _ _ HB2.out HCA.out
    have hz2 := HB2.out.size
    simp at hz2
    refine .inl ⟨rfl, fun k h1 h2 => (r1 k h1 h2).trans (HKP.out k h1 h2), by omega, HBL.out.trans r2, st', _, tv', ?_, HM1.out, come_good HGD.out HTY.out HCM.out, ?_, fun g hg => ?_⟩
    · rw [← HYY.out]; exact (comeW_some hj HCM.out).symm
    · cases ch
      · simp; omega
      · simp; omega
    · rcases HM2.out with h | ⟨g', hg1, hg2⟩
      · exact HTB.out g (by rw [← h]; exact hg)
      · rw [hg] at hg2
        simp only [Option.some.injEq] at hg2
        omega
end Go.Proofs.YthdomhejkbpabaaGreat

/- One place that is to do: the fitter's step, walked. -/
namespace Go.Proofs.YthdomhejkbpabaaGreat
open Go.RowKit

theorem owns_base {w : World} {base base' e sz n : Nat} {v : Value} {xs : List Value} (h : w.ownsRow base e sz v n xs) (hb : base' ≤ base) : w.ownsRow base' e sz v n xs := by
  refine ⟨h.1, ?_⟩
  rcases h.2 with h2 | ⟨g, cap, cur, h3, h4, r⟩
  · exact .inl h2
  · exact .inr ⟨g, cap, cur, h3, by omega, r⟩
theorem Fit.pop {w : World} {lo xb ab mb tc : Nat} {to' : Option Addr} {fv lv cv : Value} {f : Mz.Fun} {st : Mz.St} {todo : List Nat} (h : Fit w lo xb ab mb fv lv cv f st todo (.slice to' todo.length tc)) :
    Fit (w.setCell ⟨xb, 7, none⟩ (.slice to' (todo.length - 1) tc)) lo xb ab mb fv lv cv f st todo.dropLast (.slice to' (todo.length - 1) tc) := by
  obtain ⟨h1, h2, h3, h4, h5, h6⟩ := h
  obtain ⟨g, hrow, hg⟩ := h4.at'
  have xa : xb ≠ ab := by
    rintro rfl
    obtain ⟨c, hb, _⟩ := h3
    obtain ⟨c', hb', _⟩ := hrow
    rw [hb] at hb'
    simp at hb'
  have xm : xb ≠ mb := by
    rintro rfl
    obtain ⟨c, hb, _⟩ := h3
    obtain ⟨c', hb', _⟩ := h4.met
    rw [hb] at hb'
    simp at hb'
  have tbx : (Value.slice to' todo.length tc).ownBlock ≠ some xb := owns_ne h3 h5 (by decide)
  have hob : (Value.slice to' (todo.length - 1) tc).ownBlock = (Value.slice to' todo.length tc).ownBlock := by cases to' <;> rfl
  refine ⟨h1, h2, (h3.set 7 _).congr (fun i hi => ?_), ?_, ?_, fun i hi u hu => ?_⟩
  · by_cases c : i = 7
    · subst c; rfl
    · rw [if_neg c]
      have : i < 7 := by omega
      match i, this with
      | 0, _ => rfl
      | 1, _ => rfl
      | 2, _ => rfl
      | 3, _ => rfl
      | 4, _ => rfl
      | 5, _ => rfl
      | 6, _ => rfl
  · obtain ⟨a1, a2, a3, a4, a5, g2, a6, a7⟩ := h4
    exact ⟨a1, a2, a3, by simpa [World.setCell] using a4, a5.setOther (by simpa using Ne.symm xm) _, g2, a6.setOther (by simpa using Ne.symm xa) _, fun i hi => (a7 i hi).setCell h1 _⟩
  · have ht := owns_take h5 (k := todo.length - 1) (by omega)
    rw [Nat.mul_one, ← List.map_take, ← List.dropLast_eq_take] at ht
    rw [List.length_dropLast]
    exact owns_of_block ht fun g hg' => Below.heap_setCell _ _ _ _ (by intro e; exact tbx (by rw [← hob, hg', e]))
  · rw [World.cell?_setCell_other _ _ _ _ (by intro e; simp only [Addr.mk.injEq] at e; omega)] at hu
    rw [hob]
    exact h6 i hi u hu

def Stepped (lo0 : Nat) (p : List Mz.Fun) (w : World) (lo xb ab mb : Nat) (fv lv cv : Value) (f : Mz.Fun) (st : Mz.St) (todo : List Nat) (e : Ending) (w' : World) : Prop :=
  Below lo0 w w' ∧ match Mz.workStep p f (st, todo) with
    | none => e = .returned (.bool false)
    | some (st', todo') => e = .returned (.bool true) ∧ ∃ tv', Fit w' lo xb ab mb fv lv cv f st' todo' tv'
theorem Stepped.none {lo0 : Nat} {p : List Mz.Fun} {w w' : World} {lo xb ab mb : Nat} {fv lv cv : Value} {f : Mz.Fun} {st : Mz.St} {todo : List Nat} {e : Ending} (h : Mz.workStep p f (st, todo) = Option.none) (he : e = .returned (.bool false)) (hb : Below lo0 w w') : Stepped lo0 p w lo xb ab mb fv lv cv f st todo e w' := by
  refine ⟨hb, ?_⟩; rw [h]; exact he
theorem Stepped.some {lo0 : Nat} {p : List Mz.Fun} {w w' : World} {lo xb ab mb : Nat} {fv lv cv tv : Value} {f : Mz.Fun} {st st' : Mz.St} {todo todo' : List Nat} {e : Ending} (h : Mz.workStep p f (st, todo) = Option.some (st', todo')) (he : e = .returned (.bool true)) (hb : Below lo0 w w') (hf : Fit w' lo xb ab mb fv lv cv f st' todo' tv) : Stepped lo0 p w lo xb ab mb fv lv cv f st todo e w' := by
  refine ⟨hb, ?_⟩; rw [h]; exact ⟨he, tv, hf⟩
theorem nexts_len (o : Mz.Op) (pc : Nat) : (Mz.nexts o pc).length ≤ 2 := by
  unfold Mz.nexts
  repeat' split
  all_goals simp
theorem Stk.mono {w : World} {lo lo' sb : Nat} {l : List Int} {wr : Bool} (h : Stk w lo sb l wr) (hl : lo' ≤ lo) : Stk w lo' sb l wr := by
  obtain ⟨h1, v, h2, h3⟩ := h
  exact ⟨by omega, v, h2, owns_base h3 hl⟩
theorem enters_step1 : Enters 169 := enters_of Tryz.func169 (by kernel_rfl) (by kernel_rfl)
theorem workStep_eq {p : List Mz.Fun} {f : Mz.Fun} {st : Mz.St} {todo : List Nat} {s : List Int} {pc : Nat} (hpc : pc = nth todo (todo.length - 1)) (hs : nth st pc = Option.some s) :
    Mz.workStep p f (st, todo) = match Mz.tryOp p f (nth f.code pc) s with | Option.none => Option.none | Option.some out => Mz.comeW out (Mz.nexts (nth f.code pc) pc) (st, todo.dropLast) := by
  have hl : todo.getLast! = pc := by
    rw [hpc]; unfold nth
    cases todo with
    | nil => rfl
    | cons a t => simp [List.getLast!_eq_getLast?_getD, List.getLast?_eq_getElem?]
  unfold Mz.workStep
  simp only
  rw [hl]
  have : (st[pc]!).getD [] = s := by
    have : st[pc]! = Option.some s := hs
    rw [this]; rfl
  rw [this]
  rfl

set_option maxHeartbeats 4000000 in
set_option maxRecDepth 100000 in
theorem step_any (lo0 B : Nat) (w : World) (lo xb ab mb : Nat) (fv lv : Value) (co : Option Addr) (cc : Nat) (p : List Mz.Fun) (f : Mz.Fun) (st : Mz.St) (todo : List Nat) (tv : Value) (h : Fit w lo xb ab mb fv lv (.slice co f.code.length cc) f st todo tv) (hG : Good f.code.length st)
    (hlo0 : lo0 ≤ xb ∧ lo0 ≤ ab ∧ lo0 ≤ mb ∧ lo0 ≤ lo) (hB : B ≤ lo0) (hfs : RFuns w B fv p) (hlv : RInts w B lv f.locals) (hcd : ROps w B (.slice co f.code.length cc) f.code) (hr : Mz.Ready p f) (hn : f.code.length ≤ 40)
    (hne : 0 < todo.length) (htd : todo.length ≤ 900) (pc : Nat) (hpc : pc = nth todo (todo.length - 1)) (hpl : pc < f.code.length) (s : List Int) (hs : nth st pc = Option.some s) :
    Calls Tryz.prog 132 #[.pointer (some ⟨xb, 0, none⟩)] w (Stepped lo0 p w lo xb ab mb fv lv (.slice co f.code.length cc) f st todo) := by
  obtain ⟨to', tc, rfl⟩ := owned_open h.own
  have hsl := h.am.size
  have hxl := h.xbl
  have hal := h.am.abl
  have hml := h.am.mbl
  have hlen := h.len
  have hWS := Lib.hid (workStep_eq (p := p) (f := f) hpc hs)
  have htr : RInts w w.heap.size (.slice to' todo.length tc) (todo.map (fun (k : Nat) => (k : Int))) := by
    have ho := h.own
    have e : todo.map (fun (k : Nat) => Value.int .i64 k) = (todo.map (fun (k : Nat) => (k : Int))).map (Value.int .i64) := by simp
    rw [e] at ho
    exact RInts.of_owns ho (by omega)
  have hcl : todo.length ≤ tc := by
    rcases h.own.2 with ⟨h2, h3⟩ | ⟨g, cap, cur, h2, _, _, h3, _⟩
    · omega
    · simp only [Value.slice.injEq] at h2; omega
  have hit : todo.length - 1 < (todo.map (fun (k : Nat) => (k : Int))).length := by simp; omega
  obtain ⟨tb, tx, rfl, tB, tcell⟩ := htr.at hit
  rw [nth_map _ (by omega), ← hpc] at tcell
  clear htr hit
  have e1 : IntKind.i64.wrap ((todo.length : Int) - 1) = todo.length - 1 := IntWalk.i64_in _ (by omega)
  have e3 : ((todo.length : Int) - 1).toNat = todo.length - 1 := by omega
  have e4 : 0 ≤ (todo.length : Int) - 1 := by omega
  have e5 : (todo.length : Int) - 1 < todo.length := by omega
  have e6 : (todo.length : Int) - 1 ≤ tc := by omega
  have x7 : w.cell? ⟨xb, 7, none⟩ = some (.slice (some ⟨tb, tx, none⟩) todo.length tc) := h.row.cell (i := 7) (by decide)
  have f7 : w.frozen? ⟨xb, 7, none⟩ = false := h.row.frozen 7
  have g1 : xb < w.heap.size := by omega
  have hset : Below lo0 w (w.setCell ⟨xb, 7, none⟩ (.slice (some ⟨tb, tx, none⟩) (todo.length - 1) tc)) := (Below.refl _ _).setCell hlo0.1 _
  have hp1 := h.pop
  have hb1 : Below (w.setCell ⟨xb, 7, none⟩ (.slice (some ⟨tb, tx, none⟩) (todo.length - 1) tc)).heap.size (w.setCell ⟨xb, 7, none⟩ (.slice (some ⟨tb, tx, none⟩) (todo.length - 1) tc)) (((w.setCell ⟨xb, 7, none⟩ (.slice (some ⟨tb, tx, none⟩) (todo.length - 1) tc)).alloc (.cells #[.pointer (some ⟨xb, 0, none⟩)] 176)).drew) := ((Below.refl _ _).alloc (Nat.le_refl _) _).drew
  have HF2 := Lib.hid (hp1.frame hb1)
  have HB2 := Lib.hid (hset.trans (hb1.mono (by simp [World.setCell]; omega)))
  have hsz1 : (w.setCell ⟨xb, 7, none⟩ (.slice (some ⟨tb, tx, none⟩) (todo.length - 1) tc)).heap.size = w.heap.size := by simp [World.setCell]
  have C10 : Hid ((((w.setCell ⟨xb, 7, none⟩ (.slice (some ⟨tb, tx, none⟩) (todo.length - 1) tc)).alloc (.cells #[.pointer (some ⟨xb, 0, none⟩)] 176)).drew).cell? ⟨w.heap.size, 0, none⟩ = some (.pointer (some ⟨xb, 0, none⟩))) := by
    show ((w.setCell ⟨xb, 7, none⟩ (.slice (some ⟨tb, tx, none⟩) (todo.length - 1) tc)).alloc (.cells #[.pointer (some ⟨xb, 0, none⟩)] 176)).cell? ⟨w.heap.size, 0, none⟩ = _
    rw [← hsz1, World.cell?_alloc_new]; rfl
  have HZ2 : Hid ((((w.setCell ⟨xb, 7, none⟩ (.slice (some ⟨tb, tx, none⟩) (todo.length - 1) tc)).alloc (.cells #[.pointer (some ⟨xb, 0, none⟩)] 176)).drew).heap.size = w.heap.size + 1) := by
    show ((w.setCell ⟨xb, 7, none⟩ (.slice (some ⟨tb, tx, none⟩) (todo.length - 1) tc)).alloc (.cells #[.pointer (some ⟨xb, 0, none⟩)] 176)).heap.size = _
    rw [World.size_alloc, hsz1]
  clear hp1 hb1 hset hsz1
  have HFS := Lib.hid hfs
  have HLV := Lib.hid hlv
  have HCD := Lib.hid hcd
  have HG := Lib.hid hG
  have HR : Hid (Mz.Ready p f) := hr
  have HS := Lib.hid hs
  clear h hfs hlv hcd hG hr hs hpc
  have hil : pc < st.length := by omega
  go_enter Tryz.func132, Tryz.ntmps132
  go_wp2_with fail
  go_region
  obtain ⟨W2, hW2⟩ : ∃ W2, W2 = (((w.setCell ⟨xb, 7, none⟩ (.slice (some ⟨tb, tx, none⟩) (todo.length - 1) tc)).alloc (.cells #[.pointer (some ⟨xb, 0, none⟩)] 176)).drew) := ⟨_, rfl⟩
  rw [← hW2] at HF2 HB2 C10 HZ2 ⊢
  clear hW2 x7 f7 tcell
  have z0 := C10.out
  have z5 : W2.cell? ⟨xb, 5, none⟩ = some (.slice (some ⟨ab, 0, none⟩) f.code.length f.code.length) := HF2.out.row.cell (i := 5) (by decide)
  obtain ⟨_, av, ac, aF⟩ := HF2.out.am.cells hil
  rw [HS.out] at aF
  have AF := Lib.hid aF.1
  have hs8 : s.length ≤ 8 := (HG.out.ty pc hpl s HS.out).2
  have hz2 := HZ2.out
  have g2 : w.heap.size < W2.heap.size := by omega
  have g3 : xb < W2.heap.size := by omega
  have g4 : ab < W2.heap.size := by omega
  clear aF hz2
  go_wp2_with fail
  refine (cloneInts_any av s W2.heap.size W2 AF.out (Nat.le_refl _)).mono ?_
  rintro e wc ⟨rv, rfl, hrv, hbc⟩
  obtain ⟨ro, rc, rfl⟩ := owned_open hrv
  have hsc := hbc.size
  have hb4 : Below W2.heap.size W2 ((wc.alloc (.cells #[.slice ro s.length rc, .bool false] 202)).alloc (.cells #[.pointer (some ⟨wc.heap.size, 0, none⟩)] 200)) := (hbc.alloc hsc _).alloc (by simp; omega) _
  have HST : Hid (Stk ((wc.alloc (.cells #[.slice ro s.length rc, .bool false] 202)).alloc (.cells #[.pointer (some ⟨wc.heap.size, 0, none⟩)] 200)) W2.heap.size wc.heap.size s false) := by
    refine ⟨hsc, .slice ro s.length rc, ?_, ?_⟩
    · refine (World.rowIs_alloc wc #[.slice ro s.length rc, .bool false] 202 _ (fun i hi => ?_)).alloc _
      have hi' : i = 0 ∨ i = 1 := by simp at hi; omega
      rcases hi' with rfl | rfl <;> rfl
    · exact (hrv.alloc _).alloc _
  clear ac z5
  have hcw : Below B w ((wc.alloc (.cells #[.slice ro s.length rc, .bool false] 202)).alloc (.cells #[.pointer (some ⟨wc.heap.size, 0, none⟩)] 200)) := (HB2.out.mono hB).trans (hb4.mono (by omega))
  obtain ⟨cb, cx, rfl, cB, o0, o1⟩ := HCD.out.at hpl
  have HF4 := Lib.hid (HF2.out.frame hb4)
  have HB4 := Lib.hid (HB2.out.trans (hb4.mono (by omega)))
  have HC2 : Hid (((wc.alloc (.cells #[.slice ro s.length rc, .bool false] 202)).alloc (.cells #[.pointer (some ⟨wc.heap.size, 0, none⟩)] 200)).rowIs (wc.heap.size + 1) 200 1 (fun _ => .pointer (some ⟨wc.heap.size, 0, none⟩))) := by
    have := World.rowIs_alloc (wc.alloc (.cells #[.slice ro s.length rc, .bool false] 202)) #[.pointer (some ⟨wc.heap.size, 0, none⟩)] 200 (fun _ => .pointer (some ⟨wc.heap.size, 0, none⟩)) (fun i hi => by
      obtain rfl : i = 0 := by simpa using hi
      rfl)
    unfold Hid
    simpa using this
  have HC1 : Hid (((wc.alloc (.cells #[.slice ro s.length rc, .bool false] 202)).alloc (.cells #[.pointer (some ⟨wc.heap.size, 0, none⟩)] 200)).cell? ⟨w.heap.size, 0, none⟩ = some (.pointer (some ⟨xb, 0, none⟩))) := ((bcell hb4).1 _ _ g2).trans C10.out
  have HOP : Hid (((wc.alloc (.cells #[.slice ro s.length rc, .bool false] 202)).alloc (.cells #[.pointer (some ⟨wc.heap.size, 0, none⟩)] 200)).cell? ⟨cb, cx + pc * 2, none⟩ = some (.int .i64 (nth f.code pc).code) ∧ ((wc.alloc (.cells #[.slice ro s.length rc, .bool false] 202)).alloc (.cells #[.pointer (some ⟨wc.heap.size, 0, none⟩)] 200)).cell? ⟨cb, cx + pc * 2 + 1, none⟩ = some (.int .i64 (nth f.code pc).a)) := ⟨((bcell hcw).1 _ _ cB).trans o0, ((bcell hcw).1 _ _ cB).trans o1⟩
  have HPR : Hid (RFuns ((wc.alloc (.cells #[.slice ro s.length rc, .bool false] 202)).alloc (.cells #[.pointer (some ⟨wc.heap.size, 0, none⟩)] 200)) B fv p ∧ RInts ((wc.alloc (.cells #[.slice ro s.length rc, .bool false] 202)).alloc (.cells #[.pointer (some ⟨wc.heap.size, 0, none⟩)] 200)) B lv f.locals ∧ ROps ((wc.alloc (.cells #[.slice ro s.length rc, .bool false] 202)).alloc (.cells #[.pointer (some ⟨wc.heap.size, 0, none⟩)] 200)) B (.slice (some ⟨cb, cx, none⟩) f.code.length cc) f.code) := ⟨HFS.out.frame hcw, HLV.out.frame hcw, HCD.out.frame hcw⟩
  have HBB := Lib.hid hb4
  have HSZ4 : Hid (((wc.alloc (.cells #[.slice ro s.length rc, .bool false] 202)).alloc (.cells #[.pointer (some ⟨wc.heap.size, 0, none⟩)] 200)).heap.size = wc.heap.size + 1 + 1) := by unfold Hid; simp
  clear hb4 hcw o0 o1 hrv hbc
  go_wp2_with fail
  obtain ⟨W4, hW4⟩ : ∃ W4, W4 = ((wc.alloc (.cells #[.slice ro s.length rc, .bool false] 202)).alloc (.cells #[.pointer (some ⟨wc.heap.size, 0, none⟩)] 200)) := ⟨_, rfl⟩
  rw [← hW4] at HST HF4 HB4 HC2 HC1 HOP HPR HSZ4 HBB ⊢
  clear hW4 z0
  have hopk : Mz.OpOk p f (nth f.code pc) := HR.out.ops _ (nth_mem hpl)
  have TRY := Lib.hid (try_any (.agg #[fv]) lv (.slice (some ⟨cb, cx, none⟩) f.code.length cc) p f (nth f.code pc) s B W4.drew W2.heap.size wc.heap.size (HST.out.frame ((Below.refl _ _).drew)) (by omega) (by omega) ⟨_, rfl, HPR.out.1.frame ((Below.refl _ _).drew)⟩ (HPR.out.2.1.frame ((Below.refl _ _).drew)) (HPR.out.2.2.frame ((Below.refl _ _).drew)) HR.out.prog hopk)
  have TEQ := Lib.hid (tryS_eq (s := s) HR.out.prog HR.out.fn hopk)
  have HOPK := Lib.hid hopk
  clear hopk
  have KEEP : Hid (∀ w5, Fr W2.heap.size wc.heap.size W4 w5 → w5.cell? ⟨wc.heap.size + 1, 0, none⟩ = some (.pointer (some ⟨wc.heap.size, 0, none⟩)) ∧ w5.cell? ⟨w.heap.size, 0, none⟩ = some (.pointer (some ⟨xb, 0, none⟩)) ∧ w5.cell? ⟨xb, 0, none⟩ = some fv ∧ w5.cell? ⟨xb, 1, none⟩ = some (.int .i64 f.params) ∧ w5.cell? ⟨xb, 2, none⟩ = some lv ∧ w5.cell? ⟨xb, 3, none⟩ = some (.int .i64 f.result) ∧ w5.cell? ⟨xb, 4, none⟩ = some (.slice (some ⟨cb, cx, none⟩) f.code.length cc) ∧ w5.cell? ⟨cb, cx + pc * 2, none⟩ = some (.int .i64 (nth f.code pc).code) ∧ w5.cell? ⟨cb, cx + pc * 2 + 1, none⟩ = some (.int .i64 (nth f.code pc).a)) := by
    intro w5 hfr
    have hrow := HF4.out.row.of_block (w' := w5) (hfr.below.block xb g3)
    have hc2 := HC2.out.of_block (w' := w5) (hfr.besides (wc.heap.size + 1) (by rw [HSZ4.out]; omega) (by omega) (fun c fr e => by
      obtain ⟨c', hb', _⟩ := HC2.out
      rw [hb'] at e
      simp at e))
    refine ⟨hc2.cell (i := 0) (by decide), ((bcell hfr.below).1 _ _ g2).trans HC1.out, hrow.cell (i := 0) (by decide), hrow.cell (i := 1) (by decide), hrow.cell (i := 2) (by decide), hrow.cell (i := 3) (by decide), hrow.cell (i := 4) (by decide), ((bcell hfr.below).1 _ _ (by omega)).trans HOP.out.1, ((bcell hfr.below).1 _ _ (by omega)).trans HOP.out.2⟩
  have k4 := KEEP.out W4 ⟨Below.refl _ _, fun _ _ _ _ => rfl⟩
  have gs4 := HSZ4.out
  have g5 : xb < W4.heap.size := by omega
  have g6 : w.heap.size < W4.heap.size := by omega
  have g7 : wc.heap.size + 1 < W4.heap.size := by omega
  clear gs4
  go_wp2_with fail
  go_region_held3 (fun w' => w'.cell? ⟨wc.heap.size + 1, 0, none⟩ = some (.pointer (some ⟨wc.heap.size, 0, none⟩)) ∧ w'.cell? ⟨w.heap.size, 0, none⟩ = some (.pointer (some ⟨xb, 0, none⟩)) ∧ w'.cell? ⟨xb, 0, none⟩ = some fv ∧ w'.cell? ⟨xb, 1, none⟩ = some (.int .i64 f.params) ∧ w'.cell? ⟨xb, 2, none⟩ = some lv ∧ w'.cell? ⟨xb, 3, none⟩ = some (.int .i64 f.result) ∧ w'.cell? ⟨xb, 4, none⟩ = some (.slice (some ⟨cb, cx, none⟩) f.code.length cc) ∧ w'.cell? ⟨cb, cx + pc * 2, none⟩ = some (.int .i64 (nth f.code pc).code) ∧ w'.cell? ⟨cb, cx + pc * 2 + 1, none⟩ = some (.int .i64 (nth f.code pc).a)) (first | go_keep | exact kk5) (first | (go_at_call 167; refine TRY.out.mono ?_; rintro e w5 ⟨rfl, hs5, hfr5⟩; have hfr5' : Fr W2.heap.size wc.heap.size W4 w5 := Fr.trans (Fr.of_below ((Below.refl _ _).drew) (by omega)) hfr5; have kk5 := KEEP.out w5 hfr5'; have HS5 := Lib.hid hs5; have HFR5 := Lib.hid hfr5'; clear hs5 hfr5 hfr5'))
  have HF5 := Lib.hid (HF2.out.frame (HBB.out.trans HFR5.out.below))
  have HB5 := Lib.hid (HB4.out.trans (HFR5.out.below.mono (by omega)))
  have hs5 := HFR5.out.below.size
  clear kk5 TRY HF4 HB4 HC2 HC1 HOP HPR HST k4 g7
  have k5 := KEEP.out _ HFR5.out
  obtain ⟨T, hT⟩ : ∃ T, T = tryS p f (nth f.code pc) s := ⟨_, rfl⟩
  rw [← hT] at HS5 TEQ
  clear hT
  obtain ⟨out, wrg⟩ := T
  simp only at HS5 TEQ
  obtain ⟨so, sc, y0, y1, _, _, _, ysb⟩ := HS5.out.cells
  cases wrg with
  | true =>
    go_wp2_with fail
    go_ret
    refine .none ?_ rfl HB5.out
    rw [hWS.out, TEQ.out]; rfl
  | false =>
    have HTO : Hid (Mz.tryOp p f (nth f.code pc) s = some out) := by unfold Hid; rw [TEQ.out]; rfl
    have HTYO : Hid (Mz.TyL out ∧ out.length ≤ 8) := ⟨Mz.tryOp_ty HR.out.prog HR.out.fn HOPK.out (HG.out.ty pc hpl s HS.out).1 HTO.out, Mz.tryOp_len HTO.out⟩
    have HCD5 := Lib.hid (HCD.out.frame (HB5.out.mono hB))
    go_wp2_with fail
    refine (after_any _ f.code pc B w5 HCD5.out (by omega) hpl hn HOPK.out.jump).mono ?_
    rintro e w6 ⟨r, rfl, hr6, hb6⟩
    have hs6 := hb6.size
    have k6 : w6.cell? ⟨w.heap.size, 0, none⟩ = some (.pointer (some ⟨xb, 0, none⟩)) := ((bcell hb6).1 _ _ (by omega)).trans k5.2.1
    have k7 : w6.cell? ⟨wc.heap.size + 1, 0, none⟩ = some (.pointer (some ⟨wc.heap.size, 0, none⟩)) := ((bcell hb6).1 _ _ (by have := HSZ4.out; omega)).trans k5.1
    have HS6 := Lib.hid ((HS5.out.frame hb6).mono (show w.heap.size ≤ W2.heap.size by omega))
    have HF6 := Lib.hid (HF5.out.frame hb6)
    have HB6 := Lib.hid (HB5.out.trans (hb6.mono (by omega)))
    have HR6 : Hid (FInts w6 w.heap.size r ((Mz.nexts (nth f.code pc) pc).map (fun (k : Nat) => (k : Int)))) := hr6.mono (by omega)
    have hnl := nexts_len (nth f.code pc) pc
    have HNX : Hid (∀ t ∈ Mz.nexts (nth f.code pc) pc, t ≤ f.code.length) := nexts_le HOPK.out.jump hpl
    have STEPS := Lib.hid (step1_any lo0 lo xb ab mb w.heap.size fv lv (some ⟨cb, cx, none⟩) cc f out (Mz.nexts (nth f.code pc) pc) (Mz.comeW out (Mz.nexts (nth f.code pc) pc) (st, todo.dropLast)) todo.dropLast.length w6 wc.heap.size w.heap.size (wc.heap.size + 1) hlo0 hsl HS6.out ⟨Nat.le_refl _, k6⟩ ⟨by omega, k7⟩ (by omega) (by have := HSZ4.out; omega) HTYO.out HNX.out hn (by simp; omega))
    have INIT : Hid (StepI lo0 lo xb ab mb w.heap.size w6.heap.size fv lv (.slice (some ⟨cb, cx, none⟩) f.code.length cc) f out (Mz.nexts (nth f.code pc) pc) (Mz.comeW out (Mz.nexts (nth f.code pc) pc) (st, todo.dropLast)) todo.dropLast.length w6 0 w6) :=
      ⟨fun _ _ _ => rfl, Nat.le_refl _, Below.refl _ _, st, todo.dropLast, _, rfl, HF6.out, HG.out, by simp, fun g hg => by
        simp only [Value.ownBlock, Option.some.injEq] at hg
        omega⟩
    clear hr6 hb6 k6 k7 k5
    go_wp2_with fail
    refine (containsFunc_inv r _ _ _ _ _ w6 INIT.out (fun j w1 hI => (FInts.keeps HR6.out hI.keeps rfl hI.size).1) enters_step1 STEPS.out).mono ?_
    rintro e w7 (⟨rfl, hS⟩ | ⟨rfl, hI⟩)
    · have HSS := Lib.hid hS
      clear hS
      go_wp2_with fail
      go_ret
      refine .none ?_ rfl (HB6.out.trans HSS.out.2)
      rw [hWS.out, HTO.out]; exact HSS.out.1
    · have HII := Lib.hid hI
      clear hI
      go_wp2_with fail
      go_ret
      obtain ⟨_, _, hb7, st', todo', tv', hY, hF7, _, _, _⟩ := HII.out
      rw [List.length_map, List.drop_length, Mz.comeW] at hY
      refine .some ?_ rfl (HB6.out.trans hb7) hF7
      rw [hWS.out, HTO.out]; exact hY.symm
end Go.Proofs.YthdomhejkbpabaaGreat
