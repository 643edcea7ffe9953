/- Lemmas: ReadNum, ReadVal, MBox, ReadBlk. -/
import Derived.Test.YthdomhejkbpabaaGreatG23
import Derived.Handy
set_option linter.unusedVariables false
set_option linter.unusedSimpArgs false
/- The program's reader: numbers. -/
namespace Go.Proofs.YthdomhejkbpabaaGreat
open Go.RowKit

/-- below lo nothing has turned, but for block rb -/
structure RfB (lo rb : Nat) (w w' : World) : Prop where
  os : w'.os = w.os
  tape : w'.tape = w.tape
  output : w'.output = w.output
  size : w.heap.size ≤ w'.heap.size
  block : ∀ k, k < lo → k ≠ rb → w'.heap[k]? = w.heap[k]?
theorem RfB.refl {lo rb : Nat} {w : World} : RfB lo rb w w := ⟨rfl, rfl, rfl, Nat.le_refl _, fun _ _ _ => rfl⟩
theorem RfB.trans {lo rb : Nat} {u v w : World} (h : RfB lo rb u v) (k : RfB lo rb v w) : RfB lo rb u w :=
  ⟨k.os.trans h.os, k.tape.trans h.tape, k.output.trans h.output, Nat.le_trans h.size k.size, fun i hi hn => (k.block i hi hn).trans (h.block i hi hn)⟩
theorem Rf.toB {lo rb : Nat} {w w' : World} (h : Rf rb w w') (hlo : lo ≤ w.heap.size) : RfB lo rb w w' := ⟨h.os, h.tape, h.output, h.size, fun k hk hn => h.block k (by omega) hn⟩
theorem RfB.toRf {rb : Nat} {w w' : World} (h : RfB w.heap.size rb w w') : Rf rb w w' := ⟨h.os, h.tape, h.output, h.size, h.block⟩
theorem RfB.of_below {lo rb : Nat} {w w' : World} (h : Below lo w w') : RfB lo rb w w' := ⟨h.os, h.tape, h.output, h.size, fun k hk _ => h.block k hk⟩
theorem RfB.mono {lo lo' rb : Nat} {w w' : World} (h : RfB lo rb w w') (hl : lo' ≤ lo) : RfB lo' rb w w' := ⟨h.os, h.tape, h.output, h.size, fun k hk hn => h.block k (by omega) hn⟩

section
variable {P : Program}
/-- a call of two arguments at a step of a region that draws its order -/
theorem step_call2 {f : FuncId} {ops : Array Oper} {o : Oper} {a : Act} {K : Act → World → Prop} {Q : Exit → Act → World → Prop} {E : Prop} {x y : Operand} {ts : Array TypeId}
    (hgd : o.guard = none) (ho : o.op = .call { callee := .value (.func f), args := #[x, y], argTypes := ts }) {u v : Value} {w : World} (he : (callFunc f #[u, v]).run P w = .ok (.enter f #[u, v]) w) (hx : a.eval x = u) (hy : a.eval y = v) {R : Ending → World → Prop} (hc : Calls P f #[u, v] w R)
    (h : ∀ e w', R e w' → ∃ u, e = .returned u ∧ K (a.put o.dst u) w') :
    if Region.wanted o (yielded ops a.tmps) = true then Oper.wp P o a w K Q else E := by
  have hw : Region.wanted o (yielded ops a.tmps) = true := by simp [Region.wanted, hgd]
  rw [if_pos hw]
  unfold Oper.wp
  have hfn : a.eval (Operand.func f) = Value.func (.func f) #[] #[] := rfl
  simp [execOp, ho, resolve, invoke, hx, hy, hfn, Deferred.ofValue, Sem.run_pure, he, Result.andThen, Oper.upon_enter]
  refine hc.mono fun e w' hr => ?_
  obtain ⟨u, rfl, hk⟩ := h e w' hr
  exact hk
theorem step_call2_short {f : FuncId} {ops : Array Oper} {o : Oper} {a : Act} {K : Act → World → Prop} {Q : Exit → Act → World → Prop} {E : Prop} {x y : Operand} {ts : Array TypeId}
    (hgd : o.guard = none) (ho : o.op = .call { callee := .value (.func f), args := #[x, y], argTypes := ts }) {u v : Value} {w : World} (he : (callFunc f #[u, v]).run P w = .ok (.enter f #[u, v]) w) (hx : a.eval x = u) (hy : a.eval y = v) {R : Ending → World → Prop} (hc : Calls P f #[u, v] w R)
    (h : ∀ e w', R e w' → ∃ ch, e = .panicked ch ∧ Q (.panic ch) a w') :
    if Region.wanted o (yielded ops a.tmps) = true then Oper.wp P o a w K Q else E := by
  have hw : Region.wanted o (yielded ops a.tmps) = true := by simp [Region.wanted, hgd]
  rw [if_pos hw]
  unfold Oper.wp
  have hfn : a.eval (Operand.func f) = Value.func (.func f) #[] #[] := rfl
  simp [execOp, ho, resolve, invoke, hx, hy, hfn, Deferred.ofValue, Sem.run_pure, he, Result.andThen, Oper.upon_enter]
  refine hc.mono fun e w' hr => ?_
  obtain ⟨u, rfl, hk⟩ := h e w' hr
  exact hk
theorem step_call_short {f : FuncId} {ops : Array Oper} {o : Oper} {a : Act} {K : Act → World → Prop} {Q : Exit → Act → World → Prop} {E : Prop} {x : Operand} {ts : Array TypeId}
    (hgd : o.guard = none) (ho : o.op = .call { callee := .value (.func f), args := #[x], argTypes := ts }) {u : Value} {w : World} (he : (callFunc f #[u]).run P w = .ok (.enter f #[u]) w) (hx : a.eval x = u) {R : Ending → World → Prop} (hc : Calls P f #[u] w R)
    (h : ∀ e w', R e w' → ∃ ch, e = .panicked ch ∧ Q (.panic ch) a w') :
    if Region.wanted o (yielded ops a.tmps) = true then Oper.wp P o a w K Q else E := by
  have hw : Region.wanted o (yielded ops a.tmps) = true := by simp [Region.wanted, hgd]
  rw [if_pos hw]
  unfold Oper.wp
  have hfn : a.eval (Operand.func f) = Value.func (.func f) #[] #[] := rfl
  simp [execOp, ho, resolve, invoke, hx, hfn, Deferred.ofValue, Sem.run_pure, he, Result.andThen, Oper.upon_enter]
  refine hc.mono fun e w' hr => ?_
  obtain ⟨u, rfl, hk⟩ := h e w' hr
  exact hk
end
/-- behind a panic nothing follows: what go_region_law goes on with -/
def Tok : Prop := True
theorem tok : Tok := trivial
theorem dead_end {G : Prop} (h : G) {P : Program} {a : Act} {w : World} : wpAny P Region.Mode.any #[] (fun _ _ _ => Tok) 0 #[] a w → G := fun _ => h
theorem enters_take : Enters 170 := enters_of Tryz.func170 (by kernel_rfl) (by kernel_rfl)
theorem enters_number : Enters 172 := enters_of Tryz.func172 (by kernel_rfl) (by kernel_rfl)

/-- variables that a function literal has caught: the list so far, and the reader -/
structure Caught (w : World) (lo rb N O : Nat) (tO tE : TypeId) (sz : Nat) (n : Nat) (cs : List Value) (r : List UInt8) : Prop where
  rdr : Rdr w rb r
  ptr : w.rowIs N 141 1 (fun _ => .pointer (some ⟨rb, 0, none⟩))
  out : ∃ v, w.rowIs O tO 1 (fun _ => v) ∧ w.ownsRow lo tE sz v n cs
  lo : lo ≤ N ∧ lo ≤ O ∧ rb < lo
theorem owns_rf {w w' : World} {lo rb : Nat} {e : TypeId} {sz n : Nat} {v : Value} {cs : List Value} (h : w.ownsRow lo e sz v n cs) (hf : Rf rb w w') (hlo : rb < lo) : w'.ownsRow lo e sz v n cs :=
  owns_of_block h fun g hg => hf.block g (h.lt g hg).2 (by have := (h.lt g hg).1; omega)
/-- the reader has been turned -/
theorem Caught.read {w w' : World} {lo rb N O : Nat} {tO tE : TypeId} {sz n : Nat} {cs : List Value} {r r' : List UInt8} (h : Caught w lo rb N O tO tE sz n cs r) (hf : Rf rb w w') (hr : Rdr w' rb r') : Caught w' lo rb N O tO tE sz n cs r' := by
  obtain ⟨h1, h2, ⟨v, h3, h4⟩, h5, h6, h7⟩ := h
  exact ⟨hr, hf.row h2 (by omega), ⟨v, hf.row h3 (by omega), owns_rf h4 hf h7⟩, h5, h6, h7⟩
/-- the list has been lengthened -/
theorem Caught.store {w w' : World} {lo rb N O : Nat} {tO tE : TypeId} {sz n n' : Nat} {cs cs' : List Value} {r : List UInt8} {v v' : Value} (h : Caught w lo rb N O tO tE sz n cs r) (hv : w.cell? ⟨O, 0, none⟩ = some v) (hg : w.grownBy w' v.ownBlock) (hb : Below lo w w')
    (ho : w'.ownsRow lo tE sz v' n' cs') (t1 : tE ≠ tO) (t2 : tE ≠ 141) (t3 : tO ≠ 141) : Caught (w'.setCell ⟨O, 0, none⟩ v') lo rb N O tO tE sz n' cs' r ∧ RfB lo rb w (w'.setCell ⟨O, 0, none⟩ v') := by
  obtain ⟨h1, h2, ⟨v0, h3, h4⟩, h5, h6, h7⟩ := h
  have e : v = v0 := by
    have := h3.cell (i := 0) (by decide)
    rw [hv] at this; exact Option.some.inj this
  subst e
  have n1 := owns_ne h2 h4 t2
  have n2 := owns_ne h3 h4 t1
  have hNO : N ≠ O := row_ne h2 h3 (Ne.symm t3)
  have sN : w'.rowIs N 141 1 (fun _ => .pointer (some ⟨rb, 0, none⟩)) := h2.of_block (hg.block N h2.lt (fun e => n1 e.symm))
  have sO : w'.rowIs O tO 1 (fun _ => v) := h3.of_block (hg.block O h3.lt (fun e => n2 e.symm))
  have n3 := owns_ne sO ho t1
  have on : Only O w' (w'.setCell ⟨O, 0, none⟩ v') := (Only.refl O w').setCell 0 v'
  refine ⟨⟨?_, sN.of_block (Below.heap_setCell _ _ _ _ hNO), ⟨v', (sO.set 0 _).congr (fun i hi => ?_), owns_of_block ho fun g hg => Below.heap_setCell _ _ _ _ ?_⟩, h5, h6, h7⟩, RfB.of_below (hb.trans (on.below h6))⟩
  · have hOr : rb ≠ O := by omega
    exact World.rowIs.of_block h1 (by rw [Below.heap_setCell _ _ _ _ hOr]; exact hb.block _ h7)
  · obtain rfl : i = 0 := by omega
    simp
  · intro e
    exact n3 (by rw [hg, e])
theorem Caught.stay {w w' : World} {lo rb N O : Nat} {tO tE : TypeId} {sz n : Nat} {cs : List Value} {r : List UInt8} {v : Value} (h : Caught w lo rb N O tO tE sz n cs r) (hv : w.cell? ⟨O, 0, none⟩ = some v) (hg : w.grownBy w' v.ownBlock)
    (t1 : tE ≠ tO) : w'.cell? ⟨O, 0, none⟩ = some v ∧ w'.frozen? ⟨O, 0, none⟩ = false := by
  obtain ⟨h1, h2, ⟨v0, h3, h4⟩, h5, h6, h7⟩ := h
  have e : v = v0 := by
    have := h3.cell (i := 0) (by decide)
    rw [hv] at this; exact Option.some.inj this
  subst e
  have n2 := owns_ne h3 h4 t1
  have sO : w'.rowIs O tO 1 (fun _ => v) := h3.of_block (hg.block O h3.lt (fun e => n2 e.symm))
  exact ⟨sO.cell (i := 0) (by decide), sO.frozen 0⟩
theorem Rf.cell {w w' : World} {rb b : Nat} {v : Value} (h : Rf rb w w') (hb : b ≠ rb) (hl : b < w.heap.size) (hc : w.cell? ⟨b, 0, none⟩ = some v) : w'.cell? ⟨b, 0, none⟩ = some v := (World.cell?_of_block (a := ⟨b, 0, none⟩) (h.block b hl hb)).trans hc
theorem map_snoc (xs : List Int) (x : Int) : (xs ++ [x]).map (Value.int .i64) = xs.map (Value.int .i64) ++ [x].map (Value.int .i64) := by simp

set_option maxHeartbeats 2000000 in
set_option maxRecDepth 100000 in
theorem numClos_some (w : World) (lo rb N O : Nat) (xs : List Int) (a b c d : UInt8) (r : List UInt8) (h : Caught w lo rb N O 27 3 1 xs.length (xs.map (Value.int .i64)) (a :: b :: c :: d :: r)) (hs : r.length + 4 ≤ 9223372036854775807) (hn : xs.length ≤ 1000) :
    Calls Tryz.prog 171 #[.pointer (some ⟨O, 0, none⟩), .pointer (some ⟨N, 0, none⟩)] w fun e w' => e = .returned (.tuple #[]) ∧ Caught w' lo rb N O 27 3 1 (xs ++ [Mz.numberOf a b c d]).length ((xs ++ [Mz.numberOf a b c d]).map (Value.int .i64)) r ∧ RfB lo rb w w' := by
  obtain ⟨L, hL⟩ : ∃ L, L = xs ++ [Mz.numberOf a b c d] := ⟨_, rfl⟩
  rw [← hL]
  have HL := Lib.hid hL
  have HC := Lib.hid h
  obtain ⟨hr, hp, ⟨v, ho, hown⟩, hlo1, hlo2, hlo3⟩ := h
  obtain ⟨ao, ac, rfl⟩ := owned_open hown
  have c0 := hp.cell (i := 0) (by decide)
  have c1 := ho.cell (i := 0) (by decide)
  have z1 := ho.frozen 0
  have hN := hp.lt
  have hO := ho.lt
  have hNO : N ≠ O := row_ne hp ho (by decide)
  have hrN : N ≠ rb := by omega
  have hrO : O ≠ rb := by omega
  have hlw : lo ≤ w.heap.size := by omega
  have HR := Lib.hid hr
  have HO := Lib.hid ho
  have HOW := Lib.hid hown
  have HRL := Lib.hid hlo3
  clear hr hp ho hown hL hlo3
  go_enter Tryz.func171, Tryz.ntmps171
  go_region_law ((first
      | (refine step_call2 (by rfl) (by rfl) (enters_take _ _) (by rfl) (by rfl) (take_some _ rb (a :: b :: c :: d :: r) 4 HR.out (by simp; omega) (by simp) (by omega)) ?_; rintro e w2 ⟨rfl, hr2, hf2⟩; refine ⟨_, rfl, ?_⟩; have HR2 := Lib.hid hr2; have HF2 := Lib.hid (show Rf rb w w2 from (Rf.of_below ((Below.refl _ _).drew)).trans hf2); have c1' := HF2.out.cell hrO hO c1; clear hr2 hf2; have hst : Str ((a :: b :: c :: d :: r).take 4) = .string ⟨[a, b, c, d].toArray⟩ := rfl; rw [hst]; clear hst)
      | (refine step_call1 (by rfl) (by rfl) enters_number (by rfl) (number_any [a, b, c, d] rfl _) ?_; rintro e w3 ⟨rfl, hb3⟩; refine ⟨_, rfl, ?_⟩; rw [accOf_four]; have HF3 := Lib.hid (HF2.out.trans (Rf.of_below hb3)); have HR3 := Lib.hid (HR2.out.frame hb3); obtain ⟨x, hx⟩ : ∃ x, x = Mz.numberOf a b c d := ⟨_, rfl⟩; rw [← hx]; have HX := Lib.hid hx; have c1'' := HF3.out.cell hrO hO c1; have hO3 : O < w3.heap.size := Nat.lt_of_lt_of_le hO HF3.out.size; clear hb3 hx)
      | (refine step_push_ints (l := [x]) (by rfl) (by rfl) (by rfl) (owns_rf HOW.out (HF3.out.trans (Rf.of_below ((Below.refl _ _).alloc (Nat.le_refl _) _))) HRL.out) (by rfl) (RInts.made _ [x] 3 (by simp)) (by simp; omega) (Nat.le_trans hlw (HF3.out.trans (Rf.of_below ((Below.refl _ _).alloc (Nat.le_refl _) _))).size) ?_; intro v' w' hown' hgr hb'; obtain ⟨va, vc', rfl⟩ := owned_open hown'; have HF4 : Hid (Rf rb w (w3.alloc (.cells #[.int .i64 x] 3))) := HF3.out.trans (Rf.of_below ((Below.refl _ _).alloc (Nat.le_refl _) _)); have HC4 := Lib.hid (HC.out.read HF4.out (HR3.out.frame ((Below.refl _ _).alloc (Nat.le_refl _) (.cells #[.int .i64 x] 3)))); have kc := HF4.out.cell hrO hO c1; have ⟨kk', z0'⟩ := HC4.out.stay kc hgr (by decide); have HST := Lib.hid (HC4.out.store kc hgr hb' hown' (by decide) (by decide) (by decide)); clear hown' hgr hb' kc)))
  all_goals
    have hlen : xs.length + 1 = L.length := by rw [HL.out]; simp
    have hmap : L.map (Value.int .i64) = xs.map (Value.int .i64) ++ [x].map (Value.int .i64) := by rw [HL.out, HX.out, map_snoc]
    have h1 : Caught (w'.setCell ⟨O, 0, none⟩ (.slice va (xs.length + 1) vc')) lo rb N O 27 3 1 L.length (L.map (Value.int .i64)) r := by
      rw [← hlen, hmap]; exact HST.out.1
    have h2 : RfB lo rb w (w'.setCell ⟨O, 0, none⟩ (.slice va (xs.length + 1) vc')) := (HF4.out.toB hlw).trans HST.out.2
    go_end0
    exact ⟨rfl, h1, h2⟩

set_option maxHeartbeats 2000000 in
set_option maxRecDepth 100000 in
theorem numClos_none (w : World) (lo rb N O : Nat) (xs : List Int) (r : List UInt8) (h : Caught w lo rb N O 27 3 1 xs.length (xs.map (Value.int .i64)) r) (hs : r.length < 4) :
    Calls Tryz.prog 171 #[.pointer (some ⟨O, 0, none⟩), .pointer (some ⟨N, 0, none⟩)] w fun e w' => e = shortE ∧ RfB lo rb w w' := by
  obtain ⟨hr, hp, ⟨v, ho, hown⟩, hlo1, hlo2, hlo3⟩ := h
  obtain ⟨ao, ac, rfl⟩ := owned_open hown
  have c0 := hp.cell (i := 0) (by decide)
  have c1 := ho.cell (i := 0) (by decide)
  have hN := hp.lt
  have hO := ho.lt
  have hlw : lo ≤ w.heap.size := by omega
  have HR := Lib.hid hr
  clear hr hp ho hown hlo3
  go_enter Tryz.func171, Tryz.ntmps171
  go_region_law ((first
      | (refine step_call2_short (by rfl) (by rfl) (enters_take _ _) (by rfl) (by rfl) (take_none _ rb r 4 HR.out (by omega) (by omega) (by omega)) ?_; rintro e w2 ⟨rfl, hf2⟩; refine dead_end (P := Tryz.prog) (a := ⟨#[], []⟩) (w := w) ?_ ?_; focus exact ⟨_, rfl, rfl, rfl, ((Rf.of_below ((Below.refl _ _).drew)).trans hf2).toB hlw⟩)
      | fail))
  all_goals exact tok

/-- reading some things by a function literal -/
theorem rdMany_snoc {α : Type} (f : Mz.Rd α) : ∀ (k : Nat) (s : List UInt8), Mz.rdMany f (k + 1) s = match Mz.rdMany f k s with
    | none => none
    | some (l, r) => match f r with
      | none => none
      | some (x, r) => some (l ++ [x], r)
  | 0, s => by simp only [Mz.rdMany]; cases f s <;> rfl
  | k + 1, s => by
    rw [Mz.rdMany]
    conv => rhs; rw [Mz.rdMany]
    cases hf : f s with
    | none => rfl
    | some p =>
      obtain ⟨x, s1⟩ := p
      simp only
      rw [rdMany_snoc f k s1]
      cases Mz.rdMany f k s1 with
      | none => rfl
      | some q =>
        obtain ⟨l, r⟩ := q
        simp only
        cases f r with
        | none => rfl
        | some y => rfl
theorem rdMany_none {α : Type} (f : Mz.Rd α) (k : Nat) (s : List UInt8) (h : Mz.rdMany f k s = none) : ∀ d, Mz.rdMany f (k + d) s = none
  | 0 => h
  | d + 1 => by rw [← Nat.add_assoc, rdMany_snoc, rdMany_none f k s h d]
theorem rdMany_len {α : Type} (f : Mz.Rd α) : ∀ (k : Nat) (s : List UInt8) (l : List α) (r : List UInt8), Mz.rdMany f k s = some (l, r) → l.length = k
  | 0, s, l, r, e => by simp only [Mz.rdMany, Option.some.injEq, Prod.mk.injEq] at e; obtain ⟨rfl, rfl⟩ := e; rfl
  | k + 1, s, l, r, e => by
    rw [Mz.rdMany] at e
    split at e
    · cases e
    · split at e
      · cases e
      · next h2 =>
        simp only [Option.some.injEq, Prod.mk.injEq] at e
        obtain ⟨rfl, rfl⟩ := e
        simp [rdMany_len f k _ _ _ h2]
/-- what the function literal does with one thing more -/
def FoldStep {α : Type} (f : Mz.Rd α) (k : FuncId) (cap : Array Value) (I : List α → List UInt8 → World → Prop) (S : World → Prop) : Prop :=
  ∀ l r w1, l.length < 256 → I l r w1 → (∀ x r', f r = some (x, r') → Calls Tryz.prog k cap w1 fun e w2 => e = .returned (.tuple #[]) ∧ I (l ++ [x]) r' w2) ∧ (f r = none → Calls Tryz.prog k cap w1 fun e w2 => e = shortE ∧ S w2)
def FoldRes {α : Type} (x : Option (List α × List UInt8)) (I : List α → List UInt8 → World → Prop) (S : World → Prop) (e : Ending) (w' : World) : Prop :=
  (∃ l r, x = some (l, r) ∧ e = .returned (.tuple #[]) ∧ I l r w') ∨ (x = none ∧ e = shortE ∧ S w')
theorem rdSome_fold {α : Type} (f : Mz.Rd α) (w : World) (rb : Nat) (s : List UInt8) (k : FuncId) (cap : Array Value) (I : List α → List UInt8 → World → Prop) (S : World → Prop) (h : Rdr w rb s) (hs : s.length ≤ 9223372036854775807)
    (h0 : ∀ n s1, Mz.rdOne s = some (n, s1) → ∀ w1, Rdr w1 rb s1 → Rf rb w w1 → I [] s1 w1) (hS : ∀ w1, Rf rb w w1 → S w1) (hk : Enters k) (hf : FoldStep f k cap I S) :
    Calls Tryz.prog 135 #[.pointer (some ⟨rb, 0, none⟩), .func (.func k) #[] cap] w (FoldRes (Mz.rdSome f s) I S) := by
  refine (rdSome_any w rb s k cap (fun j w1 => ∃ n s1 l r, Mz.rdOne s = some (n, s1) ∧ Mz.rdMany f j s1 = some (l, r) ∧ I l r w1) (fun w1 => Mz.rdSome f s = none ∧ S w1) h hs ?_ ?_ hk ?_).mono ?_
  · intro n s1 hx w1 hr hrf
    exact ⟨n, s1, [], s1, hx, rfl, h0 n s1 hx w1 hr hrf⟩
  · intro hx w1 hrf
    exact ⟨by unfold Mz.rdSome; rw [hx], hS w1 hrf⟩
  · rintro n s1 hx j hj w1 ⟨n', s1', l, r, hx', hm, hI⟩
    rw [hx] at hx'
    simp only [Option.some.injEq, Prod.mk.injEq] at hx'
    obtain ⟨rfl, rfl⟩ := hx'
    have hl := rdMany_len f j s1 l r hm
    have hb := rdOne_bound hx
    obtain ⟨a1, a2⟩ := hf l r w1 (by omega) hI
    cases hfr : f r with
    | some p =>
      obtain ⟨x, r'⟩ := p
      refine (a1 x r' hfr).mono fun e w2 hh => .inl ⟨hh.1, n, s1, l ++ [x], r', hx, ?_, hh.2⟩
      rw [rdMany_snoc, hm]; simp only; rw [hfr]
    | none =>
      refine (a2 hfr).mono fun e w2 hh => .inr ⟨hh.1, ?_, hh.2⟩
      unfold Mz.rdSome; rw [hx]; simp only
      have e1 : Mz.rdMany f (j + 1) s1 = none := by rw [rdMany_snoc, hm]; simp only; rw [hfr]
      have e2 := rdMany_none f (j + 1) s1 e1 (n.toNat - (j + 1))
      rwa [show j + 1 + (n.toNat - (j + 1)) = n.toNat by omega] at e2
  · rintro e w' (⟨n, s1, hx, rfl, n', s1', l, r, hx', hm, hI⟩ | ⟨rfl, hn, hS'⟩)
    · rw [hx] at hx'
      simp only [Option.some.injEq, Prod.mk.injEq] at hx'
      obtain ⟨rfl, rfl⟩ := hx'
      exact .inl ⟨l, r, by unfold Mz.rdSome; rw [hx]; exact hm, rfl, hI⟩
    · exact .inr ⟨hn, rfl, hS'⟩

/-- what a reader of some things lays at its beginning -/
theorem Caught.start {w w1 : World} {rb : Nat} {tO tE : TypeId} {sz : Nat} {r : List UInt8} (hl : rb < w.heap.size) (hr : Rdr w1 rb r) (hf : Rf rb ((w.alloc (.cells #[.pointer (some ⟨rb, 0, none⟩)] 141)).alloc (.cells #[.slice none 0 0] tO)) w1) :
    Caught w1 w.heap.size rb w.heap.size (w.heap.size + 1) tO tE sz 0 [] r ∧ RfB w.heap.size rb w w1 := by
  have r0 : (w.alloc (.cells #[.pointer (some ⟨rb, 0, none⟩)] 141)).rowIs w.heap.size 141 1 (fun _ => .pointer (some ⟨rb, 0, none⟩)) := World.rowIs_alloc w _ _ _ (fun i hi => by
    obtain rfl : i = 0 := by simpa using hi
    rfl)
  have hs : (w.alloc (.cells #[.pointer (some ⟨rb, 0, none⟩)] 141)).heap.size = w.heap.size + 1 := by simp
  have r1 := World.rowIs_alloc (w.alloc (.cells #[.pointer (some ⟨rb, 0, none⟩)] 141)) #[.slice none 0 0] tO (fun _ => .slice none 0 0) (fun i hi => by
    obtain rfl : i = 0 := by simpa using hi
    rfl)
  rw [hs] at r1
  have b1 : Below (w.heap.size + 1) (w.alloc (.cells #[.pointer (some ⟨rb, 0, none⟩)] 141)) ((w.alloc (.cells #[.pointer (some ⟨rb, 0, none⟩)] 141)).alloc (.cells #[.slice none 0 0] tO)) := (Below.refl _ _).alloc (by rw [hs]; exact Nat.le_refl _) _
  have r0' := r0.of_block (b1.block _ (Nat.lt_succ_self _))
  have b0 : Below w.heap.size w ((w.alloc (.cells #[.pointer (some ⟨rb, 0, none⟩)] 141)).alloc (.cells #[.slice none 0 0] tO)) := ((Below.refl _ _).alloc (Nat.le_refl _) _).alloc (by rw [hs]; exact Nat.le_succ _) _
  refine ⟨⟨hr, hf.row r0' (by omega), ⟨_, hf.row r1 (by omega), World.ownsRow_nil _ _ _ _⟩, Nat.le_refl _, Nat.le_succ _, hl⟩, (RfB.of_below b0).trans (hf.toB b0.size)⟩

/-- a fresh row of numbers -/
def mkInts (lo : Nat) (l : List Int) (v : Value) (w' : World) : Prop := w'.ownsRow lo 3 1 v l.length (l.map (Value.int .i64))
theorem enters_numClos : Enters 171 := enters_of Tryz.func171 (by kernel_rfl) (by kernel_rfl)
set_option maxHeartbeats 2000000 in
set_option maxRecDepth 100000 in
theorem rdNumbers_any (w : World) (rb : Nat) (s : List UInt8) (h : Rdr w rb s) (hs : s.length ≤ 9223372036854775807) :
    Calls Tryz.prog 134 #[.pointer (some ⟨rb, 0, none⟩)] w (RdRes rb w (mkInts w.heap.size) (Mz.rdSome Mz.rdFour s)) := by
  have hlt := World.rowIs.lt h
  have H := Lib.hid h
  clear h
  go_enter Tryz.func134, Tryz.ntmps134
  go_wp2_with fail
  refine (rdSome_fold Mz.rdFour _ rb s _ _ (fun l r w1 => Caught w1 w.heap.size rb w.heap.size (w.heap.size + 1) 27 3 1 l.length (l.map (Value.int .i64)) r ∧ r.length ≤ 9223372036854775807 ∧ RfB w.heap.size rb w w1) (fun w1 => RfB w.heap.size rb w w1) ?_ hs ?_ ?_ enters_numClos ?_).mono ?_
  case refine_1 => exact (H.out.frame ((Below.refl _ _).alloc (Nat.le_refl _) _)).frame ((Below.refl _ _).alloc (Nat.le_refl _) _)
  case refine_2 =>
    intro n s1 hx w1 hr hrf
    obtain ⟨a1, a2⟩ := Caught.start (tE := 3) (sz := 1) hlt hr hrf
    refine ⟨a1, ?_, a2⟩
    cases s with
    | nil => cases hx
    | cons b s =>
      simp only [Mz.rdOne, Option.some.injEq, Prod.mk.injEq] at hx
      rw [← hx.2]; simp only [List.length_cons] at hs; omega
  case refine_3 =>
    intro w1 hrf
    exact (RfB.of_below (((Below.refl _ _).alloc (Nat.le_refl _) _).alloc (by simp) _)).trans (hrf.toB (by simp; omega))
  case refine_4 =>
    rintro l r w1 hl ⟨hc, hrl, hf⟩
    rcases four_cases r with ⟨a, b, c, d, r1, rfl⟩ | ⟨h4, hx⟩
    · refine ⟨fun x r' hx => ?_, fun hx => nomatch (show some (Mz.numberOf a b c d, r1) = none from hx)⟩
      simp only [Mz.rdFour, Option.some.injEq, Prod.mk.injEq] at hx
      obtain ⟨rfl, rfl⟩ := hx
      have hrl' : r1.length + 4 ≤ 9223372036854775807 := by simpa using hrl
      refine (numClos_some w1 _ rb _ _ l a b c d r1 hc hrl' (by omega)).mono ?_
      rintro e w2 ⟨rfl, hc2, hf2⟩
      exact ⟨rfl, hc2, by omega, hf.trans hf2⟩
    · refine ⟨fun x r' hx' => (by rw [hx] at hx'; cases hx'), fun _ => ?_⟩
      refine (numClos_none w1 _ rb _ _ l r hc h4).mono ?_
      rintro e w2 ⟨rfl, hf2⟩
      exact ⟨rfl, hf.trans hf2⟩
  · rintro e w1 (⟨l, r, hx, rfl, hc, _, hf⟩ | ⟨hx, rfl, hf⟩)
    · obtain ⟨hr, hp, ⟨v, ho, hown⟩, _⟩ := hc
      obtain ⟨ao, ac, rfl⟩ := owned_open hown
      have c1 := ho.cell (i := 0) (by decide)
      have HX := Lib.hid hx
      have HR := Lib.hid hr
      have HF := Lib.hid hf
      have HOW := Lib.hid hown
      clear hx hr hf hown hp ho
      go_wp2_with fail
      go_ret
      exact ⟨HF.out.toRf, .inl ⟨l, r, _, HX.out, rfl, HOW.out, HR.out⟩⟩
    · exact ⟨rfl, hf.toRf, .inr ⟨hx, rfl⟩⟩
end Go.Proofs.YthdomhejkbpabaaGreat

/- The program's reader: a value, values. -/
namespace Go.Proofs.YthdomhejkbpabaaGreat
open Go.RowKit

def mkVal (x : Mz.Val) (v : Value) (_ : World) : Prop := v = .agg #[.bool x.ref, .int .i64 x.n]
theorem row_val0 (w : World) : (w.alloc (.cells #[.bool false, .int .i64 0] 103)).rowIs w.heap.size 103 2 (fun i => if i = 0 then .bool false else .int .i64 0) :=
  World.rowIs_alloc w #[.bool false, .int .i64 0] 103 _ (fun i hi => by
    have : i = 0 ∨ i = 1 := by simp at hi; omega
    rcases this with rfl | rfl <;> rfl)
set_option maxHeartbeats 1000000 in
set_option maxRecDepth 100000 in
theorem rdVal_any (w : World) (rb : Nat) (s : List UInt8) (h : Rdr w rb s) (hs : s.length ≤ 9223372036854775807) :
    Calls Tryz.prog 174 #[.pointer (some ⟨rb, 0, none⟩)] w (RdRes rb w mkVal (Mz.rdVal s)) := by
  have H := Lib.hid h
  have hlt := World.rowIs.lt h
  clear h
  go_enter Tryz.func174, Tryz.ntmps174
  go_wp2_with fail
  refine (rdOne_any _ rb s (H.out.frame ((Below.refl _ _).alloc (Nat.le_refl _) _)) hs).mono ?_
  rintro e w1 ⟨hrf, (⟨n, s1, v, hx, rfl, rfl, hr⟩ | ⟨hx, rfl⟩)⟩
  · have hb := rdOne_bound hx
    obtain ⟨N, rfl⟩ : ∃ N : Nat, n = (N : Int) := ⟨n.toNat, by omega⟩
    have hs1 : s1.length ≤ 9223372036854775807 := by
      cases s with
      | nil => cases hx
      | cons b s =>
        simp only [Mz.rdOne, Option.some.injEq, Prod.mk.injEq] at hx
        rw [← hx.2]; simp only [List.length_cons] at hs; omega
    have r1 := Lib.hid (hrf.row (row_val0 w) (by omega))
    have HX := Lib.hid hx
    have HR := Lib.hid hr
    have HF := Lib.hid (show Rf rb w w1 from (Rf.of_below ((Below.refl _ _).alloc (Nat.le_refl _) _)).trans hrf)
    clear hx hr hrf hb
    by_cases h1 : (1 : Int) < (N : Int)
    · go_wp2_with fail
      exact ⟨rfl, HF.out, .inr ⟨by unfold Mz.rdVal; rw [HX.out]; simp [h1], rfl⟩⟩
    · have H1 := Lib.hid h1
      rcases four_cases s1 with ⟨a, b, c, d, r, rfl⟩ | ⟨h4, hx4⟩
      · have hne : rb ≠ w.heap.size := by omega
        have HNE := Lib.hid hne
        go_wp2_with fail
        refine (take_some _ rb (a :: b :: c :: d :: r) 4 HR.out hs1 (by simp) (by omega)).mono ?_
        rintro e w2 ⟨rfl, hr2, hf2⟩
        have hst : Str ((a :: b :: c :: d :: r).take 4) = .string ⟨[a, b, c, d].toArray⟩ := rfl
        rw [hst]
        have HR2 := Lib.hid hr2
        have HF2 := Lib.hid hf2
        clear hr2 hf2 hst
        go_wp2_with fail
        refine (number_any [a, b, c, d] rfl _).mono ?_
        rintro e w3 ⟨rfl, hb3⟩
        rw [accOf_four]
        have r3 := (HF2.out.trans (Rf.of_below hb3)).row r1.out (Ne.symm HNE.out)
        have c0 := r3.cell (i := 0) (by decide)
        have c1 := r3.cell (i := 1) (by decide)
        have z0 := r3.frozen 0
        have z1 := r3.frozen 1
        have HF3 := Lib.hid (HF.out.trans (HF2.out.trans (Rf.of_below hb3)))
        have HR3 := Lib.hid (HR2.out.frame hb3)
        have hlt3 := r3.lt
        have HR0 := Lib.hid r3
        clear r3 hb3
        go_wp2_with fail
        have r4 := (HR0.out.set 0 (.bool ((N : Int) == 1)))
        have k0 := r4.cell (i := 0) (by decide)
        have r5 := r4.set 1 (.int .i64 (Mz.numberOf a b c d))
        have k1 := r5.cell (i := 1) (by decide)
        rw [if_pos rfl] at k0 k1
        refine bodyPost_ret (by simp [results, Tryz.results174, go_sem, k0, k1]; try rfl) rfl ?_
        refine ⟨?_, .inl ⟨⟨(N : Int) == 1, Mz.numberOf a b c d⟩, r, _, ?_, rfl, rfl, ?_⟩⟩
        · exact (((HF3.out.toB (Nat.le_refl _)).trans (RfB.of_below ((((Only.refl _ _).setCell 0 _).setCell 1 _).below (Nat.le_refl _))))).toRf
        · unfold Mz.rdVal; rw [HX.out]; simp only; rw [if_neg (by have := H1.out; omega)]; rfl
        · exact World.rowIs.of_block HR3.out (by rw [Below.heap_setCell _ _ _ _ HNE.out, Below.heap_setCell _ _ _ _ HNE.out])
      · go_wp2_with fail
        refine (take_none _ rb s1 4 HR.out (by omega) (by omega) (by omega)).mono ?_
        rintro e w2 ⟨rfl, hf2⟩
        refine ⟨rfl, HF.out.trans hf2, .inr ⟨?_, rfl⟩⟩
        unfold Mz.rdVal; rw [HX.out]; simp only; rw [if_neg (by have := H1.out; omega), hx4]
  · exact ⟨rfl, (Rf.of_below ((Below.refl _ _).alloc (Nat.le_refl _) _)).trans hrf, .inr ⟨by unfold Mz.rdVal; rw [hx], rfl⟩⟩

/-- what a fresh row of cells is read as -/
theorem Sl.made (w : World) (cs : Array Value) (T : TypeId) (n sz : Nat) (h1 : cs.size = n * sz) (h2 : n * (8 * sz) ≤ 140737488351232) (h3 : n ≤ maxLen) : Sl (w.alloc (.cells cs T)) (w.heap.size + 1) (.slice (some ⟨w.heap.size, 0, none⟩) n n) n sz cs.toList := by
  refine ⟨_, _, rfl, by simpa using h1, Nat.le_refl _, h3, h2, by simp, fun _ => ⟨_, _, rfl, by omega, fun j u hu => ?_⟩⟩
  rw [Nat.zero_add, World.cell?_alloc_new]; simpa using hu
theorem RVals.made1 (w : World) (x : Mz.Val) (T : TypeId) : RVals (w.alloc (.cells #[.bool x.ref, .int .i64 x.n] T)) (w.heap.size + 1) (.slice (some ⟨w.heap.size, 0, none⟩) 1 1) [x] :=
  Sl.made w #[.bool x.ref, .int .i64 x.n] T 1 2 rfl (by omega) (by unfold maxLen; omega)
theorem RdRes.some_of {α : Type} {rb : Nat} {w : World} {mk : α → Value → World → Prop} {a : α} {r : List UInt8} {e : Ending} {w' : World} (h : RdRes rb w mk (some (a, r)) e w') : ∃ v, e = .returned v ∧ mk a v w' ∧ Rdr w' rb r ∧ Rf rb w w' := by
  obtain ⟨h1, (⟨a', r', v, hx, he, hm, hr⟩ | ⟨hx, _⟩)⟩ := h
  · simp only [Option.some.injEq, Prod.mk.injEq] at hx
    obtain ⟨rfl, rfl⟩ := hx
    exact ⟨v, he, hm, hr, h1⟩
  · cases hx
theorem RdRes.none_of {α : Type} {rb : Nat} {w : World} {mk : α → Value → World → Prop} {e : Ending} {w' : World} (h : RdRes rb w mk none e w') : e = shortE ∧ Rf rb w w' := by
  obtain ⟨h1, (⟨a', r', v, hx, _⟩ | ⟨_, he⟩)⟩ := h
  · cases hx
  · exact ⟨he, h1⟩
theorem enters_value : Enters 174 := enters_of Tryz.func174 (by kernel_rfl) (by kernel_rfl)
theorem enters_valClos : Enters 173 := enters_of Tryz.func173 (by kernel_rfl) (by kernel_rfl)

set_option maxHeartbeats 2000000 in
set_option maxRecDepth 100000 in
theorem valClos_some (w : World) (lo rb N O : Nat) (xs : List Mz.Val) (x : Mz.Val) (s r : List UInt8) (h : Caught w lo rb N O 95 103 2 xs.length (xs.flatMap valCells) s) (hs : s.length ≤ 9223372036854775807) (hx : Mz.rdVal s = some (x, r)) (hn : xs.length ≤ 1000) :
    Calls Tryz.prog 173 #[.pointer (some ⟨O, 0, none⟩), .pointer (some ⟨N, 0, none⟩)] w fun e w' => e = .returned (.tuple #[]) ∧ Caught w' lo rb N O 95 103 2 (xs ++ [x]).length ((xs ++ [x]).flatMap valCells) r ∧ RfB lo rb w w' := by
  obtain ⟨L, hL⟩ : ∃ L, L = xs ++ [x] := ⟨_, rfl⟩
  rw [← hL]
  have HL := Lib.hid hL
  have HC := Lib.hid h
  have HX := Lib.hid hx
  obtain ⟨hr, hp, ⟨v, ho, hown⟩, hlo1, hlo2, hlo3⟩ := h
  obtain ⟨ao, ac, rfl⟩ := owned_open hown
  have c0 := hp.cell (i := 0) (by decide)
  have c1 := ho.cell (i := 0) (by decide)
  have z1 := ho.frozen 0
  have hN := hp.lt
  have hO := ho.lt
  have hNO : N ≠ O := row_ne hp ho (by decide)
  have hrN : N ≠ rb := by omega
  have hrO : O ≠ rb := by omega
  have hlw : lo ≤ w.heap.size := by omega
  have HR := Lib.hid hr
  have HOW := Lib.hid hown
  have HRL := Lib.hid hlo3
  clear hr hp ho hown hL hlo3 hx
  go_enter Tryz.func173, Tryz.ntmps173
  go_region_law ((first
      | (refine step_call1 (by rfl) (by rfl) enters_value (by rfl) (rdVal_any _ rb s HR.out hs) ?_; intro e w3 hres; rw [HX.out] at hres; obtain ⟨v0, rfl, rfl, hr2, hf2⟩ := hres.some_of; refine ⟨_, rfl, ?_⟩; have HR3 := Lib.hid hr2; have HF3 := Lib.hid (show Rf rb w w3 from (Rf.of_below ((Below.refl _ _).drew)).trans hf2); have c1'' := HF3.out.cell hrO hO c1; have hO3 : O < w3.heap.size := Nat.lt_of_lt_of_le hO HF3.out.size; clear hr2 hf2 hres)
      | (refine step_push_vals (l := [x]) (by rfl) (by rfl) (by rfl) (owns_rf HOW.out (HF3.out.trans (Rf.of_below ((Below.refl _ _).alloc (Nat.le_refl _) _))) HRL.out) (by rfl) (RVals.made1 _ x 103) (by simp; omega) (Nat.le_trans hlw (HF3.out.trans (Rf.of_below ((Below.refl _ _).alloc (Nat.le_refl _) _))).size) ?_; intro v' w' hown' hgr hb'; obtain ⟨va, vc', rfl⟩ := owned_open hown'; have HF4 : Hid (Rf rb w (w3.alloc (.cells #[.bool x.ref, .int .i64 x.n] 103))) := HF3.out.trans (Rf.of_below ((Below.refl _ _).alloc (Nat.le_refl _) _)); have HC4 := Lib.hid (HC.out.read HF4.out (HR3.out.frame ((Below.refl _ _).alloc (Nat.le_refl _) (.cells #[.bool x.ref, .int .i64 x.n] 103)))); have kc := HF4.out.cell hrO hO c1; have ⟨kk', z0'⟩ := HC4.out.stay kc hgr (by decide); have HST := Lib.hid (HC4.out.store kc hgr hb' hown' (by decide) (by decide) (by decide)); clear hown' hgr hb' kc)))
  all_goals
    have hlen : xs.length + 1 = L.length := by rw [HL.out]; simp
    have hmap : L.flatMap valCells = xs.flatMap valCells ++ [x].flatMap valCells := by rw [HL.out, List.flatMap_append]
    have h1 : Caught (w'.setCell ⟨O, 0, none⟩ (.slice va (xs.length + 1) vc')) lo rb N O 95 103 2 L.length (L.flatMap valCells) r := by
      rw [← hlen, hmap]; exact HST.out.1
    have h2 : RfB lo rb w (w'.setCell ⟨O, 0, none⟩ (.slice va (xs.length + 1) vc')) := (HF4.out.toB hlw).trans HST.out.2
    go_end0
    exact ⟨rfl, h1, h2⟩

set_option maxHeartbeats 2000000 in
set_option maxRecDepth 100000 in
theorem valClos_none (w : World) (lo rb N O : Nat) (xs : List Mz.Val) (r : List UInt8) (h : Caught w lo rb N O 95 103 2 xs.length (xs.flatMap valCells) r) (hs : r.length ≤ 9223372036854775807) (hx : Mz.rdVal r = none) :
    Calls Tryz.prog 173 #[.pointer (some ⟨O, 0, none⟩), .pointer (some ⟨N, 0, none⟩)] w fun e w' => e = shortE ∧ RfB lo rb w w' := by
  have HX := Lib.hid hx
  obtain ⟨hr, hp, ⟨v, ho, hown⟩, hlo1, hlo2, hlo3⟩ := h
  obtain ⟨ao, ac, rfl⟩ := owned_open hown
  have c0 := hp.cell (i := 0) (by decide)
  have c1 := ho.cell (i := 0) (by decide)
  have hN := hp.lt
  have hO := ho.lt
  have hlw : lo ≤ w.heap.size := by omega
  have HR := Lib.hid hr
  clear hr hp ho hown hlo3 hx
  go_enter Tryz.func173, Tryz.ntmps173
  go_region_law ((first
      | (refine step_call_short (by rfl) (by rfl) (enters_value _ _) (by rfl) (rdVal_any _ rb r HR.out hs) ?_; intro e w2 hres; rw [HX.out] at hres; obtain ⟨rfl, hf2⟩ := hres.none_of; refine dead_end (P := Tryz.prog) (a := ⟨#[], []⟩) (w := w) ?_ ?_; focus exact ⟨_, rfl, rfl, rfl, ((Rf.of_below ((Below.refl _ _).drew)).trans hf2).toB hlw⟩)
      | fail))
  all_goals exact tok

/-- a fresh row of values -/
def mkVals (lo : Nat) (l : List Mz.Val) (v : Value) (w' : World) : Prop := w'.ownsRow lo 103 2 v l.length (l.flatMap valCells)
theorem rdVal_len {s r : List UInt8} {x : Mz.Val} (h : Mz.rdVal s = some (x, r)) : r.length ≤ s.length := by
  unfold Mz.rdVal at h
  cases s with
  | nil => cases h
  | cons b s =>
    simp only [Mz.rdOne] at h
    split at h
    · cases h
    · rcases four_cases s with ⟨a, b, c, d, r1, rfl⟩ | ⟨h4, hx⟩
      · simp only [Mz.rdFour, Option.some.injEq, Prod.mk.injEq] at h
        rw [← h.2]; simp only [List.length_cons]; omega
      · rw [hx] at h; cases h
theorem rdOne_len {s r : List UInt8} {n : Int} (h : Mz.rdOne s = some (n, r)) : r.length + 1 = s.length := by
  cases s with
  | nil => cases h
  | cons b s =>
    simp only [Mz.rdOne, Option.some.injEq, Prod.mk.injEq] at h
    rw [← h.2]; simp
set_option maxHeartbeats 2000000 in
set_option maxRecDepth 100000 in
theorem rdValues_any (w : World) (rb : Nat) (s : List UInt8) (h : Rdr w rb s) (hs : s.length ≤ 9223372036854775807) :
    Calls Tryz.prog 138 #[.pointer (some ⟨rb, 0, none⟩)] w (RdRes rb w (mkVals w.heap.size) (Mz.rdSome Mz.rdVal s)) := by
  have hlt := World.rowIs.lt h
  have H := Lib.hid h
  clear h
  go_enter Tryz.func138, Tryz.ntmps138
  go_wp2_with fail
  refine (rdSome_fold Mz.rdVal _ rb s _ _ (fun l r w1 => Caught w1 w.heap.size rb w.heap.size (w.heap.size + 1) 95 103 2 l.length (l.flatMap valCells) r ∧ r.length ≤ 9223372036854775807 ∧ RfB w.heap.size rb w w1) (fun w1 => RfB w.heap.size rb w w1) ?_ hs ?_ ?_ enters_valClos ?_).mono ?_
  case refine_1 => exact (H.out.frame ((Below.refl _ _).alloc (Nat.le_refl _) _)).frame ((Below.refl _ _).alloc (Nat.le_refl _) _)
  case refine_2 =>
    intro n s1 hx w1 hr hrf
    obtain ⟨a1, a2⟩ := Caught.start (tE := 103) (sz := 2) hlt hr hrf
    exact ⟨a1, by have := rdOne_len hx; omega, a2⟩
  case refine_3 =>
    intro w1 hrf
    exact (RfB.of_below (((Below.refl _ _).alloc (Nat.le_refl _) _).alloc (by simp) _)).trans (hrf.toB (by simp; omega))
  case refine_4 =>
    rintro l r w1 hl ⟨hc, hrl, hf⟩
    refine ⟨fun x r' hx => ?_, fun hx => ?_⟩
    · have := rdVal_len hx
      refine (valClos_some w1 _ rb _ _ l x r r' hc hrl hx (by omega)).mono ?_
      rintro e w2 ⟨rfl, hc2, hf2⟩
      exact ⟨rfl, hc2, by omega, hf.trans hf2⟩
    · refine (valClos_none w1 _ rb _ _ l r hc hrl hx).mono ?_
      rintro e w2 ⟨rfl, hf2⟩
      exact ⟨rfl, hf.trans hf2⟩
  · rintro e w1 (⟨l, r, hx, rfl, hc, _, hf⟩ | ⟨hx, rfl, hf⟩)
    · obtain ⟨hr, hp, ⟨v, ho, hown⟩, _⟩ := hc
      obtain ⟨ao, ac, rfl⟩ := owned_open hown
      have c1 := ho.cell (i := 0) (by decide)
      have HX := Lib.hid hx
      have HR := Lib.hid hr
      have HF := Lib.hid hf
      have HOW := Lib.hid hown
      clear hx hr hf hown hp ho
      go_wp2_with fail
      go_ret
      exact ⟨HF.out.toRf, .inl ⟨l, r, _, HX.out, rfl, HOW.out, HR.out⟩⟩
    · exact ⟨rfl, hf.toRf, .inr ⟨hx, rfl⟩⟩
end Go.Proofs.YthdomhejkbpabaaGreat

/- The machine's box of the reader. -/
namespace Go.Proofs.YthdomhejkbpabaaGreat
open Go.RowKit

/-- all but rows of type T have stayed -/
def Bes (T : TypeId) (w w' : World) : Prop := ∀ k, k < w.heap.size → (∀ c fr, w.heap[k]? ≠ some (.cells c T fr)) → w'.heap[k]? = w.heap[k]?
theorem Bes.row {T : TypeId} {w w' : World} (h : Bes T w w') {b : Nat} {t : TypeId} {n : Nat} {f : Nat → Value} (hr : w.rowIs b t n f) (ht : t ≠ T) : w'.rowIs b t n f := by
  refine hr.of_block (h b hr.lt fun c fr e => ?_)
  obtain ⟨cs, h1, _⟩ := hr
  rw [e] at h1
  simp only [Option.some.injEq, Obj.cells.injEq] at h1
  exact ht h1.2.1.symm
theorem Bes.owns {T : TypeId} {w w' : World} (h : Bes T w w') {lo : Nat} {t : TypeId} {sz n : Nat} {v : Value} {cs : List Value} (ho : w.ownsRow lo t sz v n cs) (ht : t ≠ T) : w'.ownsRow lo t sz v n cs := by
  refine owns_of_block ho fun g hg => h g (ho.lt g hg).2 fun c fr e => ?_
  rcases ho.2 with ⟨rfl, _⟩ | ⟨g', cap, cur, rfl, _, h3, _⟩
  · cases hg
  · simp only [Value.ownBlock, Option.some.injEq] at hg
    subst hg
    rw [e] at h3
    simp only [Option.some.injEq, Obj.cells.injEq] at h3
    exact ht h3.2.1.symm
theorem Bes.of_grown {T : TypeId} {w w' : World} {lo sz n : Nat} {v : Value} {cs : List Value} (hg : w.grownBy w' v.ownBlock) (ho : w.ownsRow lo T sz v n cs) : Bes T w w' := by
  intro k hk hn
  refine hg.block k hk (fun e => ?_)
  rcases ho.2 with ⟨rfl, _⟩ | ⟨g, cap, cur, rfl, _, h3, _⟩
  · cases e
  · simp only [Value.ownBlock, Option.some.injEq] at e
    subst e
    exact hn _ _ h3
theorem Bes.of_rf {w w' : World} {rb : Nat} {r : List UInt8} (hf : Rf rb w w') (hr : Rdr w rb r) : Bes 143 w w' := by
  intro k hk hn
  refine hf.block k hk (fun e => ?_)
  obtain ⟨c, h1, _⟩ := hr
  exact hn _ _ (by rw [e]; exact h1)
theorem Bes.of_set {T : TypeId} {w : World} {M n : Nat} {f : Nat → Value} (hr : w.rowIs M T n f) (i : Nat) (v : Value) : Bes T w (w.setCell ⟨M, i, none⟩ v) := by
  intro k hk hn
  refine Below.heap_setCell _ _ _ _ (fun e => ?_)
  obtain ⟨c, h1, _⟩ := hr
  exact hn _ _ (by rw [e]; exact h1)
theorem Bes.of_below {T : TypeId} {w w' : World} (h : Below w.heap.size w w') : Bes T w w' := fun k hk _ => h.block k hk

def mfld (fv bv iv ov : Value) (st tr : Int) : Nat → Value
  | 0 => fv | 1 => bv | 2 => iv | 3 => ov | 4 => .int .i64 st | _ => .int .i64 tr
/-- a machine that is being read, in the box M -/
structure MBox (w : World) (lo M : Nat) (fps : List (Mz.Frm × Value × Value)) (bps : List (List Int × Value)) (inp out : List Int) (st tr : Int) (fv bv iv ov : Value) : Prop where
  row : w.rowIs M 29 6 (mfld fv bv iv ov st tr)
  low : lo ≤ M
  f : w.ownsRow lo 97 4 fv fps.length (fps.flatMap frmCells)
  b : w.ownsRow lo 27 1 bv bps.length (bps.map (·.2))
  i : w.ownsRow lo 3 1 iv inp.length (inp.map (Value.int .i64))
  o : w.ownsRow lo 3 1 ov out.length (out.map (Value.int .i64))
  frs : ∀ x ∈ fps, w.ownsRow lo 103 2 x.2.1 x.1.locals.length (x.1.locals.flatMap valCells) ∧ w.ownsRow lo 103 2 x.2.2 x.1.stack.length (x.1.stack.flatMap valCells)
  bls : ∀ x ∈ bps, w.ownsRow lo 3 1 x.2 x.1.length (x.1.map (Value.int .i64))
section
variable {w w' : World} {lo M : Nat} {fps : List (Mz.Frm × Value × Value)} {bps : List (List Int × Value)} {inp out : List Int} {st tr : Int} {fv bv iv ov : Value}
theorem MBox.bes (h : MBox w lo M fps bps inp out st tr fv bv iv ov) {T : TypeId} (hb : Bes T w w') (hT : 29 ≠ T ∧ 97 ≠ T ∧ 27 ≠ T ∧ 3 ≠ T ∧ 103 ≠ T) : MBox w' lo M fps bps inp out st tr fv bv iv ov := by
  obtain ⟨h1, h2, h3, h4, h5, h6, h7, h8⟩ := h
  obtain ⟨t1, t2, t3, t4, t5⟩ := hT
  exact ⟨hb.row h1 t1, h2, hb.owns h3 t2, hb.owns h4 t3, hb.owns h5 t4, hb.owns h6 t4, fun x hx => ⟨hb.owns (h7 x hx).1 t5, hb.owns (h7 x hx).2 t5⟩, fun x hx => hb.owns (h8 x hx) t4⟩
theorem MBox.rf {rb : Nat} {r : List UInt8} (h : MBox w lo M fps bps inp out st tr fv bv iv ov) (hf : Rf rb w w') (hr : Rdr w rb r) : MBox w' lo M fps bps inp out st tr fv bv iv ov :=
  h.bes (Bes.of_rf hf hr) (by decide)
theorem MBox.below (h : MBox w lo M fps bps inp out st tr fv bv iv ov) (hb : Below w.heap.size w w') : MBox w' lo M fps bps inp out st tr fv bv iv ov :=
  h.bes (T := 143) (Bes.of_below hb) (by decide)
/-- the rest stays where the machine's own box is written -/
theorem MBox.write (h : MBox w lo M fps bps inp out st tr fv bv iv ov) (k : Nat) (v : Value) {fv' bv' iv' ov' : Value} {inp' out' : List Int} {st' tr' : Int}
    (hf : ∀ j, j < 6 → (if j = k then v else mfld fv bv iv ov st tr j) = mfld fv' bv' iv' ov' st' tr' j)
    (ef : fv' = fv) (eb : bv' = bv) (hi : w.ownsRow lo 3 1 iv' inp'.length (inp'.map (Value.int .i64))) (ho : w.ownsRow lo 3 1 ov' out'.length (out'.map (Value.int .i64))) :
    MBox (w.setCell ⟨M, k, none⟩ v) lo M fps bps inp' out' st' tr' fv' bv' iv' ov' := by
  obtain ⟨h1, h2, h3, h4, h5, h6, h7, h8⟩ := h
  subst ef eb
  have hb := Bes.of_set h1 k v
  exact ⟨(h1.set k v).congr hf, h2, hb.owns h3 (by decide), hb.owns h4 (by decide), hb.owns hi (by decide), hb.owns ho (by decide), fun x hx => ⟨hb.owns (h7 x hx).1 (by decide), hb.owns (h7 x hx).2 (by decide)⟩, fun x hx => hb.owns (h8 x hx) (by decide)⟩
theorem MBox.stayB (h : MBox w lo M fps bps inp out st tr fv bv iv ov) (hg : w.grownBy w' bv.ownBlock) : w'.rowIs M 29 6 (mfld fv bv iv ov st tr) := (Bes.of_grown hg h.b).row h.row (by decide)
theorem MBox.stayF (h : MBox w lo M fps bps inp out st tr fv bv iv ov) (hg : w.grownBy w' fv.ownBlock) : w'.rowIs M 29 6 (mfld fv bv iv ov st tr) := (Bes.of_grown hg h.f).row h.row (by decide)
theorem MBox.pushB (h : MBox w lo M fps bps inp out st tr fv bv iv ov) (hg : w.grownBy w' bv.ownBlock) {x : List Int} {u bv' : Value} (hu : w.ownsRow lo 3 1 u x.length (x.map (Value.int .i64))) (ho : w'.ownsRow lo 27 1 bv' (bps.length + 1) (bps.map (·.2) ++ [u])) :
    MBox (w'.setCell ⟨M, 1, none⟩ bv') lo M fps (bps ++ [(x, u)]) inp out st tr fv bv' iv ov := by
  obtain ⟨h1, h2, h3, h4, h5, h6, h7, h8⟩ := h
  have hb := Bes.of_grown hg h4
  have r1 := hb.row h1 (by decide)
  have hs := Bes.of_set r1 1 bv'
  refine ⟨(r1.set 1 bv').congr ?_, h2, hs.owns (hb.owns h3 (by decide)) (by decide), ?_, hs.owns (hb.owns h5 (by decide)) (by decide), hs.owns (hb.owns h6 (by decide)) (by decide), fun x hx => ⟨hs.owns (hb.owns (h7 x hx).1 (by decide)) (by decide), hs.owns (hb.owns (h7 x hx).2 (by decide)) (by decide)⟩, fun y hy => ?_⟩
  · intro j hj
    match j, hj with
    | 0, _ => rfl | 1, _ => rfl | 2, _ => rfl | 3, _ => rfl | 4, _ => rfl | 5, _ => rfl
  · have := hs.owns ho (by decide)
    simpa using this
  · rcases List.mem_append.1 hy with hy | hy
    · exact hs.owns (hb.owns (h8 y hy) (by decide)) (by decide)
    · obtain rfl : y = (x, u) := by simpa using hy
      exact hs.owns (hb.owns hu (by decide)) (by decide)
theorem MBox.pushF (h : MBox w lo M fps bps inp out st tr fv bv iv ov) (hg : w.grownBy w' fv.ownBlock) {x : Mz.Frm × Value × Value} {fv' : Value}
    (hu : w.ownsRow lo 103 2 x.2.1 x.1.locals.length (x.1.locals.flatMap valCells) ∧ w.ownsRow lo 103 2 x.2.2 x.1.stack.length (x.1.stack.flatMap valCells)) (ho : w'.ownsRow lo 97 4 fv' (fps.length + 1) (fps.flatMap frmCells ++ frmCells x)) :
    MBox (w'.setCell ⟨M, 0, none⟩ fv') lo M (fps ++ [x]) bps inp out st tr fv' bv iv ov := by
  obtain ⟨h1, h2, h3, h4, h5, h6, h7, h8⟩ := h
  have hb := Bes.of_grown hg h3
  have r1 := hb.row h1 (by decide)
  have hs := Bes.of_set r1 0 fv'
  refine ⟨(r1.set 0 fv').congr ?_, h2, ?_, hs.owns (hb.owns h4 (by decide)) (by decide), hs.owns (hb.owns h5 (by decide)) (by decide), hs.owns (hb.owns h6 (by decide)) (by decide), fun y hy => ?_, fun x hx => hs.owns (hb.owns (h8 x hx) (by decide)) (by decide)⟩
  · intro j hj
    match j, hj with
    | 0, _ => rfl | 1, _ => rfl | 2, _ => rfl | 3, _ => rfl | 4, _ => rfl | 5, _ => rfl
  · have := hs.owns ho (by decide)
    simpa using this
  · rcases List.mem_append.1 hy with hy | hy
    · exact ⟨hs.owns (hb.owns (h7 y hy).1 (by decide)) (by decide), hs.owns (hb.owns (h7 y hy).2 (by decide)) (by decide)⟩
    · obtain rfl : y = x := by simpa using hy
      exact ⟨hs.owns (hb.owns hu.1 (by decide)) (by decide), hs.owns (hb.owns hu.2 (by decide)) (by decide)⟩
end
end Go.Proofs.YthdomhejkbpabaaGreat

/- The program's reader: a block. -/
namespace Go.Proofs.YthdomhejkbpabaaGreat
open Go.RowKit

theorem cells_one_slice (xs : List Value) (h : ∀ u ∈ xs, ∃ a n c, u = .slice a n c) : ∀ u ∈ xs, u.oneCell' = true := by
  intro u hu
  obtain ⟨a, n, c, rfl⟩ := h u hu
  rfl
theorem step_push_ints1 {ops : Array Oper} {o : Oper} {a : Act} {K : Act → World → Prop} {Q : Exit → Act → World → Prop} {E : Prop} {s x : Operand}
    (hgd : o.guard = none) (ho : o.op = .call { callee := .builtin .append, args := #[s, x], argTypes := #[26, 26] })
    {base n B : Nat} {v xv : Value} {xs : List Value} {ua : Option Addr} {un uc : Nat} {w : World} (hs : a.eval s = v) (hown : w.ownsRow base 27 1 v n xs) (hx : a.eval x = xv) (hsl : Sl w B xv 1 1 [.slice ua un uc])
    (hbytes : n ≤ 1000) (hb : base ≤ w.heap.size)
    (h : ∀ v' w', w'.ownsRow base 27 1 v' (n + 1) (xs ++ [.slice ua un uc]) → w.grownBy w' v.ownBlock → Below base w w' → K (a.put o.dst v') w') :
    if Region.wanted o (yielded ops a.tmps) = true then Oper.wp Tryz.prog o a w K Q else E :=
  step_push_sl Tryz.underlying26 info_ints rfl (by decide) hgd ho hs hown hx hsl (cells_one_slice _ (by simp)) (by unfold maxLen; omega) (by omega) hb h
theorem enters_numbers : Enters 134 := enters_of Tryz.func134 (by kernel_rfl) (by kernel_rfl)
theorem enters_blkClos : Enters 136 := enters_of Tryz.func136 (by kernel_rfl) (by kernel_rfl)

set_option maxHeartbeats 2000000 in
set_option maxRecDepth 100000 in
theorem blkClos_some (w : World) (lo rb N M : Nat) (fps : List (Mz.Frm × Value × Value)) (bps : List (List Int × Value)) (inp out : List Int) (st tr : Int) (fv bv iv ov : Value) (s r : List UInt8) (x : List Int)
    (hr : Rdr w rb s) (hp : w.rowIs N 141 1 (fun _ => .pointer (some ⟨rb, 0, none⟩))) (hb : MBox w lo M fps bps inp out st tr fv bv iv ov) (hlo : N ≠ rb ∧ rb < lo) (hs : s.length ≤ 9223372036854775807)
    (hx : Mz.rdSome Mz.rdFour s = some (x, r)) (hn : bps.length ≤ 1000) :
    Calls Tryz.prog 136 #[.pointer (some ⟨M, 0, none⟩), .pointer (some ⟨N, 0, none⟩)] w fun e w' => e = .returned (.tuple #[]) ∧ Rdr w' rb r ∧ w'.rowIs N 141 1 (fun _ => .pointer (some ⟨rb, 0, none⟩)) ∧ (∃ u bv', MBox w' lo M fps (bps ++ [(x, u)]) inp out st tr fv bv' iv ov) ∧ RfB lo rb w w' := by
  obtain ⟨ao, ac, rfl⟩ := owned_open hb.b
  have c0 := hp.cell (i := 0) (by decide)
  have c1 : w.cell? ⟨M, 1, none⟩ = some (.slice ao bps.length ac) := hb.row.cell (i := 1) (by decide)
  have z1 := hb.row.frozen 1
  have hN := hp.lt
  have hM := hb.row.lt
  have hlM := hb.low
  have hNM : N ≠ M := row_ne hp hb.row (by decide)
  have hrN : N ≠ rb := hlo.1
  have hrM : M ≠ rb := by omega
  have hlw : lo ≤ w.heap.size := by omega
  have HR := Lib.hid hr
  have HB := Lib.hid hb
  have HP := Lib.hid hp
  have HX := Lib.hid hx
  have HLO := Lib.hid hlo
  clear hr hp hb hx hlo
  go_enter Tryz.func136, Tryz.ntmps136
  go_region_law ((first
      | (refine step_call1 (by rfl) (by rfl) enters_numbers (by rfl) (rdNumbers_any _ rb s HR.out hs) ?_; intro e w3 hres; rw [HX.out] at hres; obtain ⟨v0, rfl, hmk, hr2, hf2⟩ := hres.some_of; obtain ⟨ua, uc, rfl⟩ := owned_open hmk; refine ⟨_, rfl, ?_⟩; have HR3 := Lib.hid hr2; have HF3 := Lib.hid (show Rf rb w w3 from (Rf.of_below ((Below.refl _ _).drew)).trans hf2); have HU := Lib.hid (show w3.ownsRow w.heap.size 3 1 (.slice ua x.length uc) x.length (x.map (Value.int .i64)) from hmk); have c1'' : w3.cell? ⟨M, 1, none⟩ = some (.slice ao bps.length ac) := ((HB.out.rf HF3.out HR.out).row.cell (i := 1) (by decide)); have hM3 : M < w3.heap.size := Nat.lt_of_lt_of_le hM HF3.out.size; clear hr2 hf2 hres hmk)
      | (refine step_push_ints1 (by rfl) (by rfl) (by rfl) ((HB.out.rf HF3.out HR.out).below ((Below.refl _ _).alloc (Nat.le_refl _) (.cells #[.slice ua x.length uc] 27))).b (by rfl) (Sl.made w3 #[.slice ua x.length uc] 27 1 1 rfl (by omega) (by unfold maxLen; omega)) hn (Nat.le_trans hlw (HF3.out.trans (Rf.of_below ((Below.refl _ _).alloc (Nat.le_refl _) _))).size) ?_; intro v' w' hown' hgr hb'; obtain ⟨va, vc', rfl⟩ := owned_open hown'; have HB4 := Lib.hid ((HB.out.rf HF3.out HR.out).below ((Below.refl _ _).alloc (Nat.le_refl _) (.cells #[.slice ua x.length uc] 27))); have HST := HB4.out.stayB hgr; have kk' : w'.cell? ⟨M, 1, none⟩ = some (.slice ao bps.length ac) := HST.cell (i := 1) (by decide); have z0' := HST.frozen 1; have HGR := Lib.hid hgr; have HBL := Lib.hid hb'; have HOWN := Lib.hid hown'; clear hgr hb' hown' HST)))
  all_goals
    have HF4 : Rf rb w (w3.alloc (.cells #[.slice ua x.length uc] 27)) := HF3.out.trans (Rf.of_below ((Below.refl _ _).alloc (Nat.le_refl _) _))
    have HP4 := HF4.row HP.out hrN
    have HR4 := HR3.out.frame ((Below.refl _ _).alloc (Nat.le_refl _) (.cells #[.slice ua x.length uc] 27))
    have HU4 : (w3.alloc (.cells #[.slice ua x.length uc] 27)).ownsRow lo 3 1 (.slice ua x.length uc) x.length (x.map (Value.int .i64)) :=
      owns_base (owns_of_block HU.out fun g hg => ((Below.refl _ _).alloc (Nat.le_refl _) (.cells #[.slice ua x.length uc] 27)).block g (HU.out.lt g hg).2) hlw
    have hg1 := Bes.of_grown HGR.out HB4.out.b
    have hs1 := Bes.of_set (HB4.out.stayB HGR.out) 1 (.slice va (bps.length + 1) vc')
    go_end0
    exact ⟨rfl, hs1.row (hg1.row HR4 (by decide)) (by decide), hs1.row (hg1.row HP4 (by decide)) (by decide), ⟨_, _, HB4.out.pushB HGR.out HU4 HOWN.out⟩,
      (HF4.toB hlw).trans (RfB.of_below (HBL.out.trans (((Only.refl M _).setCell 1 _).below hlM)))⟩

set_option maxHeartbeats 2000000 in
set_option maxRecDepth 100000 in
theorem blkClos_none (w : World) (lo rb N M : Nat) (fps : List (Mz.Frm × Value × Value)) (bps : List (List Int × Value)) (inp out : List Int) (st tr : Int) (fv bv iv ov : Value) (s : List UInt8)
    (hr : Rdr w rb s) (hp : w.rowIs N 141 1 (fun _ => .pointer (some ⟨rb, 0, none⟩))) (hb : MBox w lo M fps bps inp out st tr fv bv iv ov) (hlo : N ≠ rb ∧ rb < lo) (hs : s.length ≤ 9223372036854775807)
    (hx : Mz.rdSome Mz.rdFour s = none) :
    Calls Tryz.prog 136 #[.pointer (some ⟨M, 0, none⟩), .pointer (some ⟨N, 0, none⟩)] w fun e w' => e = shortE ∧ RfB lo rb w w' := by
  obtain ⟨ao, ac, rfl⟩ := owned_open hb.b
  have c0 := hp.cell (i := 0) (by decide)
  have c1 : w.cell? ⟨M, 1, none⟩ = some (.slice ao bps.length ac) := hb.row.cell (i := 1) (by decide)
  have hN := hp.lt
  have hlw : lo ≤ w.heap.size := by have := hb.low; have := hb.row.lt; omega
  have HR := Lib.hid hr
  have HX := Lib.hid hx
  clear hr hp hb hx hlo
  go_enter Tryz.func136, Tryz.ntmps136
  go_region_law ((first
      | (refine step_call_short (by rfl) (by rfl) (enters_numbers _ _) (by rfl) (rdNumbers_any _ rb s HR.out hs) ?_; intro e w2 hres; rw [HX.out] at hres; obtain ⟨rfl, hf2⟩ := hres.none_of; refine dead_end (P := Tryz.prog) (a := ⟨#[], []⟩) (w := w) ?_ ?_; focus exact ⟨_, rfl, rfl, rfl, ((Rf.of_below ((Below.refl _ _).drew)).trans hf2).toB hlw⟩)
      | fail))
  all_goals exact tok
end Go.Proofs.YthdomhejkbpabaaGreat
