/- Lemmas: RefRd, RefRd2, RefMO. -/
import Derived.Test.YthdomhejkbpabaaGreatG04
import Derived.Test.YthdomhejkbpabaaGreatG23
import Derived.Test.YthdomhejkbpabaaGreatG25
import Derived.Test.YthdomhejkbpabaaGreatG26
import Derived.Laws.EntriesVeiled
set_option linter.unusedVariables false
set_option linter.unusedSimpArgs false
/- The reference's reader of bytes: one byte, four bytes; its state lies in three boxes. -/
namespace Go.Proofs.YthdomhejkbpabaaGreat
open Go.RowKit

theorem tmod_parts (n : Int) : n.tmod 4294967296 = if 0 ≤ n then n % 4294967296 else -((-n) % 4294967296) := by
  by_cases h : 0 ≤ n
  · rw [if_pos h, Int.tmod_eq_emod_of_nonneg h]
  · rw [if_neg h]
    have h2 : 0 ≤ -n := by omega
    have := Int.neg_tmod (-n) 4294967296
    rw [Int.neg_neg] at this
    rw [this, Int.tmod_eq_emod_of_nonneg h2]
theorem tmod_wrap (n r : Int) (h : r = n.tmod 4294967296) : -4294967296 < r ∧ r < 4294967296 ∧ Mz.wrap n = (if r < 0 then (if 2147483647 < r + 4294967296 then r else r + 4294967296) else (if 2147483647 < r then r - 4294967296 else r)) := by
  rw [tmod_parts] at h
  unfold Mz.wrap
  by_cases h0 : 0 ≤ n
  · rw [if_pos h0] at h
    refine ⟨by omega, by omega, ?_⟩
    repeat' split
    all_goals omega
  · rw [if_neg h0] at h
    refine ⟨by omega, by omega, ?_⟩
    repeat' split
    all_goals omega
set_option maxHeartbeats 1000000 in
theorem wrapOf_any (n : Int) (w : World) (h1 : -9223372036854775808 ≤ n) (h2 : n ≤ 9223372036854775807) :
    Calls Tryz.prog 78 #[.int .i64 n] w fun e w' => e = .returned (.int .i64 (Mz.wrap n)) ∧ w = w' := by
  obtain ⟨r, hr⟩ : ∃ r, r = n.tmod 4294967296 := ⟨_, rfl⟩
  obtain ⟨r1, r2, r3⟩ := tmod_wrap n r hr
  have HW := Lib.hid r3
  have hr' := hr.symm
  clear r3 hr
  have hrun : ∀ w : World, (BinOp.rem, n) = (BinOp.rem, n) := fun _ => rfl
  clear hrun
  go_enter Tryz.func78, Tryz.ntmps78
  go_wp2
  all_goals go_ret
  all_goals refine ⟨ret_int ?_, rfl⟩
  all_goals rw [HW.out]
  all_goals (repeat' split)
  all_goals omega

set_option maxHeartbeats 1000000 in
set_option maxRecDepth 100000 in
theorem numberAt_any (s : List UInt8) (a : Nat) (w : World) (hs : s.length ≤ 9223372036854775807) (h : a + 4 ≤ s.length) :
    Calls Tryz.prog 65 #[.string ⟨s.toArray⟩, .int .i64 a] w fun e w' => e = .returned (.int .i64 (Mz.numberOf (s[a]) (s[a + 1]) (s[a + 2]) (s[a + 3]))) ∧ w = w' := by
  go_enter Tryz.func65, Tryz.ntmps65
  go_wp2_with fail
  go_loop [5, 6] (fun n i => ∃ j : Nat, a ≤ j ∧ j ≤ a + 4 ∧ i = .int .i64 j ∧ n = .int .i64 (accOf ((s.drop a).take (j - a))) ∧ accOf ((s.drop a).take (j - a)) < 256 ^ (j - a)) (fun _ i => a + 4 - (intOf i).toNat)
  case atStart => exact ⟨a, by omega, by omega, rfl, by simp [accOf], by simp [accOf]⟩
  case round =>
    obtain ⟨j, hj1, hj2, rfl, rfl, hb⟩ := hrel
    by_cases hlt : j < a + 4
    · have hjl : j < s.length := by omega
      obtain ⟨x, hx⟩ : ∃ x, x = accOf ((s.drop a).take (j - a)) := ⟨_, rfl⟩
      rw [← hx] at hb ⊢
      have hx3 : x < 16777216 := by
        have : 256 ^ (j - a) ≤ 256 ^ 3 := Nat.pow_le_pow_right (by omega) (by omega)
        omega
      have hbt := (s[j]).toNat_lt
      have HS : Hid (accOf ((s.drop a).take (j + 1 - a)) = 256 * x + (s[j]).toNat) := by
        unfold Hid
        rw [show j + 1 - a = (j - a) + 1 by omega, List.take_succ_eq_append_getElem (by simp; omega), accOf_snoc, hx]
        simp only [List.getElem_drop]
        congr 3; omega
      have HP : Hid (256 * x + (s[j]).toNat < 256 ^ (j + 1 - a)) := by
        unfold Hid; rw [show j + 1 - a = (j - a) + 1 by omega, Nat.pow_succ]; omega
      clear hx hb
      go_wp2_with fail
      go_round
      case rel =>
        refine ⟨j + 1, by omega, by omega, by go_num, ?_, by rw [HS.out]; exact HP.out⟩
        rw [HS.out]
        congr 1
        show wrap64 (256 * (x : Int) + wrap64 ((s[j].toNat : Nat) : Int)) = ((256 * x + s[j].toNat : Nat) : Int)
        unfold wrap64; omega
      case measure => simp [intOf]; omega
    · obtain rfl : j = a + 4 := by omega
      obtain ⟨x, hx⟩ : ∃ x, x = accOf ((s.drop a).take (a + 4 - a)) := ⟨_, rfl⟩
      rw [← hx] at hb ⊢
      have hx4 : x < 4294967296 := by
        rw [show a + 4 - a = 4 by omega] at hb; exact hb
      have HX : Hid (Mz.wrap (x : Int) = Mz.numberOf (s[a]) (s[a + 1]) (s[a + 2]) (s[a + 3])) := by
        unfold Hid
        rw [hx, ← accOf_four, show a + 4 - a = 4 by omega, List.drop_eq_getElem_cons (show a < s.length by omega), List.drop_eq_getElem_cons (show a + 1 < s.length by omega), List.drop_eq_getElem_cons (show a + 1 + 1 < s.length by omega), List.drop_eq_getElem_cons (show a + 1 + 1 + 1 < s.length by omega)]
        rfl
      clear hx hb
      go_wp2_with fail
      refine (wrapOf_any _ _ (by omega) (by omega)).mono ?_
      rintro e w' ⟨rfl, rfl⟩
      rw [HX.out]
      go_wp2_with fail
      go_ret
      exact ⟨rfl, rfl⟩

/-- nothing of what was has turned, but for blocks A and K -/
structure Ra (A K : Nat) (w w' : World) : Prop where
  os : w'.os = w.os
  tape : w'.tape = w.tape
  output : w'.output = w.output
  size : w.heap.size ≤ w'.heap.size
  block : ∀ k, k < w.heap.size → k ≠ A → k ≠ K → w'.heap[k]? = w.heap[k]?
theorem Ra.refl {A K : Nat} {w : World} : Ra A K w w := ⟨rfl, rfl, rfl, Nat.le_refl _, fun _ _ _ _ => rfl⟩
theorem Ra.trans {A K : Nat} {u v w : World} (h : Ra A K u v) (k : Ra A K v w) : Ra A K u w :=
  ⟨k.os.trans h.os, k.tape.trans h.tape, k.output.trans h.output, Nat.le_trans h.size k.size, fun i hi n1 n2 => (k.block i (Nat.lt_of_lt_of_le hi h.size) n1 n2).trans (h.block i hi n1 n2)⟩
theorem Ra.of_below {A K : Nat} {w w' : World} (h : Below w.heap.size w w') : Ra A K w w' := ⟨h.os, h.tape, h.output, h.size, fun k hk _ _ => h.block k hk⟩
theorem Ra.setA {A K : Nat} {w : World} (v : Value) : Ra A K w (w.setCell ⟨A, 0, none⟩ v) := by
  have on : Only A w (w.setCell ⟨A, 0, none⟩ v) := (Only.refl A w).setCell 0 v
  exact ⟨on.os, on.tape, on.output, by rw [on.size]; exact Nat.le_refl _, fun k _ h1 _ => on.block k h1⟩
theorem Ra.setK {A K : Nat} {w : World} (v : Value) : Ra A K w (w.setCell ⟨K, 0, none⟩ v) := by
  have on : Only K w (w.setCell ⟨K, 0, none⟩ v) := (Only.refl K w).setCell 0 v
  exact ⟨on.os, on.tape, on.output, by rw [on.size]; exact Nat.le_refl _, fun k _ _ h1 => on.block k h1⟩
theorem Ra.below {A K B : Nat} {w w' : World} (h : Ra A K w w') (hB : B ≤ w.heap.size) (h1 : B ≤ A) (h2 : B ≤ K) : Below B w w' := ⟨h.os, h.tape, h.output, h.size, fun k hk => h.block k (by omega) (by omega) (by omega)⟩
theorem Ra.row {A K : Nat} {w w' : World} (h : Ra A K w w') {b : Nat} {t : TypeId} {n : Nat} {f : Nat → Value} (hr : w.rowIs b t n f) (h1 : b ≠ A) (h2 : b ≠ K) : w'.rowIs b t n f := hr.of_block (h.block b hr.lt h1 h2)
theorem Ra.owns {A K : Nat} {w w' : World} (h : Ra A K w w') {lo : Nat} {t : TypeId} {sz n : Nat} {v : Value} {cs : List Value} (ho : w.ownsRow lo t sz v n cs) (h1 : A < lo) (h2 : K < lo) : w'.ownsRow lo t sz v n cs :=
  owns_of_block ho fun g hg => h.block g (ho.lt g hg).2 (by have := (ho.lt g hg).1; omega) (by have := (ho.lt g hg).1; omega)

theorem row_set1 {w : World} {b : Nat} {t : TypeId} {v v' : Value} (h : w.rowIs b t 1 (fun _ => v)) : (w.setCell ⟨b, 0, none⟩ v').rowIs b t 1 (fun _ => v') := (h.set 0 v').congr (fun i hi => by
  obtain rfl : i = 0 := by omega
  simp)
/-- the reader's state: the text, the place, whether all went well -/
structure RSt (w : World) (S A K : Nat) (s : List UInt8) (a : Nat) (k : Bool) : Prop where
  str : w.rowIs S 9 1 (fun _ => .string ⟨s.toArray⟩)
  at_ : w.rowIs A 3 1 (fun _ => .int .i64 a)
  ok : w.rowIs K 4 1 (fun _ => .bool k)
  le : a ≤ s.length
theorem RSt.ne {w : World} {S A K : Nat} {s : List UInt8} {a : Nat} {k : Bool} (h : RSt w S A K s a k) : S ≠ A ∧ S ≠ K ∧ A ≠ K := ⟨row_ne h.str h.at_ (by decide), row_ne h.str h.ok (by decide), row_ne h.at_ h.ok (by decide)⟩
theorem RSt.setA {w : World} {S A K : Nat} {s : List UInt8} {a : Nat} {k : Bool} (h : RSt w S A K s a k) (a' : Nat) (ha : a' ≤ s.length) : RSt (w.setCell ⟨A, 0, none⟩ (.int .i64 a')) S A K s a' k := by
  obtain ⟨n1, n2, n3⟩ := h.ne
  exact ⟨h.str.of_block (Below.heap_setCell _ _ _ _ n1), row_set1 h.at_, h.ok.of_block (Below.heap_setCell _ _ _ _ n3.symm), ha⟩
theorem RSt.setK {w : World} {S A K : Nat} {s : List UInt8} {a : Nat} {k : Bool} (h : RSt w S A K s a k) (k' : Bool) : RSt (w.setCell ⟨K, 0, none⟩ (.bool k')) S A K s a k' := by
  obtain ⟨n1, n2, n3⟩ := h.ne
  exact ⟨h.str.of_block (Below.heap_setCell _ _ _ _ n2), h.at_.of_block (Below.heap_setCell _ _ _ _ n3), row_set1 h.ok, h.le⟩
theorem RSt.frame {w w' : World} {S A K B : Nat} {s : List UInt8} {a : Nat} {k : Bool} (h : RSt w S A K s a k) (hb : Below B w w') (hB : S < B ∧ A < B ∧ K < B) : RSt w' S A K s a k :=
  ⟨h.str.of_block (hb.block _ hB.1), h.at_.of_block (hb.block _ hB.2.1), h.ok.of_block (hb.block _ hB.2.2), h.le⟩
/-- what a reading answers -/
def RRes {α : Type} (f : Mz.Rd α) (mk : α → Value → World → Prop) (w : World) (S A K : Nat) (s : List UInt8) (a : Nat) (k : Bool) (e : Ending) (w' : World) : Prop :=
  Ra A K w w' ∧ ∃ x v a' k', e = .returned v ∧ mk x v w' ∧ RSt w' S A K s a' k' ∧ Mz.Got f s a k x a' k'
def mkByte (n : Int) (v : Value) (_ : World) : Prop := v = .int .i64 n ∧ 0 ≤ n ∧ n < 256

set_option maxHeartbeats 1000000 in
set_option maxRecDepth 100000 in
theorem refOne_any (w : World) (S A K : Nat) (s : List UInt8) (a : Nat) (k : Bool) (h : RSt w S A K s a k) (hs : s.length ≤ 9223372036854775807) :
    Calls Tryz.prog 63 #[.pointer (some ⟨A, 0, none⟩), .pointer (some ⟨S, 0, none⟩), .pointer (some ⟨K, 0, none⟩)] w (RRes Mz.rdOne mkByte w S A K s a k) := by
  obtain ⟨n1, n2, n3⟩ := h.ne
  have cS := h.str.cell (i := 0) (by decide)
  have cA := h.at_.cell (i := 0) (by decide)
  have cK := h.ok.cell (i := 0) (by decide)
  have zA := h.at_.frozen 0
  have zK := h.ok.frozen 0
  have lA := h.at_.lt
  have lS := h.str.lt
  have lK := h.ok.lt
  have n1' : A ≠ S := fun e => n1 e.symm
  have n3' : K ≠ A := fun e => n3 e.symm
  have hle := h.le
  have H := Lib.hid h
  clear h
  by_cases hlt : a < s.length
  · have HG := Lib.hid (Mz.got_one (k := k) hlt)
    have hbt := (s[a]).toNat_lt
    go_enter Tryz.func63, Tryz.ntmps63
    go_wp2_with fail
    go_ret
    have ew : wrap64 ((s[a].toNat : Nat) : Int) = ((s[a].toNat : Nat) : Int) := by unfold wrap64; omega
    refine ⟨Ra.setA _, ((s[a].toNat : Nat) : Int), _, a + 1, k, rfl, ⟨?_, by omega, by omega⟩, H.out.setA (a + 1) (by omega), HG.out⟩
    exact congrArg (Value.int .i64) ew
  · have HG := Lib.hid (Mz.got_one_none (k := k) hlt 0 a)
    go_enter Tryz.func63, Tryz.ntmps63
    go_wp2_with fail
    go_ret
    exact ⟨Ra.setK _, _, _, a, false, rfl, ⟨rfl, by decide, by decide⟩, H.out.setK false, HG.out⟩

set_option maxHeartbeats 1000000 in
set_option maxRecDepth 100000 in
theorem refFourAt_any (w : World) (S A K : Nat) (s : List UInt8) (a : Nat) (k : Bool) (h : RSt w S A K s a k) (hs : s.length ≤ 9223372036854775807) :
    Calls Tryz.prog 64 #[.pointer (some ⟨S, 0, none⟩), .pointer (some ⟨A, 0, none⟩), .pointer (some ⟨K, 0, none⟩)] w (RRes Mz.rdFour mkInt w S A K s a k) := by
  obtain ⟨n1, n2, n3⟩ := h.ne
  have cS := h.str.cell (i := 0) (by decide)
  have cA := h.at_.cell (i := 0) (by decide)
  have cK := h.ok.cell (i := 0) (by decide)
  have zA := h.at_.frozen 0
  have zK := h.ok.frozen 0
  have lA := h.at_.lt
  have lS := h.str.lt
  have lK := h.ok.lt
  have n1' : A ≠ S := fun e => n1 e.symm
  have n3' : K ≠ A := fun e => n3 e.symm
  have hle := h.le
  have H := Lib.hid h
  clear h
  by_cases hlt : a + 4 ≤ s.length
  · have HG := Lib.hid (Mz.got_four (k := k) hlt)
    go_enter Tryz.func64, Tryz.ntmps64
    go_wp2_with fail
    refine (numberAt_any s a _ hs hlt).mono ?_
    rintro e w' ⟨rfl, rfl⟩
    go_wp2_with fail
    go_ret
    exact ⟨Ra.setA _, _, _, a + 4, k, rfl, rfl, H.out.setA (a + 4) (by omega), HG.out⟩
  · have HG := Lib.hid (Mz.got_four_none (k := k) (show s.length < a + 4 by omega) 0 a)
    go_enter Tryz.func64, Tryz.ntmps64
    go_wp2_with fail
    go_ret
    exact ⟨Ra.setK _, _, _, a, false, rfl, rfl, H.out.setK false, HG.out⟩
end Go.Proofs.YthdomhejkbpabaaGreat

/- The reference's reader of bytes: numbers, values. -/
namespace Go.Proofs.YthdomhejkbpabaaGreat
open Go.RowKit

/-- the two function literals, in their boxes -/
structure RCl (w : World) (S A K O F : Nat) : Prop where
  one : w.rowIs O 99 1 (fun _ => .func (.func 63) #[] #[.pointer (some ⟨A, 0, none⟩), .pointer (some ⟨S, 0, none⟩), .pointer (some ⟨K, 0, none⟩)])
  four : w.rowIs F 99 1 (fun _ => .func (.func 64) #[] #[.pointer (some ⟨S, 0, none⟩), .pointer (some ⟨A, 0, none⟩), .pointer (some ⟨K, 0, none⟩)])
theorem RCl.ra {w w' : World} {S A K O F : Nat} {s : List UInt8} {a : Nat} {k : Bool} (h : RCl w S A K O F) (hs : RSt w S A K s a k) (hf : Ra A K w w') : RCl w' S A K O F :=
  ⟨hf.row h.one (row_ne h.one hs.at_ (by decide)) (row_ne h.one hs.ok (by decide)), hf.row h.four (row_ne h.four hs.at_ (by decide)) (row_ne h.four hs.ok (by decide))⟩
theorem enters_refOne1 : Enters 63 := enters_of Tryz.func63 (by kernel_rfl) (by kernel_rfl)
theorem enters_refFour4 : Enters 64 := enters_of Tryz.func64 (by kernel_rfl) (by kernel_rfl)
theorem enters_refNumbers : Enters 66 := enters_of Tryz.func66 (by kernel_rfl) (by kernel_rfl)
theorem enters_refValues : Enters 67 := enters_of Tryz.func67 (by kernel_rfl) (by kernel_rfl)
/-- a fresh row of numbers, of values, not too long -/
def mkInts' (lo : Nat) (l : List Int) (v : Value) (w' : World) : Prop := w'.ownsRow lo 3 1 v l.length (l.map (Value.int .i64)) ∧ l.length < 256
def mkVals' (lo : Nat) (l : List Mz.Val) (v : Value) (w' : World) : Prop := w'.ownsRow lo 103 2 v l.length (l.flatMap valCells) ∧ l.length < 256

set_option maxHeartbeats 2000000 in
set_option maxRecDepth 100000 in
theorem refNumbers_any (w : World) (S A K O F : Nat) (s : List UInt8) (a : Nat) (k : Bool) (h : RSt w S A K s a k) (hc : RCl w S A K O F) (hs : s.length ≤ 9223372036854775807) :
    Calls Tryz.prog 66 #[.pointer (some ⟨O, 0, none⟩), .pointer (some ⟨K, 0, none⟩), .pointer (some ⟨F, 0, none⟩)] w (RRes (Mz.rdSome Mz.rdFour) (mkInts' w.heap.size) w S A K s a k) := by
  have HB : Hid (S < w.heap.size ∧ A < w.heap.size ∧ K < w.heap.size) := ⟨h.str.lt, h.at_.lt, h.ok.lt⟩
  have HO : Hid (O < w.heap.size ∧ F < w.heap.size) := ⟨hc.one.lt, hc.four.lt⟩
  have cO := hc.one.cell (i := 0) (by decide)
  have lO := hc.one.lt
  have H := Lib.hid h
  have HC := Lib.hid hc
  have e1 := enters_refOne1
  have e4 := enters_refFour4
  unfold Enters at e1 e4
  clear h hc
  go_enter Tryz.func66, Tryz.ntmps66
  go_wp2_with fail
  refine (refOne_any w S A K s a k H.out hs).mono ?_
  rintro e w1 ⟨hf1, n, v, a1, k1, rfl, ⟨rfl, hn0, hn1⟩, hst1, hg1⟩
  obtain ⟨N, rfl⟩ : ∃ N : Nat, n = (N : Int) := ⟨n.toNat, by omega⟩
  have HF1 := Lib.hid hf1
  have HS1 := Lib.hid hst1
  have HG1 := Lib.hid (Mz.gotL_start (f := Mz.rdFour) hg1)
  have HC1 := Lib.hid (HC.out.ra H.out hf1)
  clear hf1 hst1 hg1 cO
  go_wp2_with fail
  go_loopw [4, 6] (fun r i wr => ∃ (l : List Int) (a2 : Nat) (k2 : Bool), i = .int .i64 l.length ∧ l.length ≤ N ∧ Hid (wr.ownsRow w.heap.size 3 1 r l.length (l.map (Value.int .i64))) ∧ Hid (RSt wr S A K s a2 k2) ∧ Hid (RCl wr S A K O F) ∧ Hid (Ra A K w wr) ∧ Hid (Mz.GotL Mz.rdFour s a k (N : Int) l a2 k2)) (fun _ i _ => N - (intOf i).toNat)
  case atStart => exact ⟨[], a1, k1, rfl, Nat.zero_le _, World.ownsRow_nil _ _ _ _, HS1, HC1, HF1, HG1⟩
  case round =>
    obtain ⟨l, a2, k2, rfl, hl, HOW, HS2, HC2, HF2, HG2⟩ := hrel
    have cK := HS2.out.ok.cell (i := 0) (by decide)
    have lK := HS2.out.ok.lt
    by_cases hlt : l.length < N
    · cases k2 with
      | true =>
        have cF := HC2.out.four.cell (i := 0) (by decide)
        have lF := HC2.out.four.lt
        go_wp2_with fail
        refine (refFourAt_any wr S A K s a2 true HS2.out hs).mono ?_
        rintro e w3 ⟨hf3, x, v, a3, k3, rfl, hx, hst3, hg3⟩
        obtain rfl : v = .int .i64 x := hx
        have HOW3 := Lib.hid (hf3.owns HOW.out HB.out.2.1 HB.out.2.2)
        have HF3 := Lib.hid (HF2.out.trans hf3)
        have HS3 := Lib.hid hst3
        have HC3 := Lib.hid (HC2.out.ra HS2.out hf3)
        have HG3 := Lib.hid (Mz.gotL_step HG2.out (by omega) hg3)
        have hsz : w.heap.size ≤ w3.heap.size := HF3.out.size
        clear hf3 hst3 hg3 cF cK
        go_wp2_with (at_builtin; refine push_int rfl rfl rfl HOW3.out rfl (by omega) (by omega) ?_; intro v' w' hown' hgr hb')
        go_roundw
        case rel =>
          have hown2 : w'.ownsRow w.heap.size 3 1 v' (l ++ [x]).length ((l ++ [x]).map (Value.int .i64)) := by simpa using hown'
          have hf' : Ra A K w w' := by
            refine ⟨hb'.os.trans HF3.out.os, hb'.tape.trans HF3.out.tape, hb'.output.trans HF3.out.output, Nat.le_trans HF3.out.size hb'.size, fun i hi n1 n2 => (hb'.block i hi).trans (HF3.out.block i hi n1 n2)⟩
          exact ⟨l ++ [x], a3, k3, by simp, by simp; omega, hown2, HS3.out.frame hb' HB.out, ⟨HC3.out.one.of_block (hb'.block _ HO.out.1), HC3.out.four.of_block (hb'.block _ HO.out.2)⟩, hf', HG3⟩
        case measure => simp [intOf]; omega
      | false =>
        obtain ⟨ra, rc, rfl⟩ := owned_open HOW.out
        go_wp2_with fail
        go_ret
        exact ⟨HF2.out, l, _, a2, false, rfl, ⟨HOW.out, by omega⟩, HS2.out, Mz.gotL_end HG2.out (.inr rfl)⟩
    · obtain ⟨ra, rc, rfl⟩ := owned_open HOW.out
      go_wp2_with fail
      go_ret
      exact ⟨HF2.out, l, _, a2, k2, rfl, ⟨HOW.out, by omega⟩, HS2.out, Mz.gotL_end HG2.out (.inl (by omega))⟩

set_option maxHeartbeats 2000000 in
set_option maxRecDepth 100000 in
theorem refValues_any (w : World) (S A K O F : Nat) (s : List UInt8) (a : Nat) (k : Bool) (h : RSt w S A K s a k) (hc : RCl w S A K O F) (hs : s.length ≤ 9223372036854775807) :
    Calls Tryz.prog 67 #[.pointer (some ⟨O, 0, none⟩), .pointer (some ⟨K, 0, none⟩), .pointer (some ⟨F, 0, none⟩)] w (RRes (Mz.rdSome Mz.rdVal) (mkVals' w.heap.size) w S A K s a k) := by
  have HB : Hid (S < w.heap.size ∧ A < w.heap.size ∧ K < w.heap.size) := ⟨h.str.lt, h.at_.lt, h.ok.lt⟩
  have HO : Hid (O < w.heap.size ∧ F < w.heap.size) := ⟨hc.one.lt, hc.four.lt⟩
  have cO := hc.one.cell (i := 0) (by decide)
  have lO := hc.one.lt
  have H := Lib.hid h
  have HC := Lib.hid hc
  have e1 := enters_refOne1
  have e4 := enters_refFour4
  unfold Enters at e1 e4
  clear h hc
  go_enter Tryz.func67, Tryz.ntmps67
  go_wp2_with fail
  refine (refOne_any w S A K s a k H.out hs).mono ?_
  rintro e w1 ⟨hf1, n, v, a1, k1, rfl, ⟨rfl, hn0, hn1⟩, hst1, hg1⟩
  obtain ⟨N, rfl⟩ : ∃ N : Nat, n = (N : Int) := ⟨n.toNat, by omega⟩
  have HF1 := Lib.hid hf1
  have HS1 := Lib.hid hst1
  have HG1 := Lib.hid (Mz.gotL_start (f := Mz.rdVal) hg1)
  have HC1 := Lib.hid (HC.out.ra H.out hf1)
  clear hf1 hst1 hg1 cO
  go_wp2_with fail
  go_loopw [4, 6] (fun r i wr => ∃ (l : List Mz.Val) (a2 : Nat) (k2 : Bool), i = .int .i64 l.length ∧ l.length ≤ N ∧ Hid (wr.ownsRow w.heap.size 103 2 r l.length (l.flatMap valCells)) ∧ Hid (RSt wr S A K s a2 k2) ∧ Hid (RCl wr S A K O F) ∧ Hid (Ra A K w wr) ∧ Hid (Mz.GotL Mz.rdVal s a k (N : Int) l a2 k2)) (fun _ i _ => N - (intOf i).toNat)
  case atStart => exact ⟨[], a1, k1, rfl, Nat.zero_le _, World.ownsRow_nil _ _ _ _, HS1, HC1, HF1, HG1⟩
  case round =>
    obtain ⟨l, a2, k2, rfl, hl, HOW, HS2, HC2, HF2, HG2⟩ := hrel
    have cK := HS2.out.ok.cell (i := 0) (by decide)
    have lK := HS2.out.ok.lt
    by_cases hlt : l.length < N
    · cases k2 with
      | true =>
        have cO2 := HC2.out.one.cell (i := 0) (by decide)
        have lO2 := HC2.out.one.lt
        go_wp2_with fail
        refine (refOne_any wr S A K s a2 true HS2.out hs).mono ?_
        rintro e w3 ⟨hf3, b, v, a3, k3, rfl, ⟨rfl, hb0, hb1⟩, hst3, hg3⟩
        have HOW3 := Lib.hid (hf3.owns HOW.out HB.out.2.1 HB.out.2.2)
        have HF3 := Lib.hid (HF2.out.trans hf3)
        have HS3 := Lib.hid hst3
        have HC3 := Lib.hid (HC2.out.ra HS2.out hf3)
        have HG3 := Lib.hid hg3
        have hsz : w.heap.size ≤ w3.heap.size := HF3.out.size
        have cK3 := hst3.ok.cell (i := 0) (by decide)
        have zK3 := hst3.ok.frozen 0
        have lK3 := hst3.ok.lt
        have cF3 := HC3.out.four.cell (i := 0) (by decide)
        have lF3 := HC3.out.four.lt
        have hFK : F ≠ K := row_ne HC3.out.four hst3.ok (by decide)
        have hKF : K ≠ F := fun e => hFK e.symm
        clear hf3 hst3 hg3 cO2 cK
        cases k3 with
        | true =>
          go_wp2_with fail
          refine (refFourAt_any _ S A K s a3 (decide (b < 2)) (HS3.out.setK _) hs).mono ?_
          rintro e w4 ⟨hf4, x, v, a4, k4, rfl, hx, hst4, hg4⟩
          obtain rfl : v = .int .i64 x := hx
          have HOW4 := Lib.hid (hf4.owns ((Ra.setK (.bool (decide (b < 2)))).owns HOW3.out HB.out.2.1 HB.out.2.2) HB.out.2.1 HB.out.2.2)
          have HF4 := Lib.hid ((HF3.out.trans (Ra.setK (.bool (decide (b < 2))))).trans hf4)
          have HS4 := Lib.hid hst4
          have HC4 := Lib.hid ((HC3.out.ra HS3.out (Ra.setK (.bool (decide (b < 2))))).ra (HS3.out.setK _) hf4)
          have HG4 := Lib.hid (Mz.gotL_step HG2.out (by omega) (Mz.got_val (y := x) (k2 := k4) HG3.out (by simpa using hg4)))
          have hsz4 : w.heap.size ≤ w4.heap.size := HF4.out.size
          clear hf4 hst4 hg4 cK3 zK3 cF3 HG3
          go_wp2_with (at_builtin; refine push_gen (P := Tryz.prog) (cells := [.bool (b == 1), .int .i64 x]) Tryz.underlying95 info_val rfl (by decide) (by decide) rfl rfl rfl HOW4.out rfl rfl (by intro u hu; simp at hu; rcases hu with rfl | rfl <;> rfl) (by omega) (by omega) ?_; intro v' w' hown' hgr hb')
          go_roundw
          case rel =>
            have hown2 : w'.ownsRow w.heap.size 103 2 v' (l ++ [(⟨b == 1, x⟩ : Mz.Val)]).length ((l ++ [(⟨b == 1, x⟩ : Mz.Val)]).flatMap valCells) := by simpa [valCells] using hown'
            have hf' : Ra A K w w' := by
              refine ⟨hb'.os.trans HF4.out.os, hb'.tape.trans HF4.out.tape, hb'.output.trans HF4.out.output, Nat.le_trans HF4.out.size hb'.size, fun i hi n1 n2 => (hb'.block i hi).trans (HF4.out.block i hi n1 n2)⟩
            exact ⟨l ++ [(⟨b == 1, x⟩ : Mz.Val)], a4, k4, by simp, by simp; omega, hown2, HS4.out.frame hb' HB.out, ⟨HC4.out.one.of_block (hb'.block _ HO.out.1), HC4.out.four.of_block (hb'.block _ HO.out.2)⟩, hf', HG4⟩
          case measure => simp [intOf]; omega
        | false =>
          go_wp2_with fail
          refine (refFourAt_any _ S A K s a3 false (HS3.out.setK _) hs).mono ?_
          rintro e w4 ⟨hf4, x, v, a4, k4, rfl, hx, hst4, hg4⟩
          obtain rfl : v = .int .i64 x := hx
          have HOW4 := Lib.hid (hf4.owns ((Ra.setK (.bool false)).owns HOW3.out HB.out.2.1 HB.out.2.2) HB.out.2.1 HB.out.2.2)
          have HF4 := Lib.hid ((HF3.out.trans (Ra.setK (.bool false))).trans hf4)
          have HS4 := Lib.hid hst4
          have HC4 := Lib.hid ((HC3.out.ra HS3.out (Ra.setK (.bool false))).ra (HS3.out.setK _) hf4)
          have HG4 := Lib.hid (Mz.gotL_step HG2.out (by omega) (Mz.got_val (y := x) (k2 := k4) HG3.out (by simpa using hg4)))
          have hsz4 : w.heap.size ≤ w4.heap.size := HF4.out.size
          clear hf4 hst4 hg4 cK3 zK3 cF3 HG3
          go_wp2_with (at_builtin; refine push_gen (P := Tryz.prog) (cells := [.bool (b == 1), .int .i64 x]) Tryz.underlying95 info_val rfl (by decide) (by decide) rfl rfl rfl HOW4.out rfl rfl (by intro u hu; simp at hu; rcases hu with rfl | rfl <;> rfl) (by omega) (by omega) ?_; intro v' w' hown' hgr hb')
          go_roundw
          case rel =>
            have hown2 : w'.ownsRow w.heap.size 103 2 v' (l ++ [(⟨b == 1, x⟩ : Mz.Val)]).length ((l ++ [(⟨b == 1, x⟩ : Mz.Val)]).flatMap valCells) := by simpa [valCells] using hown'
            have hf' : Ra A K w w' := by
              refine ⟨hb'.os.trans HF4.out.os, hb'.tape.trans HF4.out.tape, hb'.output.trans HF4.out.output, Nat.le_trans HF4.out.size hb'.size, fun i hi n1 n2 => (hb'.block i hi).trans (HF4.out.block i hi n1 n2)⟩
            exact ⟨l ++ [(⟨b == 1, x⟩ : Mz.Val)], a4, k4, by simp, by simp; omega, hown2, HS4.out.frame hb' HB.out, ⟨HC4.out.one.of_block (hb'.block _ HO.out.1), HC4.out.four.of_block (hb'.block _ HO.out.2)⟩, hf', HG4⟩
          case measure => simp [intOf]; omega
      | false =>
        obtain ⟨ra, rc, rfl⟩ := owned_open HOW.out
        go_wp2_with fail
        go_ret
        exact ⟨HF2.out, l, _, a2, false, rfl, ⟨HOW.out, by omega⟩, HS2.out, Mz.gotL_end HG2.out (.inr rfl)⟩
    · obtain ⟨ra, rc, rfl⟩ := owned_open HOW.out
      go_wp2_with fail
      go_ret
      exact ⟨HF2.out, l, _, a2, k2, rfl, ⟨HOW.out, by omega⟩, HS2.out, Mz.gotL_end HG2.out (.inl (by omega))⟩
end Go.Proofs.YthdomhejkbpabaaGreat

/- The reference's reader of a machine: what lies where. -/
namespace Go.Proofs.YthdomhejkbpabaaGreat
open Go.RowKit

theorem row_new1 (w : World) (v : Value) (t : TypeId) : (w.alloc (.cells #[v] t)).rowIs w.heap.size t 1 (fun _ => v) := World.rowIs_alloc w #[v] t _ (fun i hi => by
  obtain rfl : i = 0 := by simpa using hi
  rfl)
theorem row_alloc {w : World} {b : Nat} {t : TypeId} {n : Nat} {f : Nat → Value} (h : w.rowIs b t n f) (o : Obj) : (w.alloc o).rowIs b t n f := h.of_block (((Below.refl _ _).alloc (Nat.le_refl _) o).block _ h.lt)
theorem RSt.ra {w w' : World} {S A K : Nat} {s : List UInt8} {a : Nat} {k : Bool} (h : RSt w S A K s a k) (hb : Below w.heap.size w w') : RSt w' S A K s a k := h.frame hb ⟨h.str.lt, h.at_.lt, h.ok.lt⟩
theorem RCl.below {w w' : World} {S A K O F : Nat} (h : RCl w S A K O F) (hb : Below w.heap.size w w') : RCl w' S A K O F := ⟨h.one.of_block (hb.block _ h.one.lt), h.four.of_block (hb.block _ h.four.lt)⟩
theorem RSt.bes {w w' : World} {S A K : Nat} {s : List UInt8} {a : Nat} {k : Bool} (h : RSt w S A K s a k) {T : TypeId} (hb : Bes T w w') (hT : 9 ≠ T ∧ 3 ≠ T ∧ 4 ≠ T) : RSt w' S A K s a k :=
  ⟨hb.row h.str hT.1, hb.row h.at_ hT.2.1, hb.row h.ok hT.2.2, h.le⟩
theorem RCl.bes {w w' : World} {S A K O F : Nat} (h : RCl w S A K O F) {T : TypeId} (hb : Bes T w w') (hT : 99 ≠ T) : RCl w' S A K O F := ⟨hb.row h.one hT, hb.row h.four hT⟩
theorem Ra.set_new {A K F : Nat} {w w' : World} (h : Ra A K w w') (hF : w.heap.size ≤ F) (i : Nat) (v : Value) : Ra A K w (w'.setCell ⟨F, i, none⟩ v) := by
  have on : Only F w' (w'.setCell ⟨F, i, none⟩ v) := (Only.refl F w').setCell i v
  exact ⟨on.os.trans h.os, on.tape.trans h.tape, on.output.trans h.output, by rw [on.size]; exact h.size, fun k hk n1 n2 => by rw [on.block k (by omega)]; exact h.block k hk n1 n2⟩
theorem RSt.set_other {w : World} {S A K : Nat} {s : List UInt8} {a : Nat} {k : Bool} (h : RSt w S A K s a k) (X i : Nat) (v : Value) (h1 : S ≠ X) (h2 : A ≠ X) (h3 : K ≠ X) : RSt (w.setCell ⟨X, i, none⟩ v) S A K s a k :=
  ⟨h.str.of_block (Below.heap_setCell _ _ _ _ h1), h.at_.of_block (Below.heap_setCell _ _ _ _ h2), h.ok.of_block (Below.heap_setCell _ _ _ _ h3), h.le⟩
/-- where the boxes are: below M, each another -/
structure MO (w : World) (L S R A K O F M : Nat) (s : List UInt8) (a : Nat) (k : Bool) (fps : List (Mz.Frm × Value × Value)) (bps : List (List Int × Value)) (inp out : List Int) (st tr : Int) (fv bv iv ov : Value) : Prop where
  rst : RSt w S A K s a k
  cl : RCl w S A K O F
  res : w.rowIs R 29 6 (mfld (.slice none 0 0) (.slice none 0 0) (.slice none 0 0) (.slice none 0 0) 0 0)
  box : MBox w M M fps bps inp out st tr fv bv iv ov
  lt : S < M ∧ R < M ∧ A < M ∧ K < M
  low : L ≤ S ∧ L ≤ R ∧ L ≤ A ∧ L ≤ K ∧ L ≤ M
section
variable {w w' : World} {L S R A K O F M : Nat} {s : List UInt8} {a : Nat} {k : Bool} {fps : List (Mz.Frm × Value × Value)} {bps : List (List Int × Value)} {inp out : List Int} {st tr : Int} {fv bv iv ov : Value}
theorem MO.read (h : MO w L S R A K O F M s a k fps bps inp out st tr fv bv iv ov) (hf : Ra A K w w') {a' : Nat} {k' : Bool} (hst : RSt w' S A K s a' k') : MO w' L S R A K O F M s a' k' fps bps inp out st tr fv bv iv ov := by
  obtain ⟨h1, h2, h3, h4, h5, h6⟩ := h
  obtain ⟨l1, l2, l3, l4⟩ := h5
  obtain ⟨b1, b2, b3, b4, b5, b6, b7, b8⟩ := h4
  exact ⟨hst, h2.ra h1 hf, hf.row h3 (row_ne h3 h1.at_ (by decide)) (row_ne h3 h1.ok (by decide)), ⟨hf.row b1 (row_ne b1 h1.at_ (by decide)) (row_ne b1 h1.ok (by decide)), b2, hf.owns b3 l3 l4, hf.owns b4 l3 l4, hf.owns b5 l3 l4, hf.owns b6 l3 l4,
    fun x hx => ⟨hf.owns (b7 x hx).1 l3 l4, hf.owns (b7 x hx).2 l3 l4⟩, fun x hx => hf.owns (b8 x hx) l3 l4⟩, ⟨l1, l2, l3, l4⟩, h6⟩
theorem MO.below (h : MO w L S R A K O F M s a k fps bps inp out st tr fv bv iv ov) (hb : Below w.heap.size w w') : MO w' L S R A K O F M s a k fps bps inp out st tr fv bv iv ov := h.read (Ra.of_below hb) (h.rst.ra hb)
theorem MO.write (h : MO w L S R A K O F M s a k fps bps inp out st tr fv bv iv ov) (j : Nat) (v : Value) {fv' bv' iv' ov' : Value} {inp' out' : List Int} {st' tr' : Int}
    (hf : ∀ i, i < 6 → (if i = j then v else mfld fv bv iv ov st tr i) = mfld fv' bv' iv' ov' st' tr' i)
    (ef : fv' = fv) (eb : bv' = bv) (hi : w.ownsRow M 3 1 iv' inp'.length (inp'.map (Value.int .i64))) (ho : w.ownsRow M 3 1 ov' out'.length (out'.map (Value.int .i64))) :
    MO (w.setCell ⟨M, j, none⟩ v) L S R A K O F M s a k fps bps inp' out' st' tr' fv' bv' iv' ov' := by
  have hb := Bes.of_set h.box.row j v
  exact ⟨h.rst.bes hb (by decide), h.cl.bes hb (by decide), h.res.of_block (Below.heap_setCell _ _ _ _ (Nat.ne_of_lt h.lt.2.1)), h.box.write j v hf ef eb hi ho, h.lt, h.low⟩
theorem MO.pushB (h : MO w L S R A K O F M s a k fps bps inp out st tr fv bv iv ov) (hg : w.grownBy w' bv.ownBlock) {x : List Int} {u bv' : Value} (hu : w.ownsRow M 3 1 u x.length (x.map (Value.int .i64))) (ho : w'.ownsRow M 27 1 bv' (bps.length + 1) (bps.map (·.2) ++ [u])) :
    MO (w'.setCell ⟨M, 1, none⟩ bv') L S R A K O F M s a k fps (bps ++ [(x, u)]) inp out st tr fv bv' iv ov := by
  have h1 := Bes.of_grown hg h.box.b
  have h2 := Bes.of_set (h.box.stayB hg) 1 bv'
  exact ⟨(h.rst.bes h1 (by decide)).bes h2 (by decide), (h.cl.bes h1 (by decide)).bes h2 (by decide), (h1.row h.res (by decide)).of_block (Below.heap_setCell _ _ _ _ (Nat.ne_of_lt h.lt.2.1)), h.box.pushB hg hu ho, h.lt, h.low⟩
theorem MO.pushF (h : MO w L S R A K O F M s a k fps bps inp out st tr fv bv iv ov) (hg : w.grownBy w' fv.ownBlock) {x : Mz.Frm × Value × Value} {fv' : Value}
    (hu : w.ownsRow M 103 2 x.2.1 x.1.locals.length (x.1.locals.flatMap valCells) ∧ w.ownsRow M 103 2 x.2.2 x.1.stack.length (x.1.stack.flatMap valCells)) (ho : w'.ownsRow M 97 4 fv' (fps.length + 1) (fps.flatMap frmCells ++ frmCells x)) :
    MO (w'.setCell ⟨M, 0, none⟩ fv') L S R A K O F M s a k (fps ++ [x]) bps inp out st tr fv' bv iv ov := by
  have h1 := Bes.of_grown hg h.box.f
  have h2 := Bes.of_set (h.box.stayF hg) 0 fv'
  exact ⟨(h.rst.bes h1 (by decide)).bes h2 (by decide), (h.cl.bes h1 (by decide)).bes h2 (by decide), (h1.row h.res (by decide)).of_block (Below.heap_setCell _ _ _ _ (Nat.ne_of_lt h.lt.2.1)), h.box.pushF hg hu ho, h.lt, h.low⟩
end

theorem mo_begin (w : World) (s : List UInt8) (S R A K O F M : Nat) (hS : S = w.heap.size) (hR : R = w.heap.size + 1) (hA : A = w.heap.size + 2) (hK : K = w.heap.size + 3) (hO : O = w.heap.size + 4) (hF : F = w.heap.size + 5) (hM : M = w.heap.size + 6) (W : World)
    (hW : (((((((w.alloc (Obj.cells #[Value.string { data := s.toArray }] 9)).alloc (Obj.cells #[Value.slice none 0 0, Value.slice none 0 0, Value.slice none 0 0, Value.slice none 0 0, Value.int IntKind.i64 0, Value.int IntKind.i64 0] 29)).alloc (Obj.cells #[Value.int IntKind.i64 0] 3)).alloc (Obj.cells #[Value.bool true] 4)).alloc
      (Obj.cells #[.func (.func 63) #[] #[.pointer (some ⟨A, 0, none⟩), .pointer (some ⟨S, 0, none⟩), .pointer (some ⟨K, 0, none⟩)]] 99)).alloc (Obj.cells #[.func (.func 64) #[] #[.pointer (some ⟨S, 0, none⟩), .pointer (some ⟨A, 0, none⟩), .pointer (some ⟨K, 0, none⟩)]] 99)).alloc
      (Obj.cells #[Value.slice none 0 0, Value.slice none 0 0, Value.slice none 0 0, Value.slice none 0 0, Value.int IntKind.i64 0, Value.int IntKind.i64 0] 29)) = W) :
    MO W w.heap.size S R A K O F M s 0 true [] [] [] [] 0 0 (.slice none 0 0) (.slice none 0 0) (.slice none 0 0) (.slice none 0 0) ∧ Below w.heap.size w W := by
  subst hW
  have a1 := row_new1 w (Value.string { data := s.toArray }) 9
  have s1 : (w.alloc (Obj.cells #[Value.string { data := s.toArray }] 9)).heap.size = w.heap.size + 1 := by simp
  have b1 := (Below.refl w.heap.size w).alloc (Nat.le_refl _) (Obj.cells #[Value.string { data := s.toArray }] 9)
  generalize (w.alloc (Obj.cells #[Value.string { data := s.toArray }] 9)) = W1 at *
  have a2 := row_mach W1 0
  have s2 : (W1.alloc (Obj.cells #[Value.slice none 0 0, Value.slice none 0 0, Value.slice none 0 0, Value.slice none 0 0, Value.int IntKind.i64 0, Value.int IntKind.i64 0] 29)).heap.size = w.heap.size + 2 := by simp [s1]
  have b2 := b1.alloc (by omega) (Obj.cells #[Value.slice none 0 0, Value.slice none 0 0, Value.slice none 0 0, Value.slice none 0 0, Value.int IntKind.i64 0, Value.int IntKind.i64 0] 29)
  have a1 := row_alloc a1 (Obj.cells #[Value.slice none 0 0, Value.slice none 0 0, Value.slice none 0 0, Value.slice none 0 0, Value.int IntKind.i64 0, Value.int IntKind.i64 0] 29)
  rw [s1] at a2
  generalize (W1.alloc (Obj.cells #[Value.slice none 0 0, Value.slice none 0 0, Value.slice none 0 0, Value.slice none 0 0, Value.int IntKind.i64 0, Value.int IntKind.i64 0] 29)) = W2 at *
  have a3 := row_new1 W2 (Value.int IntKind.i64 0) 3
  have s3 : (W2.alloc (Obj.cells #[Value.int IntKind.i64 0] 3)).heap.size = w.heap.size + 3 := by simp [s2]
  have b3 := b2.alloc (by omega) (Obj.cells #[Value.int IntKind.i64 0] 3)
  have a1 := row_alloc a1 (Obj.cells #[Value.int IntKind.i64 0] 3)
  have a2 := row_alloc a2 (Obj.cells #[Value.int IntKind.i64 0] 3)
  rw [s2] at a3
  generalize (W2.alloc (Obj.cells #[Value.int IntKind.i64 0] 3)) = W3 at *
  have a4 := row_new1 W3 (Value.bool true) 4
  have s4 : (W3.alloc (Obj.cells #[Value.bool true] 4)).heap.size = w.heap.size + 4 := by simp [s3]
  have b4 := b3.alloc (by omega) (Obj.cells #[Value.bool true] 4)
  have a1 := row_alloc a1 (Obj.cells #[Value.bool true] 4)
  have a2 := row_alloc a2 (Obj.cells #[Value.bool true] 4)
  have a3 := row_alloc a3 (Obj.cells #[Value.bool true] 4)
  rw [s3] at a4
  generalize (W3.alloc (Obj.cells #[Value.bool true] 4)) = W4 at *
  generalize hone : (Value.func (.func 63) #[] #[.pointer (some ⟨A, 0, none⟩), .pointer (some ⟨S, 0, none⟩), .pointer (some ⟨K, 0, none⟩)]) = V1 at *
  have a5 := row_new1 W4 V1 99
  have s5 : (W4.alloc (Obj.cells #[V1] 99)).heap.size = w.heap.size + 5 := by simp [s4]
  have b5 := b4.alloc (by omega) (Obj.cells #[V1] 99)
  have a1 := row_alloc a1 (Obj.cells #[V1] 99)
  have a2 := row_alloc a2 (Obj.cells #[V1] 99)
  have a3 := row_alloc a3 (Obj.cells #[V1] 99)
  have a4 := row_alloc a4 (Obj.cells #[V1] 99)
  rw [s4] at a5
  generalize (W4.alloc (Obj.cells #[V1] 99)) = W5 at *
  generalize hfour : (Value.func (.func 64) #[] #[.pointer (some ⟨S, 0, none⟩), .pointer (some ⟨A, 0, none⟩), .pointer (some ⟨K, 0, none⟩)]) = V2 at *
  have a6 := row_new1 W5 V2 99
  have s6 : (W5.alloc (Obj.cells #[V2] 99)).heap.size = w.heap.size + 6 := by simp [s5]
  have b6 := b5.alloc (by omega) (Obj.cells #[V2] 99)
  have a1 := row_alloc a1 (Obj.cells #[V2] 99)
  have a2 := row_alloc a2 (Obj.cells #[V2] 99)
  have a3 := row_alloc a3 (Obj.cells #[V2] 99)
  have a4 := row_alloc a4 (Obj.cells #[V2] 99)
  have a5 := row_alloc a5 (Obj.cells #[V2] 99)
  rw [s5] at a6
  generalize (W5.alloc (Obj.cells #[V2] 99)) = W6 at *
  have a7 := MBox.start W6 (w.heap.size + 6) 0 (by omega)
  have b7 := b6.alloc (by omega) (Obj.cells #[Value.slice none 0 0, Value.slice none 0 0, Value.slice none 0 0, Value.slice none 0 0, Value.int IntKind.i64 0, Value.int IntKind.i64 0] 29)
  have a1 := row_alloc a1 (Obj.cells #[Value.slice none 0 0, Value.slice none 0 0, Value.slice none 0 0, Value.slice none 0 0, Value.int IntKind.i64 0, Value.int IntKind.i64 0] 29)
  have a2 := row_alloc a2 (Obj.cells #[Value.slice none 0 0, Value.slice none 0 0, Value.slice none 0 0, Value.slice none 0 0, Value.int IntKind.i64 0, Value.int IntKind.i64 0] 29)
  have a3 := row_alloc a3 (Obj.cells #[Value.slice none 0 0, Value.slice none 0 0, Value.slice none 0 0, Value.slice none 0 0, Value.int IntKind.i64 0, Value.int IntKind.i64 0] 29)
  have a4 := row_alloc a4 (Obj.cells #[Value.slice none 0 0, Value.slice none 0 0, Value.slice none 0 0, Value.slice none 0 0, Value.int IntKind.i64 0, Value.int IntKind.i64 0] 29)
  have a5 := row_alloc a5 (Obj.cells #[Value.slice none 0 0, Value.slice none 0 0, Value.slice none 0 0, Value.slice none 0 0, Value.int IntKind.i64 0, Value.int IntKind.i64 0] 29)
  have a6 := row_alloc a6 (Obj.cells #[Value.slice none 0 0, Value.slice none 0 0, Value.slice none 0 0, Value.slice none 0 0, Value.int IntKind.i64 0, Value.int IntKind.i64 0] 29)
  rw [s6] at a7
  generalize (W6.alloc (Obj.cells #[Value.slice none 0 0, Value.slice none 0 0, Value.slice none 0 0, Value.slice none 0 0, Value.int IntKind.i64 0, Value.int IntKind.i64 0] 29)) = W7 at *
  rw [← hS] at a1
  rw [← hR] at a2
  rw [← hA] at a3
  rw [← hK] at a4
  rw [← hO] at a5
  rw [← hF] at a6
  rw [← hM] at a7
  subst hone hfour
  exact ⟨⟨⟨a1, a3, a4, Nat.zero_le _⟩, ⟨a5, a6⟩, a2, a7, by omega, by omega⟩, b7⟩
end Go.Proofs.YthdomhejkbpabaaGreat
