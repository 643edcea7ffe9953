/- Lemmas: ReadFrm, ReadMach, Same. -/
import Derived.Test.YthdomhejkbpabaaGreatG24
set_option linter.unusedVariables false
set_option linter.unusedSimpArgs false
/- The program's reader: a frame. -/
namespace Go.Proofs.YthdomhejkbpabaaGreat
open Go.RowKit

theorem info_frame : (Tryz.prog.info? 97).map (fun i => (i.zero, i.size, i.bytes)) = some (some (.agg #[.int .i64 0, .int .i64 0, .slice none 0 0, .slice none 0 0]), 4, 64) := by kernel_rfl
theorem push_frm {ops : Array Oper} {rest : List Oper} {o : Oper} {a : Act} {Q : Exit → Act → World → Prop} {s x : Operand}
    (hgd : o.guard = none) (ho : o.op = .call { callee := .builtin .append, args := #[s, x], argTypes := #[25, 25] })
    {base n B : Nat} {v xv : Value} {xs : List Value} {fn pc : Int} {la ka : Option Addr} {ln lc kn kc : Nat} {w : World} (hs : a.eval s = v) (hown : w.ownsRow base 97 4 v n xs) (hx : a.eval x = xv) (hsl : Sl w B xv 1 4 [.int .i64 fn, .int .i64 pc, .slice la ln lc, .slice ka kn kc])
    (hbytes : n ≤ 1000) (hb : base ≤ w.heap.size)
    (h : ∀ v' w', w'.ownsRow base 97 4 v' (n + 1) (xs ++ [.int .i64 fn, .int .i64 pc, .slice la ln lc, .slice ka kn kc]) → w.grownBy w' v.ownBlock → Below base w w' → wpList Tryz.prog ops Q rest (a.put o.dst v') w') :
    wpList Tryz.prog ops Q (o :: rest) a w :=
  push_sl Tryz.underlying25 info_frame rfl (by decide) hgd ho hs hown hx hsl (by
    intro u hu
    simp only [List.mem_cons, List.not_mem_nil, or_false] at hu
    rcases hu with rfl | rfl | rfl | rfl <;> rfl) (by unfold maxLen; omega) (by omega) hb h
def ffld (fn pc : Int) (lv sv : Value) : Nat → Value
  | 0 => .int .i64 fn | 1 => .int .i64 pc | 2 => lv | _ => sv
theorem Rf.set_new {rb F : Nat} {w w' : World} (h : Rf rb w w') (hF : w.heap.size ≤ F) (i : Nat) (v : Value) : Rf rb w (w'.setCell ⟨F, i, none⟩ v) := by
  have on : Only F w' (w'.setCell ⟨F, i, none⟩ v) := (Only.refl F w').setCell i v
  exact ⟨on.os.trans h.os, on.tape.trans h.tape, on.output.trans h.output, by rw [on.size]; exact h.size, fun k hk hn => by rw [on.block k (by omega)]; exact h.block k hk hn⟩
theorem row_ffld (w : World) (fn pc : Int) (la sa : Option Addr) (ln lc sn sc : Nat) : (w.alloc (.cells #[.int .i64 fn, .int .i64 pc, .slice la ln lc, .slice sa sn sc] 97)).rowIs w.heap.size 97 4 (ffld fn pc (.slice la ln lc) (.slice sa sn sc)) :=
  World.rowIs_alloc w #[.int .i64 fn, .int .i64 pc, .slice la ln lc, .slice sa sn sc] 97 _ (fun i hi => by
    have : i = 0 ∨ i = 1 ∨ i = 2 ∨ i = 3 := by simp at hi; omega
    rcases this with rfl | rfl | rfl | rfl <;> rfl)

theorem rdMany_less {α : Type} {f : Mz.Rd α} (hf : ∀ s x r, f s = some (x, r) → r.length ≤ s.length) : ∀ (k : Nat) (s : List UInt8) (l : List α) (r : List UInt8), Mz.rdMany f k s = some (l, r) → r.length ≤ s.length
  | 0, s, l, r, e => by simp only [Mz.rdMany, Option.some.injEq, Prod.mk.injEq] at e; obtain ⟨rfl, rfl⟩ := e; exact Nat.le_refl _
  | k + 1, s, l, r, e => by
    rw [Mz.rdMany] at e
    split at e
    · cases e
    · next x s1 h1 =>
      split at e
      · cases e
      · next l1 s2 h2 =>
        simp only [Option.some.injEq, Prod.mk.injEq] at e
        obtain ⟨rfl, rfl⟩ := e
        exact Nat.le_trans (rdMany_less hf k _ _ _ h2) (hf _ _ _ h1)
theorem rdSome_less {α : Type} {f : Mz.Rd α} (hf : ∀ s x r, f s = some (x, r) → r.length ≤ s.length) {s r : List UInt8} {l : List α} (h : Mz.rdSome f s = some (l, r)) : r.length ≤ s.length ∧ l.length < 256 := by
  unfold Mz.rdSome at h
  split at h
  · cases h
  · next n s1 h1 =>
    have := rdOne_len h1
    have := rdMany_less hf _ _ _ _ h
    have := rdMany_len _ _ _ _ _ h
    have := rdOne_bound h1
    omega
theorem rdFour_len {s r : List UInt8} {x : Int} (h : Mz.rdFour s = some (x, r)) : r.length ≤ s.length := by
  rcases four_cases s with ⟨a, b, c, d, r1, rfl⟩ | ⟨h4, hx⟩
  · simp only [Mz.rdFour, Option.some.injEq, Prod.mk.injEq] at h
    rw [← h.2]; simp only [List.length_cons]; omega
  · rw [hx] at h; cases h
theorem rdSomeVal_len {s r : List UInt8} {l : List Mz.Val} (h : Mz.rdSome Mz.rdVal s = some (l, r)) : r.length ≤ s.length := (rdSome_less (fun _ _ _ h => rdVal_len h) h).1

set_option maxHeartbeats 2000000 in
set_option maxRecDepth 100000 in
theorem frmClos_any (w : World) (lo rb N M : Nat) (fps : List (Mz.Frm × Value × Value)) (bps : List (List Int × Value)) (inp out : List Int) (st tr : Int) (fv bv iv ov : Value) (s : List UInt8)
    (hr : Rdr w rb s) (hp : w.rowIs N 141 1 (fun _ => .pointer (some ⟨rb, 0, none⟩))) (hb : MBox w lo M fps bps inp out st tr fv bv iv ov) (hlo : N ≠ rb ∧ rb < lo) (hs : s.length ≤ 9223372036854775807) (hn : fps.length ≤ 1000) :
    Calls Tryz.prog 137 #[.pointer (some ⟨N, 0, none⟩), .pointer (some ⟨M, 0, none⟩)] w fun e w' => RfB lo rb w w' ∧
      ((∃ x r u y fv', Mz.rdFrm s = some (x, r) ∧ e = .returned (.tuple #[]) ∧ Rdr w' rb r ∧ w'.rowIs N 141 1 (fun _ => .pointer (some ⟨rb, 0, none⟩)) ∧ MBox w' lo M (fps ++ [(x, u, y)]) bps inp out st tr fv' bv iv ov) ∨ (Mz.rdFrm s = none ∧ e = shortE)) := by
  obtain ⟨ao, ac, rfl⟩ := owned_open hb.f
  have c0 := hp.cell (i := 0) (by decide)
  have hN := hp.lt
  have hM := hb.row.lt
  have hlM := hb.low
  have hNM : N ≠ M := row_ne hp hb.row (by decide)
  have hrN : N ≠ rb := hlo.1
  have hrM : M ≠ rb := by omega
  have hlw : lo ≤ w.heap.size := by omega
  have HR := Lib.hid hr
  have HB := Lib.hid hb
  have HP := Lib.hid hp
  have HLO := Lib.hid hlo
  clear hr hp hb hlo
  go_enter Tryz.func137, Tryz.ntmps137
  go_wp2_with fail
  refine (rdOne_any _ rb s HR.out hs).mono ?_
  rintro e w1 ⟨hf1, (⟨fn, s1, v, hx1, rfl, rfl, hr1⟩ | ⟨hx1, rfl⟩)⟩
  case inr => exact ⟨rfl, hf1.toB hlw, .inr ⟨by unfold Mz.rdFrm; rw [hx1], rfl⟩⟩
  have c1 := (hf1.row HP.out hrN).cell (i := 0) (by decide)
  have hN1 : N < w1.heap.size := Nat.lt_of_lt_of_le hN hf1.size
  have hM1 : M < w1.heap.size := Nat.lt_of_lt_of_le hM hf1.size
  have HX1 := Lib.hid hx1
  have HR1 := Lib.hid hr1
  have HF1 := Lib.hid hf1
  have hs1 := Lib.hid (show s1.length ≤ 9223372036854775807 by have := rdOne_len hx1; omega)
  clear hx1 hr1 hf1
  go_wp2_with fail
  have hrb1 : rb < w1.heap.size := Nat.lt_of_lt_of_le HLO.out.2 (Nat.le_trans hlM (Nat.le_of_lt hM1))
  obtain ⟨F, hF⟩ : ∃ F, F = w1.heap.size := ⟨_, rfl⟩
  refine (rdOne_any _ rb s1 (HR1.out.frame ((Below.refl _ _).alloc (Nat.le_refl _) _)) hs1.out).mono ?_
  rintro e w2 ⟨hf2, (⟨pc, s2, v, hx2, rfl, rfl, hr2⟩ | ⟨hx2, rfl⟩)⟩
  case inr =>
    have hf : Rf rb w w2 := HF1.out.trans ((Rf.of_below ((Below.refl _ _).alloc (Nat.le_refl _) _)).trans hf2)
    exact ⟨rfl, hf.toB hlw, .inr ⟨by unfold Mz.rdFrm; rw [HX1.out]; simp only; rw [hx2], rfl⟩⟩
  have r2 := hf2.row (row_ffld w1 fn 0 none none 0 0 0 0) (by omega)
  have hf2' : Rf rb w1 w2 := (Rf.of_below ((Below.refl _ _).alloc (Nat.le_refl _) _)).trans hf2
  rw [← hF] at r2 ⊢
  have hFF := Lib.hid (show w1.heap.size ≤ F by omega)
  have hFr := Lib.hid (show F ≠ rb by omega)
  have hFr' := Lib.hid (show rb ≠ F by omega)
  have hFN := Lib.hid (show N ≠ F by omega)
  have hFN' : F ≠ N := by omega
  have hFM' : F ≠ M := by omega
  have k21 : w2.cell? ⟨F, 1, none⟩ = some (.int .i64 0) := r2.cell (i := 1) (by decide)
  have z21 := r2.frozen 1
  have c2 := (hf2'.row (HF1.out.row HP.out hrN) hrN).cell (i := 0) (by decide)
  have HX2 := Lib.hid hx2
  have HR2 := Lib.hid hr2
  have HF2 := Lib.hid hf2'
  have HROW2 := Lib.hid r2
  have hs2 := Lib.hid (show s2.length ≤ 9223372036854775807 by have := rdOne_len hx2; have := hs1.out; omega)
  clear hx2 hr2 hf2 hf2' r2 hF
  go_wp2_with fail
  refine (rdValues_any _ rb s2 (World.rowIs.of_block HR2.out (Below.heap_setCell _ _ _ _ hFr'.out)) hs2.out).mono ?_
  rintro e w3 ⟨hf3, (⟨ls, s3, lv, hx3, rfl, hmk, hr3⟩ | ⟨hx3, rfl⟩)⟩
  case inr =>
    have hf : Rf rb w w3 := HF1.out.trans ((HF2.out.set_new hFF.out 1 _).trans hf3)
    exact ⟨rfl, hf.toB hlw, .inr ⟨by unfold Mz.rdFrm; rw [HX1.out]; simp only; rw [HX2.out]; simp only; rw [hx3], rfl⟩⟩
  obtain ⟨la, lc, rfl⟩ := owned_open hmk
  have hf3' : Rf rb w1 w3 := (HF2.out.set_new hFF.out 1 _).trans hf3
  have r3 : w3.rowIs F 97 4 (ffld fn pc (.slice none 0 0) (.slice none 0 0)) := (hf3.row (HROW2.out.set 1 _) hFr.out).congr (fun j hj => by
    match j, hj with
    | 0, _ => rfl | 1, _ => rfl | 2, _ => rfl | 3, _ => rfl)
  have k32 : w3.cell? ⟨F, 2, none⟩ = some (.slice none 0 0) := r3.cell (i := 2) (by decide)
  have z32 := r3.frozen 2
  have c3 := (hf3'.row (HF1.out.row HP.out hrN) hrN).cell (i := 0) (by decide)
  have HL3 := Lib.hid (show w3.ownsRow lo 103 2 (.slice la ls.length lc) ls.length (ls.flatMap valCells) from owns_base hmk (Nat.le_trans hlw (Nat.le_trans HF1.out.size (HF2.out.set_new hFF.out 1 _).size)))
  have HX3 := Lib.hid hx3
  have HR3 := Lib.hid hr3
  have HF3 := Lib.hid hf3'
  have HROW3 := Lib.hid r3
  have hs3 := Lib.hid (show s3.length ≤ 9223372036854775807 by have := rdSomeVal_len hx3; have := hs2.out; omega)
  clear hx3 hr3 hf3 hf3' r3 hmk k21 z21
  go_wp2_with fail
  refine (rdValues_any _ rb s3 (World.rowIs.of_block HR3.out (Below.heap_setCell _ _ _ _ hFr'.out)) hs3.out).mono ?_
  rintro e w4 ⟨hf4, (⟨ks, s4, kv, hx4, rfl, hmk, hr4⟩ | ⟨hx4, rfl⟩)⟩
  case inr =>
    have hf : Rf rb w w4 := HF1.out.trans ((HF3.out.set_new hFF.out 2 _).trans hf4)
    exact ⟨rfl, hf.toB hlw, .inr ⟨by unfold Mz.rdFrm; rw [HX1.out]; simp only; rw [HX2.out]; simp only; rw [HX3.out]; simp only; rw [hx4], rfl⟩⟩
  obtain ⟨ka, kc, rfl⟩ := owned_open hmk
  have hf4' : Rf rb w1 w4 := (HF3.out.set_new hFF.out 2 _).trans hf4
  have r4 : w4.rowIs F 97 4 (ffld fn pc (.slice la ls.length lc) (.slice none 0 0)) := (hf4.row (HROW3.out.set 2 _) hFr.out).congr (fun j hj => by
    match j, hj with
    | 0, _ => rfl | 1, _ => rfl | 2, _ => rfl | 3, _ => rfl)
  have k40 : w4.cell? ⟨F, 0, none⟩ = some (.int .i64 fn) := r4.cell (i := 0) (by decide)
  have k41 : w4.cell? ⟨F, 1, none⟩ = some (.int .i64 pc) := r4.cell (i := 1) (by decide)
  have k42 : w4.cell? ⟨F, 2, none⟩ = some (.slice la ls.length lc) := r4.cell (i := 2) (by decide)
  have k43 : w4.cell? ⟨F, 3, none⟩ = some (.slice none 0 0) := r4.cell (i := 3) (by decide)
  have z43 := r4.frozen 3
  have hb4 : MBox w4 lo M fps bps inp out st tr (.slice ao fps.length ac) bv iv ov := HB.out.rf (HF1.out.trans hf4') HR.out
  have c4 := (hf4'.row (HF1.out.row HP.out hrN) hrN).cell (i := 0) (by decide)
  have m4 : w4.cell? ⟨M, 0, none⟩ = some (.slice ao fps.length ac) := hb4.row.cell (i := 0) (by decide)
  have n4 := hb4.row.frozen 0
  have HK4 := Lib.hid (show w4.ownsRow lo 103 2 (.slice ka ks.length kc) ks.length (ks.flatMap valCells) from owns_base hmk (Nat.le_trans hlw (Nat.le_trans HF1.out.size (HF3.out.set_new hFF.out 2 _).size)))
  have HL4 := Lib.hid (show w4.ownsRow lo 103 2 (.slice la ls.length lc) ls.length (ls.flatMap valCells) from (Bes.of_rf hf4 (World.rowIs.of_block HR3.out (Below.heap_setCell _ _ _ _ hFr'.out))).owns ((Bes.of_set HROW3.out 2 _).owns HL3.out (by decide)) (by decide))
  have HX4 := Lib.hid hx4
  have HR4 := Lib.hid hr4
  have HF4 := Lib.hid hf4'
  have HROW4 := Lib.hid r4
  have HB4 := Lib.hid hb4
  have hM4 := Nat.lt_of_lt_of_le hM1 hf4'.size
  have hF4 := r4.lt
  clear hx4 hr4 hf4 hf4' r4 hmk k32 z32 hb4
  have HB5 := Lib.hid (HB.out.rf (HF1.out.trans (HF4.out.set_new hFF.out 3 (.slice ka ks.length kc))) HR.out)
  have HR5 : Hid (Rdr (w4.setCell ⟨F, 3, none⟩ (.slice ka ks.length kc)) rb s4) := World.rowIs.of_block HR4.out (Below.heap_setCell _ _ _ _ hFr'.out)
  have HF5 := Lib.hid (HF1.out.trans (HF4.out.set_new hFF.out 3 (.slice ka ks.length kc)))
  have HK5 := Lib.hid ((Bes.of_set HROW4.out 3 (.slice ka ks.length kc)).owns HK4.out (by decide))
  have HL5 := Lib.hid ((Bes.of_set HROW4.out 3 (.slice ka ks.length kc)).owns HL4.out (by decide))
  have HW5 := Lib.hid (Nat.le_trans hlw HF5.out.size)
  have HSL : Hid (Sl ((w4.setCell ⟨F, 3, none⟩ (.slice ka ks.length kc)).alloc (.cells #[.int .i64 fn, .int .i64 pc, .slice la ls.length lc, .slice ka ks.length kc] 97)) (w4.heap.size + 1) (.slice (some ⟨w4.heap.size, 0, none⟩) 1 1) 1 4 [.int .i64 fn, .int .i64 pc, .slice la ls.length lc, .slice ka ks.length kc]) := by
    have h := Sl.made (w4.setCell ⟨F, 3, none⟩ (.slice ka ks.length kc)) #[.int .i64 fn, .int .i64 pc, .slice la ls.length lc, .slice ka ks.length kc] 97 1 4 rfl (by omega) (by unfold maxLen; omega)
    have e : (w4.setCell ⟨F, 3, none⟩ (.slice ka ks.length kc)).heap.size = w4.heap.size := ((Only.refl F w4).setCell 3 _).size
    rw [e] at h
    exact h
  go_wp2_with (at_builtin; refine push_frm rfl rfl rfl (HB5.out.below ((Below.refl _ _).alloc (Nat.le_refl _) _)).f rfl HSL.out hn (Nat.le_trans HW5.out ((Below.refl _ _).alloc (Nat.le_refl _) _).size) ?_; intro v' w' hown' hgr hb'; obtain ⟨va, vc', rfl⟩ := owned_open hown'; have HST := (HB5.out.below ((Below.refl _ _).alloc (Nat.le_refl _) (.cells #[.int .i64 fn, .int .i64 pc, .slice la ls.length lc, .slice ka ks.length kc] 97))).stayF hgr; have kk' : w'.cell? ⟨M, 0, none⟩ = some (.slice ao fps.length ac) := HST.cell (i := 0) (by decide); have z0' := HST.frozen 0; have HGR := Lib.hid hgr; have HBL := Lib.hid hb'; have HOWN := Lib.hid hown'; clear hgr hb' hown' HST)
  have hba := (Below.refl (w4.setCell ⟨F, 3, none⟩ (.slice ka ks.length kc)).heap.size (w4.setCell ⟨F, 3, none⟩ (.slice ka ks.length kc))).alloc (Nat.le_refl _) (.cells #[.int .i64 fn, .int .i64 pc, .slice la ls.length lc, .slice ka ks.length kc] 97)
  have HB6 := HB5.out.below hba
  have HK6 := owns_of_block HK5.out fun g hg => hba.block g (HK5.out.lt g hg).2
  have HL6 := owns_of_block HL5.out fun g hg => hba.block g (HL5.out.lt g hg).2
  have HF6 := HF5.out.trans (Rf.of_below hba)
  have hg1 := Bes.of_grown HGR.out HB6.f
  have hs6 := Bes.of_set (HB6.stayF HGR.out) 0 (.slice va (fps.length + 1) vc')
  go_end0
  refine ⟨(HF6.toB hlw).trans (RfB.of_below (HBL.out.trans (((Only.refl M _).setCell 0 _).below hlM))), .inl ⟨⟨fn, pc, ls, ks⟩, s4, .slice la ls.length lc, .slice ka ks.length kc, _, ?_, rfl, ?_, ?_, HB6.pushF HGR.out (x := (⟨fn, pc, ls, ks⟩, .slice la ls.length lc, .slice ka ks.length kc)) ⟨HL6, HK6⟩ HOWN.out⟩⟩
  · unfold Mz.rdFrm; rw [HX1.out]; simp only; rw [HX2.out]; simp only; rw [HX3.out]; simp only; rw [HX4.out]
  · exact hs6.row (hg1.row (HR5.out.frame hba) (by decide)) (by decide)
  · exact hs6.row (hg1.row (HF6.row HP.out hrN) (by decide)) (by decide)
end Go.Proofs.YthdomhejkbpabaaGreat

/- The program's reader: a machine. -/
namespace Go.Proofs.YthdomhejkbpabaaGreat
open Go.RowKit

theorem rdMany_all {α : Type} {f : Mz.Rd α} {ok : α → Prop} (hf : ∀ s x r, f s = some (x, r) → ok x) : ∀ (k : Nat) (s : List UInt8) (l : List α) (r : List UInt8), Mz.rdMany f k s = some (l, r) → ∀ x ∈ l, ok x
  | 0, s, l, r, e => by simp only [Mz.rdMany, Option.some.injEq, Prod.mk.injEq] at e; obtain ⟨rfl, rfl⟩ := e; intro x hx; cases hx
  | k + 1, s, l, r, e => by
    rw [Mz.rdMany] at e
    split at e
    · cases e
    · next x s1 h1 =>
      split at e
      · cases e
      · next l1 s2 h2 =>
        simp only [Option.some.injEq, Prod.mk.injEq] at e
        obtain ⟨rfl, rfl⟩ := e
        intro y hy
        rcases List.mem_cons.1 hy with rfl | hy
        · exact hf _ _ _ h1
        · exact rdMany_all hf k _ _ _ h2 y hy
theorem rdSome_all {α : Type} {f : Mz.Rd α} {ok : α → Prop} (hf : ∀ s x r, f s = some (x, r) → ok x) {s r : List UInt8} {l : List α} (h : Mz.rdSome f s = some (l, r)) : ∀ x ∈ l, ok x := by
  unfold Mz.rdSome at h
  split at h
  · cases h
  · exact rdMany_all hf _ _ _ _ h
theorem rdFrm_less {s r : List UInt8} {x : Mz.Frm} (h : Mz.rdFrm s = some (x, r)) : r.length ≤ s.length ∧ x.locals.length < 256 ∧ x.stack.length < 256 := by
  unfold Mz.rdFrm at h
  split at h
  · cases h
  · next h1 =>
    split at h
    · cases h
    · next h2 =>
      split at h
      · cases h
      · next h3 =>
        split at h
        · cases h
        · next h4 =>
          simp only [Option.some.injEq, Prod.mk.injEq] at h
          obtain ⟨rfl, rfl⟩ := h
          have := rdOne_len h1
          have := rdOne_len h2
          have a3 := rdSome_less (fun _ _ _ h => rdVal_len h) h3
          have a4 := rdSome_less (fun _ _ _ h => rdVal_len h) h4
          exact ⟨by omega, a3.2, a4.2⟩
theorem rdBlk_less {s r : List UInt8} {x : List Int} (h : Mz.rdSome Mz.rdFour s = some (x, r)) : r.length ≤ s.length ∧ x.length < 256 := rdSome_less (fun _ _ _ h => rdFour_len h) h

/-- a machine read: all its rows are new -/
def mkMach (lo : Nat) (m : Mz.Mach) (v : Value) (w : World) : Prop :=
  ∃ (fps : List (Mz.Frm × Value × Value)) (bps : List (List Int × Value)) (fv bv iv ov : Value), fps.map (·.1) = m.frames ∧ bps.map (·.1) = m.blocks ∧ v = .agg #[fv, bv, iv, ov, .int .i64 m.status, .int .i64 m.trap] ∧
    w.ownsRow lo 97 4 fv fps.length (fps.flatMap frmCells) ∧ w.ownsRow lo 27 1 bv bps.length (bps.map (·.2)) ∧ w.ownsRow lo 3 1 iv m.inp.length (m.inp.map (Value.int .i64)) ∧ w.ownsRow lo 3 1 ov m.out.length (m.out.map (Value.int .i64)) ∧
    (∀ x ∈ fps, w.ownsRow lo 103 2 x.2.1 x.1.locals.length (x.1.locals.flatMap valCells) ∧ w.ownsRow lo 103 2 x.2.2 x.1.stack.length (x.1.stack.flatMap valCells)) ∧
    (∀ x ∈ bps, w.ownsRow lo 3 1 x.2 x.1.length (x.1.map (Value.int .i64)))
def smallMach (m : Mz.Mach) : Prop := m.inp.length < 256 ∧ m.out.length < 256 ∧ m.blocks.length < 256 ∧ m.frames.length < 256 ∧ (∀ b ∈ m.blocks, b.length < 256) ∧ (∀ f ∈ m.frames, f.locals.length < 256 ∧ f.stack.length < 256)
theorem mkMach.rmach {lo : Nat} {m : Mz.Mach} {v : Value} {w : World} (h : mkMach lo m v w) (hm : smallMach m) : RMach w w.heap.size v m := by
  obtain ⟨fps, bps, fv, bv, iv, ov, e1, e2, rfl, hf, hb, hi, ho, hfs, hbs⟩ := h
  obtain ⟨m1, m2, m3, m4, m5, m6⟩ := hm
  have l1 : fps.length = m.frames.length := by rw [← e1]; simp
  have l2 : bps.length = m.blocks.length := by rw [← e2]; simp
  refine ⟨fv, bv, iv, ov, rfl, ⟨fps, e1, ?_, fun x hx => ?_⟩, ⟨bps.map (·.2), by simp [l2], ?_, fun i hi => ?_⟩, RInts.of_owns hi (by omega), RInts.of_owns ho (by omega)⟩
  · rw [← l1]; exact Sl.of_owns hf (by omega)
  · have hx1 : x.1 ∈ m.frames := by rw [← e1]; exact List.mem_map_of_mem hx
    obtain ⟨a1, a2⟩ := m6 _ hx1
    exact ⟨RVals.of_owns (hfs x hx).1 (by omega), RVals.of_owns (hfs x hx).2 (by omega)⟩
  · rw [← l2]; exact Sl.of_owns hb (by omega)
  · have hi' : i < bps.length := by omega
    have hx := List.getElem_mem hi'
    have g1 : (bps.map (·.2))[i]! = bps[i].2 := by simp [List.getElem!_eq_getElem?_getD, hi']
    have g2 : m.blocks[i]! = bps[i].1 := by rw [← e2]; simp [List.getElem!_eq_getElem?_getD, hi']
    rw [g1, g2]
    have := m5 bps[i].1 (by rw [← e2]; exact List.mem_map_of_mem hx)
    exact RInts.of_owns (hbs _ hx) (by omega)

theorem row_mach (w : World) (st : Int) : (w.alloc (.cells #[.slice none 0 0, .slice none 0 0, .slice none 0 0, .slice none 0 0, .int .i64 st, .int .i64 0] 29)).rowIs w.heap.size 29 6 (mfld (.slice none 0 0) (.slice none 0 0) (.slice none 0 0) (.slice none 0 0) st 0) :=
  World.rowIs_alloc w #[.slice none 0 0, .slice none 0 0, .slice none 0 0, .slice none 0 0, .int .i64 st, .int .i64 0] 29 _ (fun i hi => by
    have : i = 0 ∨ i = 1 ∨ i = 2 ∨ i = 3 ∨ i = 4 ∨ i = 5 := by simp at hi; omega
    rcases this with rfl | rfl | rfl | rfl | rfl | rfl <;> rfl)
theorem MBox.start (w : World) (lo : Nat) (st : Int) (h : lo ≤ w.heap.size) : MBox (w.alloc (.cells #[.slice none 0 0, .slice none 0 0, .slice none 0 0, .slice none 0 0, .int .i64 st, .int .i64 0] 29)) lo w.heap.size [] [] [] [] st 0 (.slice none 0 0) (.slice none 0 0) (.slice none 0 0) (.slice none 0 0) :=
  ⟨row_mach w st, h, World.ownsRow_nil _ _ _ _, World.ownsRow_nil _ _ _ _, World.ownsRow_nil _ _ _ _, World.ownsRow_nil _ _ _ _, (fun x hx => by cases hx), (fun x hx => by cases hx)⟩
theorem Bes.of_only {T : TypeId} {w w' : World} {M n : Nat} {f : Nat → Value} (hr : w.rowIs M T n f) (ho : Only M w w') : Bes T w w' := by
  intro k hk hn
  refine ho.block k (fun e => ?_)
  obtain ⟨c, h1, _⟩ := hr
  exact hn _ _ (by rw [e]; exact h1)
theorem MBox.made {w w' : World} {lo L0 M : Nat} {fps : List (Mz.Frm × Value × Value)} {bps : List (List Int × Value)} {inp out : List Int} {st tr : Int} {fv bv iv ov : Value} (h : MBox w lo M fps bps inp out st tr fv bv iv ov) (hb : Bes 29 w w') (hl : L0 ≤ lo) :
    mkMach L0 ⟨fps.map (·.1), bps.map (·.1), inp, out, st, tr⟩ (.agg #[fv, bv, iv, ov, .int .i64 st, .int .i64 tr]) w' := by
  obtain ⟨h1, h2, h3, h4, h5, h6, h7, h8⟩ := h
  exact ⟨fps, bps, fv, bv, iv, ov, rfl, rfl, rfl, owns_base (hb.owns h3 (by decide)) hl, owns_base (hb.owns h4 (by decide)) hl, owns_base (hb.owns h5 (by decide)) hl, owns_base (hb.owns h6 (by decide)) hl,
    fun x hx => ⟨owns_base (hb.owns (h7 x hx).1 (by decide)) hl, owns_base (hb.owns (h7 x hx).2 (by decide)) hl⟩, fun x hx => owns_base (hb.owns (h8 x hx) (by decide)) hl⟩
/-- what the reader of a machine answers -/
def MachRes (lo rb : Nat) (w : World) (s : List UInt8) (e : Ending) (w' : World) : Prop :=
  RfB lo rb w w' ∧ ((∃ m v, Mz.machOf s = some m ∧ e = .returned v ∧ mkMach lo m v w' ∧ smallMach m) ∨ (Mz.machOf s = none ∧ e = shortE))

theorem enters_frmClos : Enters 137 := enters_of Tryz.func137 (by kernel_rfl) (by kernel_rfl)
theorem mach_begin (w : World) (rb : Nat) (s : List UInt8) (hr : Rdr w rb s) (A : World) (hA : ((w.alloc (.cells #[.pointer (some ⟨rb, 0, none⟩)] 141)).alloc (.cells #[.slice none 0 0, .slice none 0 0, .slice none 0 0, .slice none 0 0, .int .i64 0, .int .i64 0] 29)) = A) :
    A.rowIs w.heap.size 141 1 (fun _ => .pointer (some ⟨rb, 0, none⟩)) ∧ A.rowIs (w.heap.size + 1) 29 6 (mfld (.slice none 0 0) (.slice none 0 0) (.slice none 0 0) (.slice none 0 0) 0 0) ∧ Rdr A rb s ∧ RfB w.heap.size rb w A ∧ A.heap.size = w.heap.size + 2 := by
  subst hA
  have r0 : (w.alloc (.cells #[.pointer (some ⟨rb, 0, none⟩)] 141)).rowIs w.heap.size 141 1 (fun _ => .pointer (some ⟨rb, 0, none⟩)) := World.rowIs_alloc w _ _ _ (fun i hi => by
    obtain rfl : i = 0 := by simpa using hi
    rfl)
  have hs : (w.alloc (.cells #[.pointer (some ⟨rb, 0, none⟩)] 141)).heap.size = w.heap.size + 1 := by simp
  have r1 := row_mach (w.alloc (.cells #[.pointer (some ⟨rb, 0, none⟩)] 141)) 0
  rw [hs] at r1
  have b0 := (Below.refl w.heap.size w).alloc (Nat.le_refl _) (.cells #[.pointer (some ⟨rb, 0, none⟩)] 141)
  have b1 := (Below.refl (w.heap.size + 1) (w.alloc (.cells #[.pointer (some ⟨rb, 0, none⟩)] 141))).alloc (by rw [hs]; exact Nat.le_refl _) (.cells #[.slice none 0 0, .slice none 0 0, .slice none 0 0, .slice none 0 0, .int .i64 0, .int .i64 0] 29)
  exact ⟨r0.of_block (b1.block _ (Nat.lt_succ_self _)), r1, Rdr.frame (Rdr.frame hr b0) (by rw [hs]; exact b1), RfB.of_below (b0.trans (b1.mono (Nat.le_succ _))), by simp⟩
theorem RfB.row {lo rb : Nat} {w w' : World} (h : RfB lo rb w w') {b : Nat} {t : TypeId} {n : Nat} {f : Nat → Value} (hr : w.rowIs b t n f) (h1 : b < lo) (h2 : b ≠ rb) : w'.rowIs b t n f := hr.of_block (h.block b h1 h2)
theorem Rdr.set_old {w : World} {rb M : Nat} {r : List UInt8} (h : Rdr w rb r) (hne : rb ≠ M) (i : Nat) (v : Value) : Rdr (w.setCell ⟨M, i, none⟩ v) rb r := World.rowIs.of_block h (Below.heap_setCell _ _ _ _ hne)
theorem RfB.set_new {lo rb M : Nat} {w w' : World} (h : RfB lo rb w w') (hM : lo ≤ M) (i : Nat) (v : Value) : RfB lo rb w (w'.setCell ⟨M, i, none⟩ v) := h.trans (RfB.of_below (((Only.refl M _).setCell i v).below hM))

set_option maxHeartbeats 4000000 in
set_option maxRecDepth 100000 in
theorem rdMach_any (w : World) (rb : Nat) (s : List UInt8) (h : Rdr w rb s) (hs : s.length ≤ 9223372036854775807) :
    Calls Tryz.prog 105 #[.pointer (some ⟨rb, 0, none⟩)] w (MachRes w.heap.size rb w s) := by
  have hlt := World.rowIs.lt h
  have H := Lib.hid h
  obtain ⟨L0, hL0⟩ : ∃ L0, L0 = w.heap.size := ⟨_, rfl⟩
  rw [← hL0]
  have HL0 := Lib.hid hL0
  clear h hL0
  go_enter Tryz.func105, Tryz.ntmps105
  go_wp2_with fail
  generalize hA : ((w.alloc (.cells #[.pointer (some ⟨rb, 0, none⟩)] 141)).alloc (.cells #[.slice none 0 0, .slice none 0 0, .slice none 0 0, .slice none 0 0, .int .i64 0, .int .i64 0] 29)) = A
  obtain ⟨rN, rR, hrA, hfA, hsA⟩ := mach_begin w rb s H.out A hA
  clear hA
  obtain ⟨N, hN⟩ : ∃ N, N = w.heap.size := ⟨_, rfl⟩
  obtain ⟨R, hR⟩ : ∃ R, R = N + 1 := ⟨_, rfl⟩
  obtain ⟨lo, hlo⟩ : ∃ lo, lo = N + 2 := ⟨_, rfl⟩
  have HNL := Lib.hid (show L0 ≤ lo by have := HL0.out; omega)
  rw [← HL0.out] at hfA
  rw [← hN] at rN rR hsA hlt ⊢
  rw [← hR] at rR ⊢
  rw [← hlo] at hsA
  have HN1 := Lib.hid (show N < lo ∧ N ≠ rb by omega)
  have HR1 := Lib.hid (show R < lo ∧ R ≠ rb ∧ R ≠ N ∧ L0 ≤ R by have := HL0.out; omega)
  have hrl := Lib.hid (show rb < lo by omega)
  have RN := Lib.hid rN
  have RR := Lib.hid rR
  have HFA := Lib.hid hfA
  have HSA := Lib.hid hsA
  clear rN rR hfA hsA hN hR hlo hlt
  refine (rdOne_any A rb s hrA hs).mono ?_
  rintro e w1 ⟨hf1, (⟨st, s1, v, hx1, rfl, rfl, hr1⟩ | ⟨hx1, rfl⟩)⟩
  case inr => exact ⟨rfl, HFA.out.trans ((hf1.toB (Nat.le_of_eq HSA.out.symm)).mono HNL.out), .inr ⟨by unfold Mz.machOf Mz.rdMach; rw [hx1], rfl⟩⟩
  clear hrA
  have hf1' : RfB lo rb A w1 := hf1.toB (Nat.le_of_eq HSA.out.symm)
  have hlo1 : lo ≤ w1.heap.size := Nat.le_trans (Nat.le_of_eq HSA.out.symm) hf1.size
  have c1 := (hf1'.row RN.out HN1.out.1 HN1.out.2).cell (i := 0) (by decide)
  have hN1 : N < w1.heap.size := Nat.lt_of_lt_of_le HN1.out.1 hlo1
  have HX1 := Lib.hid hx1
  have HRD1 := Lib.hid hr1
  have HF1 := Lib.hid hf1'
  have HL1 := Lib.hid hlo1
  have hs1 := Lib.hid (show s1.length ≤ 9223372036854775807 by have := rdOne_len hx1; omega)
  clear hx1 hr1 hf1 hf1' hlo1
  go_wp2_with fail
  have hb1 := (Below.refl w1.heap.size w1).alloc (Nat.le_refl _) (.cells #[.slice none 0 0, .slice none 0 0, .slice none 0 0, .slice none 0 0, .int .i64 st, .int .i64 0] 29)
  have hm1 := MBox.start w1 lo st HL1.out
  have hrd1 := HRD1.out.frame hb1
  have hfb1 : RfB lo rb A (w1.alloc (.cells #[.slice none 0 0, .slice none 0 0, .slice none 0 0, .slice none 0 0, .int .i64 st, .int .i64 0] 29)) := HF1.out.trans ((RfB.of_below hb1).mono HL1.out)
  obtain ⟨M, hM⟩ : ∃ M, M = w1.heap.size := ⟨_, rfl⟩
  have hlM : lo ≤ M := by rw [hM]; exact HL1.out
  rw [← hM] at hm1 ⊢
  generalize (w1.alloc (.cells #[.slice none 0 0, .slice none 0 0, .slice none 0 0, .slice none 0 0, .int .i64 st, .int .i64 0] 29)) = A1 at *
  refine (rdOne_any A1 rb s1 hrd1 hs1.out).mono ?_
  rintro e w2 ⟨hf2, (⟨tr, s2, v, hx2, rfl, rfl, hr2⟩ | ⟨hx2, rfl⟩)⟩
  case inr => exact ⟨rfl, HFA.out.trans ((hfb1.trans (hf2.toB (Nat.le_trans hlM (Nat.le_of_lt hm1.row.lt)))).mono HNL.out), .inr ⟨by unfold Mz.machOf Mz.rdMach; rw [HX1.out]; simp only; rw [hx2], rfl⟩⟩
  have hlo2 : lo ≤ A1.heap.size := Nat.le_trans hlM (Nat.le_of_lt hm1.row.lt)
  have hf2' : RfB lo rb A w2 := hfb1.trans (hf2.toB hlo2)
  have hm2 := hm1.rf hf2 hrd1
  have hrM : rb ≠ M := by have := hrl.out; omega
  have hNM : N ≠ M := by have := HN1.out; omega
  have hNM' : M ≠ N := fun e => hNM e.symm
  have k2 : w2.cell? ⟨M, 5, none⟩ = some (.int .i64 0) := hm2.row.cell (i := 5) (by decide)
  have z2 := hm2.row.frozen 5
  have c2 := (hf2'.row RN.out HN1.out.1 HN1.out.2).cell (i := 0) (by decide)
  have HX2 := Lib.hid hx2
  have HRD2 := Lib.hid (hr2.set_old hrM 5 (.int .i64 tr))
  have HF2 := Lib.hid (hf2'.set_new hlM 5 (.int .i64 tr))
  have HM2 := Lib.hid (hm2.write 5 (.int .i64 tr) (fv' := .slice none 0 0) (bv' := .slice none 0 0) (iv' := .slice none 0 0) (ov' := .slice none 0 0) (inp' := []) (out' := []) (st' := st) (tr' := tr) (by
    intro j hj
    match j, hj with
    | 0, _ => rfl | 1, _ => rfl | 2, _ => rfl | 3, _ => rfl | 4, _ => rfl | 5, _ => rfl) rfl rfl hm2.i hm2.o)
  have hs2 := Lib.hid (show s2.length ≤ 9223372036854775807 by have := rdOne_len hx2; have := hs1.out; omega)
  have hrM := Lib.hid hrM
  clear hb1 hm1 hrd1 hfb1 hM hf2 hx2 hr2 hm2 hf2' hlo2 c1
  go_wp2_with fail
  refine (rdNumbers_any _ rb s2 HRD2.out hs2.out).mono ?_
  rintro e w3 ⟨hf3, (⟨inp, s3, v, hx3, rfl, hmk, hr3⟩ | ⟨hx3, rfl⟩)⟩
  case inr => exact ⟨rfl, HFA.out.trans ((HF2.out.trans (hf3.toB (Nat.le_trans hlM (Nat.le_of_lt HM2.out.row.lt)))).mono HNL.out), .inr ⟨by unfold Mz.machOf Mz.rdMach; rw [HX1.out]; simp only; rw [HX2.out]; simp only; rw [hx3], rfl⟩⟩
  obtain ⟨ia, ic, rfl⟩ := owned_open hmk
  have hlo3 := Nat.le_trans hlM (Nat.le_of_lt HM2.out.row.lt)
  have hf3' := HF2.out.trans (hf3.toB hlo3)
  have hm3 := HM2.out.rf hf3 HRD2.out
  have k3 : w3.cell? ⟨M, 2, none⟩ = some (.slice none 0 0) := hm3.row.cell (i := 2) (by decide)
  have z3 := hm3.row.frozen 2
  have c3 := (hf3'.row RN.out HN1.out.1 HN1.out.2).cell (i := 0) (by decide)
  have HX3 := Lib.hid hx3
  have HRD3 := Lib.hid (hr3.set_old hrM.out 2 (.slice ia inp.length ic))
  have HF3 := Lib.hid (hf3'.set_new hlM 2 (.slice ia inp.length ic))
  have HM3 := Lib.hid (hm3.write 2 (.slice ia inp.length ic) (fv' := .slice none 0 0) (bv' := .slice none 0 0) (iv' := .slice ia inp.length ic) (ov' := .slice none 0 0) (inp' := inp) (out' := []) (st' := st) (tr' := tr) (by
    intro j hj
    match j, hj with
    | 0, _ => rfl | 1, _ => rfl | 2, _ => rfl | 3, _ => rfl | 4, _ => rfl | 5, _ => rfl) rfl rfl (owns_base hmk hlo3) hm3.o)
  have hs3 := Lib.hid (show s3.length ≤ 9223372036854775807 by have := rdBlk_less hx3; have := hs2.out; omega)
  clear hf3 hx3 hr3 hm3 hf3' hlo3 hmk c2 k2 z2
  go_wp2_with fail
  refine (rdNumbers_any _ rb s3 HRD3.out hs3.out).mono ?_
  rintro e w4 ⟨hf4, (⟨out, s4, v, hx4, rfl, hmk, hr4⟩ | ⟨hx4, rfl⟩)⟩
  case inr => exact ⟨rfl, HFA.out.trans ((HF3.out.trans (hf4.toB (Nat.le_trans hlM (Nat.le_of_lt HM3.out.row.lt)))).mono HNL.out), .inr ⟨by unfold Mz.machOf Mz.rdMach; rw [HX1.out]; simp only; rw [HX2.out]; simp only; rw [HX3.out]; simp only; rw [hx4], rfl⟩⟩
  obtain ⟨oa, oc, rfl⟩ := owned_open hmk
  have hlo4 := Nat.le_trans hlM (Nat.le_of_lt HM3.out.row.lt)
  have hf4' := HF3.out.trans (hf4.toB hlo4)
  have hm4 := HM3.out.rf hf4 HRD3.out
  have k4 : w4.cell? ⟨M, 3, none⟩ = some (.slice none 0 0) := hm4.row.cell (i := 3) (by decide)
  have z4 := hm4.row.frozen 3
  have c4 := (hf4'.row RN.out HN1.out.1 HN1.out.2).cell (i := 0) (by decide)
  have HX4 := Lib.hid hx4
  have HRD4 := Lib.hid (hr4.set_old hrM.out 3 (.slice oa out.length oc))
  have HF4 := Lib.hid (hf4'.set_new hlM 3 (.slice oa out.length oc))
  have HM4 := Lib.hid (hm4.write 3 (.slice oa out.length oc) (fv' := .slice none 0 0) (bv' := .slice none 0 0) (iv' := .slice ia inp.length ic) (ov' := .slice oa out.length oc) (inp' := inp) (out' := out) (st' := st) (tr' := tr) (by
    intro j hj
    match j, hj with
    | 0, _ => rfl | 1, _ => rfl | 2, _ => rfl | 3, _ => rfl | 4, _ => rfl | 5, _ => rfl) rfl rfl hm4.i (owns_base hmk hlo4))
  have hs4 := Lib.hid (show s4.length ≤ 9223372036854775807 by have := rdBlk_less hx4; have := hs3.out; omega)
  clear hf4 hx4 hr4 hm4 hf4' hlo4 hmk c3 k3 z3
  go_wp2_with fail
  refine (rdSome_fold (Mz.rdSome Mz.rdFour) _ rb s4 _ _ (fun bl r w1 => ∃ bps bv, bps.map (·.1) = bl ∧ Rdr w1 rb r ∧ MBox w1 lo M [] bps inp out st tr (.slice none 0 0) bv (.slice ia inp.length ic) (.slice oa out.length oc) ∧ r.length ≤ 9223372036854775807 ∧ RfB lo rb A w1) (fun w1 => RfB lo rb A w1) HRD4.out hs4.out ?_ ?_ enters_blkClos ?_).mono ?_
  case refine_1 =>
    intro n r1 hx w1 hr hrf
    exact ⟨[], _, rfl, hr, HM4.out.rf hrf HRD4.out, by have := rdOne_len hx; have := hs4.out; omega, HF4.out.trans (hrf.toB (Nat.le_trans hlM (Nat.le_of_lt HM4.out.row.lt)))⟩
  case refine_2 =>
    intro w1 hrf
    exact HF4.out.trans (hrf.toB (Nat.le_trans hlM (Nat.le_of_lt HM4.out.row.lt)))
  case refine_3 =>
    rintro l r w1 hl ⟨bps, bv, hbl, hr, hm, hrl', hf⟩
    have hp := hf.row RN.out HN1.out.1 HN1.out.2
    have hlen : bps.length = l.length := by rw [← hbl]; simp
    refine ⟨fun x r' hx => ?_, fun hx => ?_⟩
    · refine (blkClos_some w1 lo rb N M [] bps inp out st tr _ bv _ _ r r' x hr hp hm ⟨HN1.out.2, hrl.out⟩ hrl' hx (by omega)).mono ?_
      rintro e w2 ⟨rfl, hr2, _, ⟨u, bv', hm2⟩, hf2⟩
      exact ⟨rfl, bps ++ [(x, u)], bv', by simp [hbl], hr2, hm2, by have := rdBlk_less hx; omega, hf.trans hf2⟩
    · refine (blkClos_none w1 lo rb N M [] bps inp out st tr _ bv _ _ r hr hp hm ⟨HN1.out.2, hrl.out⟩ hrl' hx).mono ?_
      rintro e w2 ⟨rfl, hf2⟩
      exact ⟨rfl, hf.trans hf2⟩
  rintro e w5 (⟨bl, s5, hx5, rfl, bps, bv, hbl, hr5, hm5, hs5, hf5⟩ | ⟨hx5, rfl, hf5⟩)
  case inr => exact ⟨rfl, HFA.out.trans (hf5.mono HNL.out), .inr ⟨by unfold Mz.machOf Mz.rdMach; rw [HX1.out]; simp only; rw [HX2.out]; simp only; rw [HX3.out]; simp only; rw [HX4.out]; simp only; rw [hx5], rfl⟩⟩
  have c5 := (hf5.row RN.out HN1.out.1 HN1.out.2).cell (i := 0) (by decide)
  have HX5 := Lib.hid hx5
  have HRD5 := Lib.hid hr5
  have HF5 := Lib.hid hf5
  have HM5 := Lib.hid hm5
  have HBL := Lib.hid hbl
  have hs5 := Lib.hid hs5
  clear hx5 hr5 hf5 hm5 hbl c4 k4 z4
  go_wp2_with fail
  refine (rdSome_fold Mz.rdFrm _ rb s5 _ _ (fun fl r w1 => ∃ fps fv, fps.map (·.1) = fl ∧ Rdr w1 rb r ∧ MBox w1 lo M fps bps inp out st tr fv bv (.slice ia inp.length ic) (.slice oa out.length oc) ∧ r.length ≤ 9223372036854775807 ∧ RfB lo rb A w1) (fun w1 => RfB lo rb A w1) HRD5.out hs5.out ?_ ?_ enters_frmClos ?_).mono ?_
  case refine_1 =>
    intro n r1 hx w1 hr hrf
    exact ⟨[], _, rfl, hr, HM5.out.rf hrf HRD5.out, by have := rdOne_len hx; have := hs5.out; omega, HF5.out.trans (hrf.toB (Nat.le_trans hlM (Nat.le_of_lt HM5.out.row.lt)))⟩
  case refine_2 =>
    intro w1 hrf
    exact HF5.out.trans (hrf.toB (Nat.le_trans hlM (Nat.le_of_lt HM5.out.row.lt)))
  case refine_3 =>
    rintro l r w1 hl ⟨fps, fv, hfl, hr, hm, hrl', hf⟩
    have hp := hf.row RN.out HN1.out.1 HN1.out.2
    have hlen : fps.length = l.length := by rw [← hfl]; simp
    have hc := frmClos_any w1 lo rb N M fps bps inp out st tr fv bv _ _ r hr hp hm ⟨HN1.out.2, hrl.out⟩ hrl' (by omega)
    refine ⟨fun x r' hx => hc.mono ?_, fun hx => hc.mono ?_⟩
    · rintro e w2 ⟨hf2, (⟨x', r2, u, y, fv', hx', rfl, hr2, _, hm2⟩ | ⟨hx', _⟩)⟩
      · rw [hx] at hx'
        simp only [Option.some.injEq, Prod.mk.injEq] at hx'
        obtain ⟨rfl, rfl⟩ := hx'
        exact ⟨rfl, fps ++ [(x, u, y)], fv', by simp [hfl], hr2, hm2, by have := rdFrm_less hx; omega, hf.trans hf2⟩
      · rw [hx] at hx'; cases hx'
    · rintro e w2 ⟨hf2, (⟨x', r2, u, y, fv', hx', _⟩ | ⟨_, rfl⟩)⟩
      · rw [hx] at hx'; cases hx'
      · exact ⟨rfl, hf.trans hf2⟩
  rintro e w6 (⟨fl, s6, hx6, rfl, fps, fv, hfl, hr6, hm6, hs6, hf6⟩ | ⟨hx6, rfl, hf6⟩)
  case inr => exact ⟨rfl, HFA.out.trans (hf6.mono HNL.out), .inr ⟨by unfold Mz.machOf Mz.rdMach; rw [HX1.out]; simp only; rw [HX2.out]; simp only; rw [HX3.out]; simp only; rw [HX4.out]; simp only; rw [HX5.out]; simp only; rw [hx6], rfl⟩⟩
  have hx : Mz.rdMach s = some (⟨fl, bl, inp, out, st, tr⟩, s6) := by
    unfold Mz.rdMach; rw [HX1.out]; simp only; rw [HX2.out]; simp only; rw [HX3.out]; simp only; rw [HX4.out]; simp only; rw [HX5.out]; simp only; rw [hx6]
  have hsm : smallMach ⟨fl, bl, inp, out, st, tr⟩ :=
    ⟨(rdBlk_less HX3.out).2, (rdBlk_less HX4.out).2, (rdSome_less (fun _ _ _ h => (rdBlk_less h).1) HX5.out).2, (rdSome_less (fun _ _ _ h => (rdFrm_less h).1) hx6).2, rdSome_all (fun _ _ _ h => (rdBlk_less h).2) HX5.out, rdSome_all (fun _ _ _ h => (rdFrm_less h).2) hx6⟩
  have c6 := (hf6.row RN.out HN1.out.1 HN1.out.2).cell (i := 0) (by decide)
  have rR6 := hf6.row RR.out HR1.out.1 HR1.out.2.1
  have HX := Lib.hid hx
  have HSM := Lib.hid hsm
  have HRD6 := Lib.hid hr6
  have HF6 := Lib.hid hf6
  have m60 : w6.cell? ⟨M, 0, none⟩ = some fv := hm6.row.cell (i := 0) (by decide)
  have m61 : w6.cell? ⟨M, 1, none⟩ = some bv := hm6.row.cell (i := 1) (by decide)
  have m62 : w6.cell? ⟨M, 2, none⟩ = some (.slice ia inp.length ic) := hm6.row.cell (i := 2) (by decide)
  have m63 : w6.cell? ⟨M, 3, none⟩ = some (.slice oa out.length oc) := hm6.row.cell (i := 3) (by decide)
  have m64 : w6.cell? ⟨M, 4, none⟩ = some (.int .i64 st) := hm6.row.cell (i := 4) (by decide)
  have m65 : w6.cell? ⟨M, 5, none⟩ = some (.int .i64 tr) := hm6.row.cell (i := 5) (by decide)
  have r60 : w6.cell? ⟨R, 0, none⟩ = some (.slice none 0 0) := rR6.cell (i := 0) (by decide)
  have r61 : w6.cell? ⟨R, 1, none⟩ = some (.slice none 0 0) := rR6.cell (i := 1) (by decide)
  have r62 : w6.cell? ⟨R, 2, none⟩ = some (.slice none 0 0) := rR6.cell (i := 2) (by decide)
  have r63 : w6.cell? ⟨R, 3, none⟩ = some (.slice none 0 0) := rR6.cell (i := 3) (by decide)
  have r64 : w6.cell? ⟨R, 4, none⟩ = some (.int .i64 0) := rR6.cell (i := 4) (by decide)
  have r65 : w6.cell? ⟨R, 5, none⟩ = some (.int .i64 0) := rR6.cell (i := 5) (by decide)
  have z60 := rR6.frozen 0
  have z61 := rR6.frozen 1
  have z62 := rR6.frozen 2
  have z63 := rR6.frozen 3
  have z64 := rR6.frozen 4
  have z65 := rR6.frozen 5
  obtain ⟨fa, fc, rfl⟩ := owned_open hm6.f
  obtain ⟨ba, bc, rfl⟩ := owned_open hm6.b
  have HM6 := Lib.hid hm6
  have HFL := Lib.hid hfl
  have hs6 := Lib.hid hs6
  have HR6 := Lib.hid rR6
  have n6 := World.rowIs.cell hr6 (i := 0) (by decide)
  clear hx6 hx hsm hr6 hf6 hm6 hfl c5 rR6
  cases s6 with
  | cons b r =>
    obtain ⟨ba, hba, hne⟩ : ∃ ba : ByteArray, Str (b :: r) = .string ba ∧ ba.toList.isEmpty = false := ⟨⟨(b :: r).toArray⟩, rfl, by rw [ByteArray.toList_eq]; rfl⟩
    rw [hba] at n6
    clear hba
    go_wp2_with fail
    exact ⟨rfl, HFA.out.trans (HF6.out.mono HNL.out), .inr ⟨by unfold Mz.machOf; rw [HX.out], rfl⟩⟩
  | nil =>
    have n6' : w6.cell? ⟨rb, 0, none⟩ = some (.string ⟨#[]⟩) := n6
    clear n6
    go_wp2_with fail
    have q0 := HR6.out.set 0 (.slice fa fps.length fc)
    have q1 := q0.set 1 (.slice ba bps.length bc)
    have q2 := q1.set 2 (.slice ia inp.length ic)
    have q3 := q2.set 3 (.slice oa out.length oc)
    have q4 := q3.set 4 (.int .i64 st)
    have q5 := q4.set 5 (.int .i64 tr)
    have d0 := q0.cell (i := 0) (by decide)
    have d1 := q1.cell (i := 1) (by decide)
    have d2 := q2.cell (i := 2) (by decide)
    have d3 := q3.cell (i := 3) (by decide)
    have d4 := q4.cell (i := 4) (by decide)
    have d5 := q5.cell (i := 5) (by decide)
    rw [if_pos rfl] at d0 d1 d2 d3 d4 d5
    have on : Only R w6 _ := (((((((Only.refl R w6).setCell 0 (.slice fa fps.length fc)).setCell 1 (.slice ba bps.length bc)).setCell 2 (.slice ia inp.length ic)).setCell 3 (.slice oa out.length oc)).setCell 4 (.int .i64 st)).setCell 5 (.int .i64 tr))
    have hm := HM6.out.made (Bes.of_only HR6.out on) HNL.out
    refine bodyPost_ret (by simp [results, Tryz.results105, go_sem, d0, d1, d2, d3, d4, d5]; try rfl) rfl ?_
    refine ⟨HFA.out.trans ((HF6.out.mono HNL.out).trans (RfB.of_below (on.below HR1.out.2.2.2))), .inl ⟨⟨fl, bl, inp, out, st, tr⟩, _, by unfold Mz.machOf; rw [HX.out], rfl, ?_, HSM.out⟩⟩
    rw [HFL.out, HBL.out] at hm
    exact hm
end Go.Proofs.YthdomhejkbpabaaGreat

/- The reference's SameBlocks, sameValues. -/
namespace Go.Proofs.YthdomhejkbpabaaGreat
open Go.RowKit

/-- nothing is other in the first k -/
def SameToG {α : Type} [Inhabited α] (a b : List α) (k : Nat) : Prop := ∀ i, i < k → nth a i = nth b i
theorem same_of_toG {α : Type} [Inhabited α] {a b : List α} (hl : a.length = b.length) (h : SameToG a b a.length) : a = b := by
  apply List.ext_getElem hl
  intro i h1 h2
  have := h i h1
  rwa [nth_lt h1, nth_lt h2] at this
theorem SameToG.succ {α : Type} [Inhabited α] {a b : List α} {k : Nat} (h : SameToG a b k) (he : nth a k = nth b k) : SameToG a b (k + 1) := fun i hi => by
  by_cases c : i = k
  · rw [c]; exact he
  · exact h i (by omega)

theorem quiet_from {P : Program} {f : FuncId} {args : Array Value} {w : World} {nd n : Nat} {v : Value} (h : Calls P f args (w.drewN (nd + n)) fun e w' => e = .returned v ∧ ∃ k, w' = (w.drewN (nd + n)).drewN k) : Calls P f args (w.drewN (nd + n)) fun e w'' => e = .returned v ∧ ∃ m, w'' = w.drewN (nd + m) :=
  h.mono fun _ _ ⟨he, k, hk⟩ => ⟨he, n + k, by rw [hk, World.drewN_drewN, Nat.add_assoc]⟩
set_option maxHeartbeats 1000000 in
theorem sameBlocks_any (u v : Value) (a b : List (List Int)) (B : Nat) (w : World) (ha : RBlocks w B u a) (hb : RBlocks w B v b) (hB : B ≤ w.heap.size) :
    Calls Tryz.prog 97 #[u, v] w fun e w' => e = .returned (.bool (decide (a = b))) ∧ ∃ n, w' = w.drewN n := by
  obtain ⟨ao, c, rfl, h1, h2, h3⟩ := ha.open
  obtain ⟨bo, d, rfl, k1, k2, k3⟩ := hb.open
  unfold maxLen at h2 k2
  by_cases hl : a.length = b.length
  · have hl' : ((a.length : Int) != b.length) = false := by simp [hl]
    have HL := Lib.hid hl
    clear hl
    go_enter Tryz.func97, Tryz.ntmps97
    go_wp2_with fail
    go_loopw [5] (fun i wr => ∃ k : Nat, k ≤ a.length ∧ i = .int .i64 k ∧ SameToG a b k ∧ ∃ n, wr = w.drewN n) (fun i _ => a.length - (intOf i).toNat)
    case atStart => exact ⟨0, Nat.zero_le _, rfl, fun i hi => by omega, 0, rfl⟩
    case round =>
      obtain ⟨k, hk, rfl, hall, nd, rfl⟩ := hrel
      by_cases hlt : k < a.length
      · have hlt2 : k < b.length := by have := HL.out; omega
        obtain ⟨ab, ax, av, rfl, aB, ac, ar⟩ := ha.at hlt
        obtain ⟨bb, bx, bv, rfl, bB, bc, br⟩ := hb.at hlt2
        obtain ⟨avo, avc, rfl, _, _, _⟩ := ar.open
        obtain ⟨bvo, bvc, rfl, _, _, _⟩ := br.open
        have HAR := Lib.hid ar
        have HBR := Lib.hid br
        have HALL := Lib.hid hall
        clear ar br hall
        by_cases he : nth a k = nth b k
        · have he' : decide (nth a k = nth b k) = true := by simpa using he
          have HE := Lib.hid he
          clear he
          go_wp2_with fail
          go_quiet ((go_at_call 51; exact quiet_from (sameInts_any _ _ _ _ B _ (HAR.out.frame (below_drewN _ _ _)) (HBR.out.frame (below_drewN _ _ _)) hB)))
          go_wp2_with fail
          go_roundw
          case rel => exact ⟨k + 1, by omega, by go_num, HALL.out.succ HE.out, _, rfl⟩
          case measure => simp [intOf]; omega
        · have he' : decide (nth a k = nth b k) = false := by simpa using he
          have hne : Hid (a ≠ b) := fun e => he (by rw [e])
          clear he
          go_wp2_with fail
          go_quiet ((go_at_call 51; exact quiet_from (sameInts_any _ _ _ _ B _ (HAR.out.frame (below_drewN _ _ _)) (HBR.out.frame (below_drewN _ _ _)) hB)))
          go_wp2_with fail
          go_ret
          exact ⟨ret_bool (by simp [hne.out]), _, World.drewN_drewN _ _ _⟩
      · have hab : Hid (a = b) := same_of_toG HL.out (fun i hi => hall i (by omega))
        go_wp2_with fail
        go_ret
        exact ⟨ret_bool (by simp [hab.out]), nd, rfl⟩
  · have hl' : ((a.length : Int) != b.length) = true := by rw [bne_iff_ne]; omega
    have hne : Hid (a ≠ b) := fun e => hl (by rw [e])
    clear hl
    go_enter Tryz.func97, Tryz.ntmps97
    go_wp2_with fail
    go_ret
    exact ⟨ret_bool (by simp [hne.out]), 0, rfl⟩

theorem val_eq {x y : Mz.Val} : x = y ↔ x.ref = y.ref ∧ x.n = y.n := by cases x; cases y; simp
set_option maxHeartbeats 1000000 in
theorem sameValues_any (u v : Value) (a b : List Mz.Val) (B : Nat) (w : World) (ha : RVals w B u a) (hb : RVals w B v b) (hB : B ≤ w.heap.size) :
    Calls Tryz.prog 98 #[u, v] w fun e w' => e = .returned (.bool (decide (a = b))) ∧ ∃ n, w' = w.drewN n := by
  obtain ⟨ao, c, rfl, h1, h2, h3⟩ := ha.open
  obtain ⟨bo, d, rfl, k1, k2, k3⟩ := hb.open
  unfold maxLen at h2 k2
  by_cases hl : a.length = b.length
  · have hl' : ((a.length : Int) != b.length) = false := by simp [hl]
    have HL := Lib.hid hl
    clear hl
    go_enter Tryz.func98, Tryz.ntmps98
    go_wp2_with fail
    go_loopw [5] (fun i wr => ∃ k : Nat, k ≤ a.length ∧ i = .int .i64 k ∧ SameToG a b k ∧ ∃ n, wr = w.drewN n) (fun i _ => a.length - (intOf i).toNat)
    case atStart => exact ⟨0, Nat.zero_le _, rfl, fun i hi => by omega, 0, rfl⟩
    case round =>
      obtain ⟨k, hk, rfl, hall, nd, rfl⟩ := hrel
      by_cases hlt : k < a.length
      · have hlt2 : k < b.length := by have := HL.out; omega
        obtain ⟨ab, ax, rfl, aB, ac1, ac2⟩ := ha.at hlt
        obtain ⟨bb, bx, rfl, bB, bc1, bc2⟩ := hb.at hlt2
        have HALL := Lib.hid hall
        clear hall
        obtain ⟨x1, hx1⟩ : ∃ x1, x1 = (nth a k).ref := ⟨_, rfl⟩
        obtain ⟨x2, hx2⟩ : ∃ x2, x2 = (nth a k).n := ⟨_, rfl⟩
        obtain ⟨y1, hy1⟩ : ∃ y1, y1 = (nth b k).ref := ⟨_, rfl⟩
        obtain ⟨y2, hy2⟩ : ∃ y2, y2 = (nth b k).n := ⟨_, rfl⟩
        rw [← hx1] at ac1
        rw [← hx2] at ac2
        rw [← hy1] at bc1
        rw [← hy2] at bc2
        have HV : Hid (nth a k = nth b k ↔ x1 = y1 ∧ x2 = y2) := by unfold Hid; rw [val_eq, hx1, hx2, hy1, hy2]
        clear hx1 hx2 hy1 hy2
        by_cases he : x1 = y1 ∧ x2 = y2
        · have HE : Hid (nth a k = nth b k) := HV.out.2 he
          obtain ⟨rfl, rfl⟩ := he
          go_wp2_with fail
          go_quiet (fail)
          go_wp2_with fail
          go_roundw
          case rel => exact ⟨k + 1, by omega, by go_num, HALL.out.succ HE.out, _, rfl⟩
          case measure => simp [intOf]; omega
        · have hne : Hid (a ≠ b) := fun e => he (HV.out.1 (by rw [e]))
          have hcase : (x1 = y1 ∧ (x2 == y2) = false) ∨ (x1 = true ∧ y1 = false) ∨ (x1 = false ∧ y1 = true) := by
            cases x1 <;> cases y1 <;> simp_all
          clear he HV
          rcases hcase with ⟨rfl, hxy⟩ | ⟨rfl, rfl⟩ | ⟨rfl, rfl⟩
          all_goals
            go_wp2_with fail
            go_quiet (fail)
            go_wp2_with fail
            go_ret
            exact ⟨ret_bool (by simp [hne.out]), _, World.drewN_drewN _ _ _⟩
      · have hab : Hid (a = b) := same_of_toG HL.out (fun i hi => hall i (by omega))
        go_wp2_with fail
        go_ret
        exact ⟨ret_bool (by simp [hab.out]), nd, rfl⟩
  · have hl' : ((a.length : Int) != b.length) = true := by rw [bne_iff_ne]; omega
    have hne : Hid (a ≠ b) := fun e => hl (by rw [e])
    clear hl
    go_enter Tryz.func98, Tryz.ntmps98
    go_wp2_with fail
    go_ret
    exact ⟨ret_bool (by simp [hne.out]), 0, rfl⟩
end Go.Proofs.YthdomhejkbpabaaGreat
