/- Lemmas: SameM, Six, Told, Save, Holder. -/
import Derived.Test.YthdomhejkbpabaaGreatG25
import Derived.Defers
import Derived.Recover
import Derived.Test.YthdomhejkbpabaaGreatG21
import Derived.Test.YthdomhejkbpabaaGreatG04
set_option linter.unusedVariables false
set_option linter.unusedSimpArgs false
/- The reference's SameMachine. -/
namespace Go.Proofs.YthdomhejkbpabaaGreat
open Go.RowKit

theorem row_machA (w : World) (fo bo io oo : Option Addr) (fn fc bn bc n ic on oc : Nat) (st tr : Int) : (w.alloc (.cells #[.slice fo fn fc, .slice bo bn bc, .slice io n ic, .slice oo on oc, .int .i64 st, .int .i64 tr] 29)).rowIs w.heap.size 29 6 (mfld (.slice fo fn fc) (.slice bo bn bc) (.slice io n ic) (.slice oo on oc) st tr) :=
  World.rowIs_alloc w #[.slice fo fn fc, .slice bo bn bc, .slice io n ic, .slice oo on oc, .int .i64 st, .int .i64 tr] 29 _ (fun i hi => by
    have : i = 0 ∨ i = 1 ∨ i = 2 ∨ i = 3 ∨ i = 4 ∨ i = 5 := by simp at hi; omega
    rcases this with rfl | rfl | rfl | rfl | rfl | rfl <;> rfl)
/-- two machines, boxed one behind the other -/
structure TwoM (w : World) (N : Nat) (fo bo io oo fo' bo' io' oo' : Option Addr) (fc bc ic oc fc' bc' ic' oc' : Nat) (a b : Mz.Mach) : Prop where
  r1 : w.rowIs N 29 6 (mfld (.slice fo a.frames.length fc) (.slice bo a.blocks.length bc) (.slice io a.inp.length ic) (.slice oo a.out.length oc) a.status a.trap)
  r2 : w.rowIs (N + 1) 29 6 (mfld (.slice fo' b.frames.length fc') (.slice bo' b.blocks.length bc') (.slice io' b.inp.length ic') (.slice oo' b.out.length oc') b.status b.trap)
theorem TwoM.frame {w w' : World} {N : Nat} {fo bo io oo fo' bo' io' oo' : Option Addr} {fc bc ic oc fc' bc' ic' oc' : Nat} {a b : Mz.Mach} (h : TwoM w N fo bo io oo fo' bo' io' oo' fc bc ic oc fc' bc' ic' oc' a b) {B : Nat} (hb : Below B w w') (hB : N + 2 ≤ B) :
    TwoM w' N fo bo io oo fo' bo' io' oo' fc bc ic oc fc' bc' ic' oc' a b := ⟨h.r1.of_block (hb.block _ (by omega)), h.r2.of_block (hb.block _ (by omega))⟩
theorem TwoM.made (w : World) (fo bo io oo fo' bo' io' oo' : Option Addr) (fc bc ic oc fc' bc' ic' oc' : Nat) (a b : Mz.Mach) :
    TwoM ((w.alloc (.cells #[.slice fo a.frames.length fc, .slice bo a.blocks.length bc, .slice io a.inp.length ic, .slice oo a.out.length oc, .int .i64 a.status, .int .i64 a.trap] 29)).alloc (.cells #[.slice fo' b.frames.length fc', .slice bo' b.blocks.length bc', .slice io' b.inp.length ic', .slice oo' b.out.length oc', .int .i64 b.status, .int .i64 b.trap] 29))
      w.heap.size fo bo io oo fo' bo' io' oo' fc bc ic oc fc' bc' ic' oc' a b := by
  have h1 := row_machA w fo bo io oo a.frames.length fc a.blocks.length bc a.inp.length ic a.out.length oc a.status a.trap
  have hs : (w.alloc (.cells #[.slice fo a.frames.length fc, .slice bo a.blocks.length bc, .slice io a.inp.length ic, .slice oo a.out.length oc, .int .i64 a.status, .int .i64 a.trap] 29)).heap.size = w.heap.size + 1 := by simp
  have h2 := row_machA (w.alloc (.cells #[.slice fo a.frames.length fc, .slice bo a.blocks.length bc, .slice io a.inp.length ic, .slice oo a.out.length oc, .int .i64 a.status, .int .i64 a.trap] 29)) fo' bo' io' oo' b.frames.length fc' b.blocks.length bc' b.inp.length ic' b.out.length oc' b.status b.trap
  rw [hs] at h2
  exact ⟨h1.of_block (((Below.refl _ _).alloc (Nat.le_refl _) _).block _ h1.lt), h2⟩
theorem mach_eq {a b : Mz.Mach} : a = b ↔ a.frames = b.frames ∧ a.blocks = b.blocks ∧ a.inp = b.inp ∧ a.out = b.out ∧ a.status = b.status ∧ a.trap = b.trap := by cases a; cases b; simp
theorem frm_eq {a b : Mz.Frm} : a = b ↔ a.fn = b.fn ∧ a.pc = b.pc ∧ a.locals = b.locals ∧ a.stack = b.stack := by cases a; cases b; simp

/-- two frames, boxed -/
structure TwoF (w : World) (X Y : Nat) (lo so lo' so' : Option Addr) (lc sc lc' sc' : Nat) (x y : Mz.Frm) : Prop where
  r1 : w.rowIs X 97 4 (ffld x.fn x.pc (.slice lo x.locals.length lc) (.slice so x.stack.length sc))
  r2 : w.rowIs Y 97 4 (ffld y.fn y.pc (.slice lo' y.locals.length lc') (.slice so' y.stack.length sc'))
theorem TwoF.frame {w w' : World} {X Y : Nat} {lo so lo' so' : Option Addr} {lc sc lc' sc' : Nat} {x y : Mz.Frm} (h : TwoF w X Y lo so lo' so' lc sc lc' sc' x y) (hb : Below w.heap.size w w') : TwoF w' X Y lo so lo' so' lc sc lc' sc' x y :=
  ⟨h.r1.of_block (hb.block _ h.r1.lt), h.r2.of_block (hb.block _ h.r2.lt)⟩
theorem TwoF.made (w : World) (lo so lo' so' : Option Addr) (lc sc lc' sc' : Nat) (x y : Mz.Frm) :
    TwoF ((w.alloc (.cells #[.int .i64 x.fn, .int .i64 x.pc, .slice lo x.locals.length lc, .slice so x.stack.length sc] 97)).alloc (.cells #[.int .i64 y.fn, .int .i64 y.pc, .slice lo' y.locals.length lc', .slice so' y.stack.length sc'] 97)).drew w.heap.size (w.heap.size + 1) lo so lo' so' lc sc lc' sc' x y ∧
    Below w.heap.size w ((w.alloc (.cells #[.int .i64 x.fn, .int .i64 x.pc, .slice lo x.locals.length lc, .slice so x.stack.length sc] 97)).alloc (.cells #[.int .i64 y.fn, .int .i64 y.pc, .slice lo' y.locals.length lc', .slice so' y.stack.length sc'] 97)).drew := by
  have h1 := row_ffld w x.fn x.pc lo so x.locals.length lc x.stack.length sc
  have hs : (w.alloc (.cells #[.int .i64 x.fn, .int .i64 x.pc, .slice lo x.locals.length lc, .slice so x.stack.length sc] 97)).heap.size = w.heap.size + 1 := by simp
  have h2 := row_ffld (w.alloc (.cells #[.int .i64 x.fn, .int .i64 x.pc, .slice lo x.locals.length lc, .slice so x.stack.length sc] 97)) y.fn y.pc lo' so' y.locals.length lc' y.stack.length sc'
  rw [hs] at h2
  exact ⟨⟨h1.of_block (((Below.refl _ _).alloc (Nat.le_refl _) _).block _ h1.lt), h2⟩, (((Below.refl _ _).alloc (Nat.le_refl _) _).alloc (by simp) _).drew⟩

set_option maxHeartbeats 4000000 in
set_option maxRecDepth 100000 in
theorem sameMach_any (u v : Value) (a b : Mz.Mach) (B : Nat) (w : World) (ha : RMach w B u a) (hb : RMach w B v b) (hB : B ≤ w.heap.size) :
    Calls Tryz.prog 53 #[u, v] w fun e w' => e = .returned (.bool (decide (a = b))) ∧ Below w.heap.size w w' := by
  obtain ⟨fv, bv, iv, ov, rfl, af, ab, ai, ao⟩ := ha
  obtain ⟨fv', bv', iv', ov', rfl, bf, bb, bi, bo⟩ := hb
  obtain ⟨fo, fc, rfl, f1, f2, f3⟩ := af.open
  obtain ⟨bo1, bc, rfl, _, _, _⟩ := ab.open
  obtain ⟨io, ic, rfl, _, _, _⟩ := ai.open
  obtain ⟨oo, oc, rfl, _, _, _⟩ := ao.open
  obtain ⟨fo', fc', rfl, f1', f2', f3'⟩ := bf.open
  obtain ⟨bo', bc', rfl, _, _, _⟩ := bb.open
  obtain ⟨io', ic', rfl, _, _, _⟩ := bi.open
  obtain ⟨oo', oc', rfl, _, _, _⟩ := bo.open
  unfold maxLen at f2 f2'
  have AF := Lib.hid af
  have AB := Lib.hid ab
  have AI := Lib.hid ai
  have AO := Lib.hid ao
  have BF := Lib.hid bf
  have BB := Lib.hid bb
  have BI := Lib.hid bi
  have BO := Lib.hid bo
  have HT := Lib.hid (TwoM.made w fo bo1 io oo fo' bo' io' oo' fc bc ic oc fc' bc' ic' oc' a b)
  have HB0 : Hid (Below w.heap.size w ((w.alloc (.cells #[.slice fo a.frames.length fc, .slice bo1 a.blocks.length bc, .slice io a.inp.length ic, .slice oo a.out.length oc, .int .i64 a.status, .int .i64 a.trap] 29)).alloc (.cells #[.slice fo' b.frames.length fc', .slice bo' b.blocks.length bc', .slice io' b.inp.length ic', .slice oo' b.out.length oc', .int .i64 b.status, .int .i64 b.trap] 29))) :=
    ((Below.refl _ _).alloc (Nat.le_refl _) _).alloc (by simp) _
  clear af ab ai ao bf bb bi bo
  by_cases h1 : a.status = b.status
  case neg =>
    have d1 : (a.status != b.status) = true := by simpa using h1
    have hne : Hid (a ≠ b) := fun e => h1 (by rw [e])
    clear h1
    go_enter Tryz.func53, Tryz.ntmps53
    go_wp2_with fail
    go_ret
    exact ⟨ret_bool (by simp [hne.out]), HB0.out⟩
  have d1 : (a.status != b.status) = false := by simpa using h1
  by_cases h2 : a.trap = b.trap
  case neg =>
    have d2 : (a.trap != b.trap) = true := by simpa using h2
    have hne : Hid (a ≠ b) := fun e => h2 (by rw [e])
    clear h1 h2
    go_enter Tryz.func53, Tryz.ntmps53
    go_wp2_with fail
    go_ret
    exact ⟨ret_bool (by simp [hne.out]), HB0.out⟩
  have d2 : (a.trap != b.trap) = false := by simpa using h2
  have H1 := Lib.hid h1
  have H2 := Lib.hid h2
  clear h1 h2
  go_enter Tryz.func53, Tryz.ntmps53
  go_wp2_with fail
  obtain ⟨W0, hW0⟩ : ∃ W0, W0 = ((w.alloc (.cells #[.slice fo a.frames.length fc, .slice bo1 a.blocks.length bc, .slice io a.inp.length ic, .slice oo a.out.length oc, .int .i64 a.status, .int .i64 a.trap] 29)).alloc (.cells #[.slice fo' b.frames.length fc', .slice bo' b.blocks.length bc', .slice io' b.inp.length ic', .slice oo' b.out.length oc', .int .i64 b.status, .int .i64 b.trap] 29)) := ⟨_, rfl⟩
  rw [← hW0] at HT HB0 ⊢
  have hs0 : w.heap.size + 2 ≤ W0.heap.size := HT.out.r2.lt
  clear hW0
  obtain ⟨N, hN⟩ : ∃ N, N = w.heap.size := ⟨_, rfl⟩
  have HN := Lib.hid hN
  rw [← hN] at hs0 HT ⊢
  clear hN
  refine (sameBlocks_any _ _ _ _ B W0 (AB.out.frame (HB0.out.mono hB)) (BB.out.frame (HB0.out.mono hB)) (Nat.le_trans hB HB0.out.size)).mono ?_
  rintro e w1 ⟨rfl, n1, hw1⟩
  have hb1 : Below W0.heap.size W0 w1 := by rw [hw1]; exact below_drewN _ _ _
  have HT1 := Lib.hid (HT.out.frame hb1 hs0)
  have HB1 := Lib.hid (HB0.out.trans (hb1.mono HB0.out.size))
  have hs1 : N + 2 ≤ w1.heap.size := Nat.le_trans hs0 hb1.size
  clear hw1 hb1
  have p2 := HT1.out.r1.cell (i := 2) (by decide)
  have p3 := HT1.out.r1.cell (i := 3) (by decide)
  have p0 := HT1.out.r1.cell (i := 0) (by decide)
  have q2 := HT1.out.r2.cell (i := 2) (by decide)
  have q3 := HT1.out.r2.cell (i := 3) (by decide)
  have q0 := HT1.out.r2.cell (i := 0) (by decide)
  dsimp only [mfld] at p0 p2 p3 q0 q2 q3
  by_cases h3 : a.blocks = b.blocks
  case neg =>
    have d3 : decide (a.blocks = b.blocks) = false := by simpa using h3
    have hne : Hid (a ≠ b) := fun e => h3 (by rw [e])
    clear h3
    go_wp2_with fail
    go_ret
    exact ⟨ret_bool (by simp [hne.out]), HB1.out⟩
  have d3 : decide (a.blocks = b.blocks) = true := by simpa using h3
  have H3 := Lib.hid h3
  clear h3
  go_wp2_with fail
  refine (sameInts_any _ _ _ _ B w1 (AI.out.frame (HB1.out.mono hB)) (BI.out.frame (HB1.out.mono hB)) (Nat.le_trans hB HB1.out.size)).mono ?_
  rintro e w2 ⟨rfl, n2, hw2⟩
  have hb2 : Below w1.heap.size w1 w2 := by rw [hw2]; exact below_drewN _ _ _
  have HT2 := Lib.hid (HT1.out.frame hb2 hs1)
  have HB2 := Lib.hid (HB1.out.trans (hb2.mono HB1.out.size))
  have hs2 : N + 2 ≤ w2.heap.size := Nat.le_trans hs1 hb2.size
  clear hw2 hb2 p0 p2 p3 q0 q2 q3
  have p3 := HT2.out.r1.cell (i := 3) (by decide)
  have p0 := HT2.out.r1.cell (i := 0) (by decide)
  have q3 := HT2.out.r2.cell (i := 3) (by decide)
  have q0 := HT2.out.r2.cell (i := 0) (by decide)
  dsimp only [mfld] at p0 p3 q0 q3
  by_cases h4 : a.inp = b.inp
  case neg =>
    have d4 : decide (a.inp = b.inp) = false := by simpa using h4
    have hne : Hid (a ≠ b) := fun e => h4 (by rw [e])
    clear h4
    go_wp2_with fail
    go_ret
    exact ⟨ret_bool (by simp [hne.out]), HB2.out⟩
  have d4 : decide (a.inp = b.inp) = true := by simpa using h4
  have H4 := Lib.hid h4
  clear h4
  go_wp2_with fail
  refine (sameInts_any _ _ _ _ B w2 (AO.out.frame (HB2.out.mono hB)) (BO.out.frame (HB2.out.mono hB)) (Nat.le_trans hB HB2.out.size)).mono ?_
  rintro e w3 ⟨rfl, n3, hw3⟩
  have hb3 : Below w2.heap.size w2 w3 := by rw [hw3]; exact below_drewN _ _ _
  have HT3 := Lib.hid (HT2.out.frame hb3 hs2)
  have HB3 := Lib.hid (HB2.out.trans (hb3.mono HB2.out.size))
  have hs3 : N + 2 ≤ w3.heap.size := Nat.le_trans hs2 hb3.size
  clear hw3 hb3 p0 p3 q0 q3
  have p0 := HT3.out.r1.cell (i := 0) (by decide)
  have q0 := HT3.out.r2.cell (i := 0) (by decide)
  dsimp only [mfld] at p0 q0
  by_cases h5 : a.out = b.out
  case neg =>
    have d5 : decide (a.out = b.out) = false := by simpa using h5
    have hne : Hid (a ≠ b) := fun e => h5 (by rw [e])
    clear h5
    go_wp2_with fail
    go_ret
    exact ⟨ret_bool (by simp [hne.out]), HB3.out⟩
  have d5 : decide (a.out = b.out) = true := by simpa using h5
  have H5 := Lib.hid h5
  clear h5
  by_cases h6 : a.frames.length = b.frames.length
  case neg =>
    have d6 : ((a.frames.length : Int) != (b.frames.length : Int)) = true := by rw [bne_iff_ne]; omega
    have hne : Hid (a ≠ b) := fun e => h6 (by rw [e])
    clear h6
    go_wp2_with fail
    go_ret
    exact ⟨ret_bool (by simp [hne.out]), HB3.out⟩
  have d6 : ((a.frames.length : Int) != (b.frames.length : Int)) = false := by simp [h6]
  have H6 := Lib.hid h6
  clear h6
  go_wp2_with fail
  go_loopw [5] (fun i wr => ∃ k : Nat, k ≤ a.frames.length ∧ i = .int .i64 k ∧ Hid (SameToG a.frames b.frames k) ∧ Hid (TwoM wr N fo bo1 io oo fo' bo' io' oo' fc bc ic oc fc' bc' ic' oc' a b) ∧ Hid (Below w.heap.size w wr) ∧ N + 2 ≤ wr.heap.size) (fun i _ => a.frames.length - (intOf i).toNat)
  case atStart => exact ⟨0, Nat.zero_le _, rfl, fun i hi => by omega, HT3, HB3, hs3⟩
  case round =>
    obtain ⟨k, hk, rfl, HALL, HTr, HBr, hsr⟩ := hrel
    have p0 := HTr.out.r1.cell (i := 0) (by decide)
    have q0 := HTr.out.r2.cell (i := 0) (by decide)
    dsimp only [mfld] at p0 q0
    have hNr : N < wr.heap.size := by omega
    have hNr' : N + 1 < wr.heap.size := by omega
    by_cases hlt : k < a.frames.length
    · have hlt2 : k < b.frames.length := by have := H6.out; omega
      obtain ⟨fb, fx, lv, sv, rfl, fB, t0, t1, t2, t3, rl, rs⟩ := (AF.out.frame (HBr.out.mono hB)).at hlt
      obtain ⟨gb, gx, lv', sv', rfl, gB, s0, s1, s2, s3, rl', rs'⟩ := (BF.out.frame (HBr.out.mono hB)).at hlt2
      obtain ⟨lo, lc, rfl, _, _, _⟩ := rl.open
      obtain ⟨so, sc, rfl, _, _, _⟩ := rs.open
      obtain ⟨lo', lc', rfl, _, _, _⟩ := rl'.open
      obtain ⟨so', sc', rfl, _, _, _⟩ := rs'.open
      have hBr : B ≤ wr.heap.size := Nat.le_trans hB HBr.out.size
      have hfb : fb < wr.heap.size := by omega
      have hgb : gb < wr.heap.size := by omega
      have RL := Lib.hid rl
      have RS := Lib.hid rs
      have RL' := Lib.hid rl'
      have RS' := Lib.hid rs'
      have HB2 := Lib.hid hBr
      clear rl rs rl' rs' hBr fB gB
      go_wp2_with fail
      go_region_held3 (fun w' => w'.cell? ⟨N, 0, none⟩ = some (.slice (some ⟨fb, fx, none⟩) a.frames.length fc) ∧ w'.cell? ⟨N + 1, 0, none⟩ = some (.slice (some ⟨gb, gx, none⟩) b.frames.length fc') ∧ w'.cell? ⟨fb, fx + k * 4, none⟩ = some (.int .i64 (nth a.frames k).fn) ∧ w'.cell? ⟨fb, fx + k * 4 + 1, none⟩ = some (.int .i64 (nth a.frames k).pc) ∧ w'.cell? ⟨fb, fx + k * 4 + 2, none⟩ = some (.slice lo (nth a.frames k).locals.length lc) ∧ w'.cell? ⟨fb, fx + k * 4 + 3, none⟩ = some (.slice so (nth a.frames k).stack.length sc) ∧
        w'.cell? ⟨gb, gx + k * 4, none⟩ = some (.int .i64 (nth b.frames k).fn) ∧ w'.cell? ⟨gb, gx + k * 4 + 1, none⟩ = some (.int .i64 (nth b.frames k).pc) ∧ w'.cell? ⟨gb, gx + k * 4 + 2, none⟩ = some (.slice lo' (nth b.frames k).locals.length lc') ∧ w'.cell? ⟨gb, gx + k * 4 + 3, none⟩ = some (.slice so' (nth b.frames k).stack.length sc')) (go_keep) (fail)
      all_goals first
        | (obtain ⟨wz, hwz⟩ : ∃ wz, wz = ((wr.alloc (.cells #[.int .i64 (nth a.frames k).fn, .int .i64 (nth a.frames k).pc, .slice lo (nth a.frames k).locals.length lc, .slice so (nth a.frames k).stack.length sc] 97)).alloc (.cells #[.int .i64 (nth b.frames k).fn, .int .i64 (nth b.frames k).pc, .slice lo' (nth b.frames k).locals.length lc', .slice so' (nth b.frames k).stack.length sc'] 97)).drew := ⟨_, rfl⟩
           rw [← hwz]
           obtain ⟨X, hX⟩ : ∃ X, X = wr.heap.size := ⟨_, rfl⟩
           obtain ⟨Y, hY⟩ : ∃ Y, Y = wr.heap.size + 1 := ⟨_, rfl⟩
           have HXY := TwoF.made wr lo so lo' so' lc sc lc' sc' (nth a.frames k) (nth b.frames k)
           rw [← hwz, ← hY, ← hX] at HXY
           rw [← hY, ← hX]
           have HF := Lib.hid HXY.1
           have hbz := HXY.2
           rw [hX] at hbz
           clear HXY hwz hX hY)
        | (obtain ⟨wz, hwz⟩ : ∃ wz, wz = ((wr.alloc (.cells #[.int .i64 (nth b.frames k).fn, .int .i64 (nth b.frames k).pc, .slice lo' (nth b.frames k).locals.length lc', .slice so' (nth b.frames k).stack.length sc'] 97)).alloc (.cells #[.int .i64 (nth a.frames k).fn, .int .i64 (nth a.frames k).pc, .slice lo (nth a.frames k).locals.length lc, .slice so (nth a.frames k).stack.length sc] 97)).drew := ⟨_, rfl⟩
           rw [← hwz]
           obtain ⟨Y, hY⟩ : ∃ Y, Y = wr.heap.size := ⟨_, rfl⟩
           obtain ⟨X, hX⟩ : ∃ X, X = wr.heap.size + 1 := ⟨_, rfl⟩
           have HXY := TwoF.made wr lo' so' lo so lc' sc' lc sc (nth b.frames k) (nth a.frames k)
           rw [← hwz, ← hX, ← hY] at HXY
           rw [← hX, ← hY]
           have HF : Hid (TwoF wz X Y lo so lo' so' lc sc lc' sc' (nth a.frames k) (nth b.frames k)) := ⟨HXY.1.r2, HXY.1.r1⟩
           have hbz := HXY.2
           rw [hY] at hbz
           clear HXY hwz hX hY)
      all_goals
        have HTz := Lib.hid (HTr.out.frame hbz hsr)
        have HBz := Lib.hid (HBr.out.trans (hbz.mono HBr.out.size))
        have hsz : N + 2 ≤ wz.heap.size := Nat.le_trans hsr hbz.size
        have hBz : B ≤ wz.heap.size := Nat.le_trans HB2.out hbz.size
        have RLz := Lib.hid (RL.out.frame (hbz.mono HB2.out))
        have RSz := Lib.hid (RS.out.frame (hbz.mono HB2.out))
        have RLz' := Lib.hid (RL'.out.frame (hbz.mono HB2.out))
        have RSz' := Lib.hid (RS'.out.frame (hbz.mono HB2.out))
        clear hbz t0 t1 t2 t3 s0 s1 s2 s3 p0 q0 hNr hNr' hfb hgb
        have x0 := HF.out.r1.cell (i := 0) (by decide)
        have x1 := HF.out.r1.cell (i := 1) (by decide)
        have x2 := HF.out.r1.cell (i := 2) (by decide)
        have y0 := HF.out.r2.cell (i := 0) (by decide)
        have y1 := HF.out.r2.cell (i := 1) (by decide)
        have y2 := HF.out.r2.cell (i := 2) (by decide)
        have lX := HF.out.r1.lt
        have lY := HF.out.r2.lt
        dsimp only [ffld] at x0 x1 x2 y0 y1 y2
        by_cases g1 : (nth a.frames k).fn = (nth b.frames k).fn
        case neg =>
          have d : ((nth a.frames k).fn != (nth b.frames k).fn) = true := by simpa using g1
          have hne : Hid (a ≠ b) := fun e => g1 (by rw [e])
          clear g1
          go_wp2_with fail
          go_ret
          exact ⟨ret_bool (by simp [hne.out]), HBz.out⟩
        have e1 : ((nth a.frames k).fn != (nth b.frames k).fn) = false := by simpa using g1
        have G1 := Lib.hid g1
        clear g1
        by_cases g2 : (nth a.frames k).pc = (nth b.frames k).pc
        case neg =>
          have d : ((nth a.frames k).pc != (nth b.frames k).pc) = true := by simpa using g2
          have hne : Hid (a ≠ b) := fun e => g2 (by rw [e])
          clear g2
          go_wp2_with fail
          go_ret
          exact ⟨ret_bool (by simp [hne.out]), HBz.out⟩
        have e2 : ((nth a.frames k).pc != (nth b.frames k).pc) = false := by simpa using g2
        have G2 := Lib.hid g2
        clear g2
        go_wp2_with fail
        refine (sameValues_any _ _ _ _ B wz RLz.out RLz'.out hBz).mono ?_
        rintro e w5 ⟨rfl, m1, hw5⟩
        have hb5 : Below wz.heap.size wz w5 := by rw [hw5]; exact below_drewN _ _ _
        have HF5 := Lib.hid (HF.out.frame hb5)
        have HT5 := Lib.hid (HTz.out.frame hb5 hsz)
        have HB5 := Lib.hid (HBz.out.trans (hb5.mono HBz.out.size))
        have hs5 : N + 2 ≤ w5.heap.size := Nat.le_trans hsz hb5.size
        have hB5 : B ≤ w5.heap.size := Nat.le_trans hBz hb5.size
        have RS5 := Lib.hid (RSz.out.frame (hb5.mono hBz))
        have RS5' := Lib.hid (RSz'.out.frame (hb5.mono hBz))
        clear hw5 hb5 x0 x1 x2 y0 y1 y2 lX lY
        have x3 := HF5.out.r1.cell (i := 3) (by decide)
        have y3 := HF5.out.r2.cell (i := 3) (by decide)
        have lX := HF5.out.r1.lt
        have lY := HF5.out.r2.lt
        dsimp only [ffld] at x3 y3
        by_cases g3 : (nth a.frames k).locals = (nth b.frames k).locals
        case neg =>
          have d : decide ((nth a.frames k).locals = (nth b.frames k).locals) = false := by simpa using g3
          have hne : Hid (a ≠ b) := fun e => g3 (by rw [e])
          clear g3
          go_wp2_with fail
          go_ret
          exact ⟨ret_bool (by simp [hne.out]), HB5.out⟩
        have e3 : decide ((nth a.frames k).locals = (nth b.frames k).locals) = true := by simpa using g3
        have G3 := Lib.hid g3
        clear g3
        go_wp2_with fail
        refine (sameValues_any _ _ _ _ B w5 RS5.out RS5'.out hB5).mono ?_
        rintro e w6 ⟨rfl, m2, hw6⟩
        have hb6 : Below w5.heap.size w5 w6 := by rw [hw6]; exact below_drewN _ _ _
        have HT6 := Lib.hid (HT5.out.frame hb6 hs5)
        have HB6 := Lib.hid (HB5.out.trans (hb6.mono HB5.out.size))
        have hs6 : N + 2 ≤ w6.heap.size := Nat.le_trans hs5 hb6.size
        clear hw6 hb6 x3 y3 lX lY
        by_cases g4 : (nth a.frames k).stack = (nth b.frames k).stack
        case neg =>
          have d : decide ((nth a.frames k).stack = (nth b.frames k).stack) = false := by simpa using g4
          have hne : Hid (a ≠ b) := fun e => g4 (by rw [e])
          clear g4
          go_wp2_with fail
          go_ret
          exact ⟨ret_bool (by simp [hne.out]), HB6.out⟩
        have e4 : decide ((nth a.frames k).stack = (nth b.frames k).stack) = true := by simpa using g4
        have G4 : Hid (nth a.frames k = nth b.frames k) := frm_eq.2 ⟨G1.out, G2.out, G3.out, g4⟩
        clear g4
        go_wp2_with fail
        go_roundw
        case rel => exact ⟨k + 1, by omega, by go_num, HALL.out.succ G4.out, HT6, HB6, hs6⟩
        case measure => simp [intOf]; omega
    · have hab : Hid (a = b) := mach_eq.2 ⟨same_of_toG H6.out (fun i hi => HALL.out i (by omega)), H3.out, H4.out, H5.out, H1.out, H2.out⟩
      go_wp2_with fail
      go_ret
      exact ⟨ret_bool (by simp [hab.out]), HBr.out⟩
end Go.Proofs.YthdomhejkbpabaaGreat

/- Six cells laid into a machine's box. -/
namespace Go.Proofs.YthdomhejkbpabaaGreat
open Go.RowKit

/-- a machine laid into a box, cell by cell -/
theorem set_six {w : World} {R : Nat} {f : Nat → Value} (h : w.rowIs R 29 6 f) (v0 v1 v2 v3 v4 v5 : Value) :
    Only R w ((((((w.setCell ⟨R, 0, none⟩ v0).setCell ⟨R, 1, none⟩ v1).setCell ⟨R, 2, none⟩ v2).setCell ⟨R, 3, none⟩ v3).setCell ⟨R, 4, none⟩ v4).setCell ⟨R, 5, none⟩ v5) ∧
    (w.setCell ⟨R, 0, none⟩ v0).cell? ⟨R, 0, none⟩ = some v0 ∧
    ((w.setCell ⟨R, 0, none⟩ v0).setCell ⟨R, 1, none⟩ v1).cell? ⟨R, 1, none⟩ = some v1 ∧
    (((w.setCell ⟨R, 0, none⟩ v0).setCell ⟨R, 1, none⟩ v1).setCell ⟨R, 2, none⟩ v2).cell? ⟨R, 2, none⟩ = some v2 ∧
    ((((w.setCell ⟨R, 0, none⟩ v0).setCell ⟨R, 1, none⟩ v1).setCell ⟨R, 2, none⟩ v2).setCell ⟨R, 3, none⟩ v3).cell? ⟨R, 3, none⟩ = some v3 ∧
    (((((w.setCell ⟨R, 0, none⟩ v0).setCell ⟨R, 1, none⟩ v1).setCell ⟨R, 2, none⟩ v2).setCell ⟨R, 3, none⟩ v3).setCell ⟨R, 4, none⟩ v4).cell? ⟨R, 4, none⟩ = some v4 ∧
    ((((((w.setCell ⟨R, 0, none⟩ v0).setCell ⟨R, 1, none⟩ v1).setCell ⟨R, 2, none⟩ v2).setCell ⟨R, 3, none⟩ v3).setCell ⟨R, 4, none⟩ v4).setCell ⟨R, 5, none⟩ v5).cell? ⟨R, 5, none⟩ = some v5 := by
  have q0 := h.set 0 v0
  have q1 := q0.set 1 v1
  have q2 := q1.set 2 v2
  have q3 := q2.set 3 v3
  have q4 := q3.set 4 v4
  have q5 := q4.set 5 v5
  have d0 := q0.cell (i := 0) (by decide)
  have d1 := q1.cell (i := 1) (by decide)
  have d2 := q2.cell (i := 2) (by decide)
  have d3 := q3.cell (i := 3) (by decide)
  have d4 := q4.cell (i := 4) (by decide)
  have d5 := q5.cell (i := 5) (by decide)
  rw [if_pos rfl] at d0 d1 d2 d3 d4 d5
  exact ⟨((((((Only.refl R w).setCell 0 _).setCell 1 _).setCell 2 _).setCell 3 _).setCell 4 _).setCell 5 _, d0, d1, d2, d3, d4, d5⟩
theorem row_six {w : World} {R : Nat} {f : Nat → Value} (h : w.rowIs R 29 6 f) (v0 v1 v2 v3 : Value) (st tr : Int) :
    ((((((w.setCell ⟨R, 0, none⟩ v0).setCell ⟨R, 1, none⟩ v1).setCell ⟨R, 2, none⟩ v2).setCell ⟨R, 3, none⟩ v3).setCell ⟨R, 4, none⟩ (.int .i64 st)).setCell ⟨R, 5, none⟩ (.int .i64 tr)).rowIs R 29 6 (mfld v0 v1 v2 v3 st tr) :=
  ((((((h.set 0 v0).set 1 v1).set 2 v2).set 3 v3).set 4 (.int .i64 st)).set 5 (.int .i64 tr)).congr (fun j hj => by
    match j, hj with
    | 0, _ => rfl | 1, _ => rfl | 2, _ => rfl | 3, _ => rfl | 4, _ => rfl | 5, _ => rfl)
end Go.Proofs.YthdomhejkbpabaaGreat

/- image.told: reading with recover. -/
namespace Go.Proofs.YthdomhejkbpabaaGreat
open Go.RowKit

theorem mkMach.bes {lo : Nat} {m : Mz.Mach} {v : Value} {w w' : World} (h : mkMach lo m v w) {T : TypeId} (hb : Bes T w w') (hT : 97 ≠ T ∧ 27 ≠ T ∧ 3 ≠ T ∧ 103 ≠ T) : mkMach lo m v w' := by
  obtain ⟨fps, bps, fv, bv, iv, ov, e1, e2, e3, h3, h4, h5, h6, h7, h8⟩ := h
  obtain ⟨t2, t3, t4, t5⟩ := hT
  exact ⟨fps, bps, fv, bv, iv, ov, e1, e2, e3, hb.owns h3 t2, hb.owns h4 t3, hb.owns h5 t4, hb.owns h6 t4, fun x hx => ⟨hb.owns (h7 x hx).1 t5, hb.owns (h7 x hx).2 t5⟩, fun x hx => hb.owns (h8 x hx) t4⟩
theorem mkMach.mono {lo lo' : Nat} {m : Mz.Mach} {v : Value} {w : World} (h : mkMach lo m v w) (hl : lo' ≤ lo) : mkMach lo' m v w := by
  obtain ⟨fps, bps, fv, bv, iv, ov, e1, e2, e3, h3, h4, h5, h6, h7, h8⟩ := h
  exact ⟨fps, bps, fv, bv, iv, ov, e1, e2, e3, owns_base h3 hl, owns_base h4 hl, owns_base h5 hl, owns_base h6 hl, fun x hx => ⟨owns_base (h7 x hx).1 hl, owns_base (h7 x hx).2 hl⟩, fun x hx => owns_base (h8 x hx) hl⟩
/-- the world behind the deferred literal that has recovered -/
def toldW (w : World) (R O : Nat) : World :=
  (((((((w.setCell ⟨R, 0, none⟩ (.slice none 0 0)).setCell ⟨R, 1, none⟩ (.slice none 0 0)).setCell ⟨R, 2, none⟩ (.slice none 0 0)).setCell ⟨R, 3, none⟩ (.slice none 0 0)).setCell ⟨R, 4, none⟩ (.int .i64 0)).setCell ⟨R, 5, none⟩ (.int .i64 0)).setCell ⟨O, 0, none⟩ (.bool false)).alloc (.cells #[] 139)

theorem assert_short (xT : TypeId) (v : Value) (w : World) : (Instr.typeAssert (.iface 139 v) xT 139 true).run Tryz.prog w = .ok (.tuple #[v, .bool true]) w := by kernel_rfl
set_option maxHeartbeats 1000000 in
set_option maxRecDepth 100000 in
theorem told1_panicking (R O : Nat) (older : List PanicEntry) (w : World) (hR : w.rowIs R 29 6 (mfld (.slice none 0 0) (.slice none 0 0) (.slice none 0 0) (.slice none 0 0) 0 0)) (hO : w.rowIs O 4 1 (fun _ => .bool false)) :
    CallsD Tryz.prog 104 #[.pointer (some ⟨R, 0, none⟩), .pointer (some ⟨O, 0, none⟩)] (.panicking ({ v := .iface 139 (.agg #[]), recovered := false } :: older)) w fun e u' w' =>
      e = .returned (.tuple #[]) ∧ u' = .panicking ({ v := .iface 139 (.agg #[]), recovered := true } :: older) ∧ w' = toldW w R O := by
  have r0 : w.cell? ⟨R, 0, none⟩ = some (.slice none 0 0) := hR.cell (i := 0) (by decide)
  have r1 : w.cell? ⟨R, 1, none⟩ = some (.slice none 0 0) := hR.cell (i := 1) (by decide)
  have r2 : w.cell? ⟨R, 2, none⟩ = some (.slice none 0 0) := hR.cell (i := 2) (by decide)
  have r3 : w.cell? ⟨R, 3, none⟩ = some (.slice none 0 0) := hR.cell (i := 3) (by decide)
  have r4 : w.cell? ⟨R, 4, none⟩ = some (.int .i64 0) := hR.cell (i := 4) (by decide)
  have r5 : w.cell? ⟨R, 5, none⟩ = some (.int .i64 0) := hR.cell (i := 5) (by decide)
  have z0 := hR.frozen 0
  have z1 := hR.frozen 1
  have z2 := hR.frozen 2
  have z3 := hR.frozen 3
  have z4 := hR.frozen 4
  have z5 := hR.frozen 5
  have o0 : w.cell? ⟨O, 0, none⟩ = some (.bool false) := hO.cell (i := 0) (by decide)
  have zo := hO.frozen 0
  have hRO : R ≠ O := row_ne hR hO (by decide)
  have hOR : O ≠ R := fun e => hRO e.symm
  have hRl := hR.lt
  have hOl := hO.lt
  clear hR hO
  refine callsD_of_wpS Tryz.func104 rfl fun c₀ cs hu => ?_
  apply wpS_seq
  apply wpS_region
  simp [wpOpsS, go_sem, recoverD, hu, Tryz.ntmps104, Exit.thenS]
  refine wpS_of_wp ?_
  simp only [Array.replicate_succ, Array.replicate_zero, List.push_toArray, List.append_toArray, List.nil_append, List.cons_append, List.setIfInBounds_toArray, List.set_cons_succ, List.set_cons_zero]
  have hta := assert_short
  go_wp2_with fail
  simp [bodyPostS, results, Tryz.results104, toldW]

theorem told_begin (w : World) (s : List UInt8) (ba : ByteArray) (hba : Str s = .string ba) (A : World) (hA : (((w.alloc (.cells #[.slice none 0 0, .slice none 0 0, .slice none 0 0, .slice none 0 0, .int .i64 0, .int .i64 0] 29)).alloc (.cells #[.bool false] 4)).alloc (.cells #[.string ba] 143)) = A) :
    A.rowIs w.heap.size 29 6 (mfld (.slice none 0 0) (.slice none 0 0) (.slice none 0 0) (.slice none 0 0) 0 0) ∧ A.rowIs (w.heap.size + 1) 4 1 (fun _ => .bool false) ∧ Rdr A (w.heap.size + 2) s ∧ Below w.heap.size w A ∧ A.heap.size = w.heap.size + 3 := by
  subst hA
  have r0 := row_mach w 0
  have s1 : (w.alloc (.cells #[.slice none 0 0, .slice none 0 0, .slice none 0 0, .slice none 0 0, .int .i64 0, .int .i64 0] 29)).heap.size = w.heap.size + 1 := by simp
  have b0 := (Below.refl w.heap.size w).alloc (Nat.le_refl _) (.cells #[.slice none 0 0, .slice none 0 0, .slice none 0 0, .slice none 0 0, .int .i64 0, .int .i64 0] 29)
  generalize (w.alloc (.cells #[.slice none 0 0, .slice none 0 0, .slice none 0 0, .slice none 0 0, .int .i64 0, .int .i64 0] 29)) = A1 at *
  have r1 : (A1.alloc (.cells #[.bool false] 4)).rowIs A1.heap.size 4 1 (fun _ => .bool false) := World.rowIs_alloc A1 _ _ _ (fun i hi => by
    obtain rfl : i = 0 := by simpa using hi
    rfl)
  have s2 : (A1.alloc (.cells #[.bool false] 4)).heap.size = w.heap.size + 2 := by simp [s1]
  have b1 := (Below.refl A1.heap.size A1).alloc (Nat.le_refl _) (.cells #[.bool false] 4)
  have r0 := r0.of_block (b1.block _ (by rw [s1]; omega))
  rw [s1] at r1 b1
  generalize (A1.alloc (.cells #[.bool false] 4)) = A2 at *
  have r2 : Rdr (A2.alloc (.cells #[.string ba] 143)) A2.heap.size s := World.rowIs_alloc A2 _ _ _ (fun i hi => by
    obtain rfl : i = 0 := by simpa using hi
    exact congrArg some hba.symm)
  have b2 := (Below.refl A2.heap.size A2).alloc (Nat.le_refl _) (.cells #[.string ba] 143)
  rw [s2] at r2 b2
  exact ⟨r0.of_block (b2.block _ (by omega)), r1.of_block (b2.block _ (by omega)), r2, b0.trans ((b1.mono (by omega)).trans (b2.mono (by omega))), by simp [s2]⟩
theorem told1_idle (R O : Nat) (w : World) :
    CallsD Tryz.prog 104 #[.pointer (some ⟨R, 0, none⟩), .pointer (some ⟨O, 0, none⟩)] .returning w fun e u' w' => e = .returned (.tuple #[]) ∧ u' = .returning ∧ w' = w := by
  refine callsD_of_wpS Tryz.func104 rfl fun c₀ cs hu => ?_
  apply wpS_seq
  apply wpS_region
  simp [wpOpsS, go_sem, recoverD, hu, Tryz.ntmps104, Exit.thenS]
  refine wpS_of_wp ?_
  simp only [Array.replicate_succ, Array.replicate_zero, List.push_toArray, List.append_toArray, List.nil_append, List.cons_append, List.setIfInBounds_toArray, List.set_cons_succ, List.set_cons_zero]
  go_wp2_with fail
  cases c₀
  simp_all [bodyPostS, results, Tryz.results104]

set_option maxHeartbeats 1000000 in
set_option maxRecDepth 100000 in
theorem told_any (w : World) (s : List UInt8) (hs : s.length ≤ 9223372036854775807) :
    Calls Tryz.prog 56 #[Str s] w fun e w' => Below w.heap.size w w' ∧
      ((∃ m v, Mz.machOf s = some m ∧ e = .returned (.tuple #[v, .bool true]) ∧ mkMach w.heap.size m v w' ∧ smallMach m) ∨
       (Mz.machOf s = none ∧ e = .returned (.tuple #[.agg #[.slice none 0 0, .slice none 0 0, .slice none 0 0, .slice none 0 0, .int .i64 0, .int .i64 0], .bool false]))) := by
  have hmf : ∀ (fn : Fn) (first cap : Array Value) (w : World), (Instr.makeFunc fn first cap).run Tryz.prog w = .ok (.func fn first cap) w := fun _ _ _ _ => rfl
  obtain ⟨ba, hba⟩ : ∃ ba, Str s = .string ba := ⟨_, rfl⟩
  rw [hba]
  have HBA := Lib.hid hba
  clear hba
  go_enter_defers Tryz.func56, Tryz.ntmps56
  go_wp2_with fail
  generalize hA : (((w.alloc (.cells #[.slice none 0 0, .slice none 0 0, .slice none 0 0, .slice none 0 0, .int .i64 0, .int .i64 0] 29)).alloc (.cells #[.bool false] 4)).alloc (.cells #[.string ba] 143)) = A
  obtain ⟨rR, rO, hrA, hbA, hsA⟩ := told_begin w s ba HBA.out A hA
  clear hA
  obtain ⟨R, hR⟩ : ∃ R, R = w.heap.size := ⟨_, rfl⟩
  obtain ⟨O, hO⟩ : ∃ O, O = w.heap.size + 1 := ⟨_, rfl⟩
  obtain ⟨rb, hrb⟩ : ∃ rb, rb = w.heap.size + 1 + 1 := ⟨_, rfl⟩
  have hrb' : w.heap.size + 2 = rb := by omega
  rw [← hrb]
  rw [hrb'] at hrA
  rw [← hO] at rO ⊢
  have hOR : O ≠ w.heap.size := by omega
  have hRO : w.heap.size ≠ O := fun e => hOR e.symm
  refine (rdMach_any A rb s hrA hs).mono ?_
  rintro e w1 ⟨hf, (⟨m, v, hx, rfl, hmk, hsm⟩ | ⟨hx, rfl⟩)⟩
  · have rR1 := hf.row rR (by omega) (by omega)
    have rO1 := hf.row rO (by omega) (by omega)
    have hw1 : Below w.heap.size w w1 := hbA.trans ⟨hf.os, hf.tape, hf.output, hf.size, fun k hk => hf.block k (by omega) (by omega)⟩
    have HMK := Lib.hid hmk
    obtain ⟨fps, bps, fv, bv, iv, ov, e1, e2, rfl, hof, hob, hoi, hoo, _, _⟩ := hmk
    obtain ⟨fa, fc, rfl⟩ := owned_open hof
    obtain ⟨xa, xc, rfl⟩ := owned_open hob
    obtain ⟨ia, ic, rfl⟩ := owned_open hoi
    obtain ⟨oa, oc, rfl⟩ := owned_open hoo
    have r60 : w1.cell? ⟨w.heap.size, 0, none⟩ = some (.slice none 0 0) := rR1.cell (i := 0) (by decide)
    have r61 : w1.cell? ⟨w.heap.size, 1, none⟩ = some (.slice none 0 0) := rR1.cell (i := 1) (by decide)
    have r62 : w1.cell? ⟨w.heap.size, 2, none⟩ = some (.slice none 0 0) := rR1.cell (i := 2) (by decide)
    have r63 : w1.cell? ⟨w.heap.size, 3, none⟩ = some (.slice none 0 0) := rR1.cell (i := 3) (by decide)
    have r64 : w1.cell? ⟨w.heap.size, 4, none⟩ = some (.int .i64 0) := rR1.cell (i := 4) (by decide)
    have r65 : w1.cell? ⟨w.heap.size, 5, none⟩ = some (.int .i64 0) := rR1.cell (i := 5) (by decide)
    have z60 := rR1.frozen 0
    have z61 := rR1.frozen 1
    have z62 := rR1.frozen 2
    have z63 := rR1.frozen 3
    have z64 := rR1.frozen 4
    have z65 := rR1.frozen 5
    have o1 : w1.cell? ⟨O, 0, none⟩ = some (.bool false) := rO1.cell (i := 0) (by decide)
    have zo1 := rO1.frozen 0
    have HX := Lib.hid hx
    have HSM := Lib.hid hsm
    have RR1 := Lib.hid rR1
    have RO1 := Lib.hid rO1
    have HW1 := Lib.hid hw1
    have HSA := Lib.hid hsA
    have HOO := Lib.hid hO
    clear hof hob hoi hoo hx hsm rR1 rO1 hw1 hf hrA rR rO hbA hsA hrb hrb' hO e1 e2 hR
    go_wp2_with fail
    have q0 := RR1.out.set 0 (.slice fa fps.length fc)
    have q1 := q0.set 1 (.slice xa bps.length xc)
    have q2 := q1.set 2 (.slice ia m.inp.length ic)
    have q3 := q2.set 3 (.slice oa m.out.length oc)
    have q4 := q3.set 4 (.int .i64 m.status)
    have q5 := q4.set 5 (.int .i64 m.trap)
    have d0 := q0.cell (i := 0) (by decide)
    have d1 := q1.cell (i := 1) (by decide)
    have d2 := q2.cell (i := 2) (by decide)
    have d3 := q3.cell (i := 3) (by decide)
    have d4 := q4.cell (i := 4) (by decide)
    have d5 := q5.cell (i := 5) (by decide)
    rw [if_pos rfl] at d0 d1 d2 d3 d4 d5
    have on : Only w.heap.size w1 _ := (((((((Only.refl w.heap.size w1).setCell 0 (.slice fa fps.length fc)).setCell 1 (.slice xa bps.length xc)).setCell 2 (.slice ia m.inp.length ic)).setCell 3 (.slice oa m.out.length oc)).setCell 4 (.int .i64 m.status)).setCell 5 (.int .i64 m.trap))
    have rO6 := RO1.out.of_block (on.block O hOR)
    have q6 := rO6.set 0 (.bool true)
    have d6 := q6.cell (i := 0) (by decide)
    rw [if_pos rfl] at d6
    refine leaves_cons (f := 104) (args := #[.pointer (some ⟨w.heap.size, 0, none⟩), .pointer (some ⟨O, 0, none⟩)]) (by simp) (by simp [go_sem]) ?_
    refine (told1_idle w.heap.size O _).mono ?_
    rintro e u' w'' ⟨rfl, rfl, rfl⟩
    have hb : Below w.heap.size w1 _ := (on.below (Nat.le_refl _)).trans (((Only.refl O _).setCell 0 (.bool true)).below (by have := HOO.out; omega))
    have hs1 := Bes.of_only RR1.out on
    have hs2 := Bes.of_set rO6 0 (.bool true)
    have hmk : mkMach w.heap.size m _ _ := (mkMach.bes (mkMach.bes HMK.out hs1 (by decide)) hs2 (by decide)).mono (by have := HSA.out; omega)
    simp [Leaves, settle, results, Tryz.results56, go_sem, d0, d1, d2, d3, d4, d5, d6]
    exact ⟨HW1.out.trans hb, m, HX.out, hmk, HSM.out⟩
  · have rR1 := hf.row rR (by omega) (by omega)
    have rO1 := hf.row rO (by omega) (by omega)
    have hw1 : Below w.heap.size w w1 := hbA.trans ⟨hf.os, hf.tape, hf.output, hf.size, fun k hk => hf.block k (by omega) (by omega)⟩
    refine leaves_cons (f := 104) (args := #[.pointer (some ⟨w.heap.size, 0, none⟩), .pointer (some ⟨O, 0, none⟩)]) (by simp) (by simp [go_sem]) ?_
    refine (told1_panicking w.heap.size O [] _ rR1 rO1).mono ?_
    rintro e u' w'' ⟨rfl, rfl, rfl⟩
    have on : Only w.heap.size w1 _ := (((((((Only.refl w.heap.size w1).setCell 0 (.slice none 0 0)).setCell 1 (.slice none 0 0)).setCell 2 (.slice none 0 0)).setCell 3 (.slice none 0 0)).setCell 4 (.int .i64 0)).setCell 5 (.int .i64 0))
    have hb : Below w.heap.size w1 _ := (on.below (Nat.le_refl _)).trans (((Only.refl O _).setCell 0 (.bool false)).below (by omega))
    have hb2 : Below w.heap.size w1 (toldW w1 w.heap.size O) := hb.alloc (Nat.le_trans hw1.size hb.size) (.cells #[] 139)
    have q0 := rR1.set 0 (.slice none 0 0)
    have q1 := q0.set 1 (.slice none 0 0)
    have q2 := q1.set 2 (.slice none 0 0)
    have q3 := q2.set 3 (.slice none 0 0)
    have q4 := q3.set 4 (.int .i64 0)
    have q5 := q4.set 5 (.int .i64 0)
    have d0 := q0.cell (i := 0) (by decide)
    have d1 := q1.cell (i := 1) (by decide)
    have d2 := q2.cell (i := 2) (by decide)
    have d3 := q3.cell (i := 3) (by decide)
    have d4 := q4.cell (i := 4) (by decide)
    have d5 := q5.cell (i := 5) (by decide)
    rw [if_pos rfl] at d0 d1 d2 d3 d4 d5
    have rO6 := rO1.of_block (on.block O hOR)
    have q6 := rO6.set 0 (.bool false)
    have d6 := q6.cell (i := 0) (by decide)
    rw [if_pos rfl] at d6
    have hR1 := rR1.lt
    have hO1 := rO1.lt
    have hx' := Lib.hid hx
    clear hx hf hbA hsA hO hrb hrb' rR rO hrA q0 q1 q2 q3 q4 q5 rO6 q6 on hb
    have hfin := Lib.hid (hw1.trans hb2)
    clear hw1 hb2
    unfold toldW at hfin ⊢
    simp [Leaves, settle, results, Tryz.results56, go_sem, d0, d1, d2, d3, d4, d5, d6, hR1, hO1]
    exact ⟨hfin.out, hx'.out⟩
end Go.Proofs.YthdomhejkbpabaaGreat

/- image.Save, image.Restore. -/
namespace Go.Proofs.YthdomhejkbpabaaGreat
open Go.RowKit

theorem check_zero {p : List Mz.Fun} {m : Mz.Mach} (h : Mz.checkMach p m = 0) : Mz.checkFits p = 0 ∧ Mz.RightS p m := by
  by_cases hf : Mz.checkFits p = 0
  · rw [check_fits hf] at h
    exact ⟨hf, Mz.checkRight_zero.1 h⟩
  · rw [check_not hf] at h
    exact absurd h hf

set_option maxHeartbeats 1000000 in
set_option maxRecDepth 100000 in
theorem save_any (pv mv : Value) (p : List Mz.Fun) (m : Mz.Mach) (B : Nat) (w : World) (hB : B ≤ w.heap.size) (hp : RProg w B pv p) (hm : RMach w B mv m) :
    Calls Tryz.prog 13 #[pv, mv] w fun e w' => Below w.heap.size w w' ∧ ((Mz.checkMach p m = 0 ∧ e = .returned (.tuple #[Str (Mz.imageOf m), .int .i64 0])) ∨ (Mz.checkMach p m ≠ 0 ∧ e = .returned (.tuple #[Str [], .int .i64 (Mz.checkMach p m)]))) := by
  have HP : Hid (RProg w B pv p) := hp
  have HM : Hid (RMach w B mv m) := hm
  obtain ⟨fp, rfl, hp⟩ := hp
  obtain ⟨fv, bv, iv, ov, rfl, hf, hbl, hi, ho⟩ := hm
  obtain ⟨fo, fc, rfl, _, _, _⟩ := hf.open
  obtain ⟨bo, bc, rfl, _, _, _⟩ := hbl.open
  obtain ⟨io, ic, rfl, _, _, _⟩ := hi.open
  obtain ⟨oo, oc, rfl, _, _, _⟩ := ho.open
  obtain ⟨po, pc, rfl, _, _, _⟩ := hp.open
  clear hf hbl hi ho hp
  go_enter Tryz.func13, Tryz.ntmps13
  go_wp2_with fail
  have hb2 : Below w.heap.size w ((w.alloc (.cells #[.slice po p.length pc] 24)).alloc (.cells #[.slice fo m.frames.length fc, .slice bo m.blocks.length bc, .slice io m.inp.length ic, .slice oo m.out.length oc, .int .i64 m.status, .int .i64 m.trap] 29)) :=
    ((Below.refl _ _).alloc (Nat.le_refl _) _).alloc (by simp) _
  have hx := Boxes2.made w fo bo io oo po fc bc ic oc pc p m
  refine (check_any _ _ p m B _ (by simp; omega) (HP.out.frame (hb2.mono hB)) (HM.out.frame (hb2.mono hB))).mono ?_
  rintro e w3 ⟨rfl, hb3⟩
  obtain ⟨s3, k0, k1, k2, k3, k4, k5, k6⟩ := hx.frame hb3
  have HB3 := Lib.hid (hb2.trans (hb3.mono (by simp; omega)))
  clear hb2 hb3 hx
  by_cases hz : Mz.checkMach p m = 0
  · have HZ := Lib.hid hz
    have d : (Mz.checkMach p m != 0) = false := by simpa using hz
    clear hz
    obtain ⟨hfit, hr⟩ := check_zero HZ.out
    go_wp2_with fail
    refine (bytes_any _ m B _ (HM.out.frame (HB3.out.mono hB)) (Nat.le_trans hB HB3.out.size) (Mz.right_small hfit hr) hr.ninp hr.nout).mono ?_
    rintro e w4 ⟨rfl, hb4⟩
    have HB4 := Lib.hid (via0 HB3.out HB3.out.size hb4)
    clear hb4
    go_wp2_with fail
    go_ret2
    exact ⟨HB4.out, .inl ⟨HZ.out, rfl⟩⟩
  · have HZ := Lib.hid hz
    have d : (Mz.checkMach p m != 0) = true := by simpa using hz
    clear hz
    go_wp2_with fail
    go_ret2
    exact ⟨HB3.out, .inr ⟨HZ.out, rfl⟩⟩

def nilMach : Value := .agg #[.slice none 0 0, .slice none 0 0, .slice none 0 0, .slice none 0 0, .int .i64 0, .int .i64 0]
/-- what Restore answers -/
def restoreOf (p : List Mz.Fun) (s : List UInt8) : Option Mz.Mach × Int :=
  if Mz.checkFits p ≠ 0 then (none, Mz.checkFits p) else match Mz.machOf s with
    | none => (none, 1)
    | some m => if Mz.checkRight p m ≠ 0 then (none, Mz.checkRight p m) else (some m, 0)
def RestoreRes (lo : Nat) (x : Option Mz.Mach × Int) (e : Ending) (w' : World) : Prop :=
  match x.1 with
  | none => e = .returned (.tuple #[nilMach, .int .i64 x.2])
  | some m => ∃ v, e = .returned (.tuple #[v, .int .i64 x.2]) ∧ mkMach lo m v w' ∧ smallMach m
/-- the zero machine laid into the result -/
theorem set_nils {w : World} {R : Nat} {f : Nat → Value} (h : w.rowIs R 29 6 f) :
    Only R w ((((((w.setCell ⟨R, 0, none⟩ (.slice none 0 0)).setCell ⟨R, 1, none⟩ (.slice none 0 0)).setCell ⟨R, 2, none⟩ (.slice none 0 0)).setCell ⟨R, 3, none⟩ (.slice none 0 0)).setCell ⟨R, 4, none⟩ (.int .i64 0)).setCell ⟨R, 5, none⟩ (.int .i64 0)) ∧
    (w.setCell ⟨R, 0, none⟩ (.slice none 0 0)).cell? ⟨R, 0, none⟩ = some (.slice none 0 0) ∧
    ((w.setCell ⟨R, 0, none⟩ (.slice none 0 0)).setCell ⟨R, 1, none⟩ (.slice none 0 0)).cell? ⟨R, 1, none⟩ = some (.slice none 0 0) ∧
    (((w.setCell ⟨R, 0, none⟩ (.slice none 0 0)).setCell ⟨R, 1, none⟩ (.slice none 0 0)).setCell ⟨R, 2, none⟩ (.slice none 0 0)).cell? ⟨R, 2, none⟩ = some (.slice none 0 0) ∧
    ((((w.setCell ⟨R, 0, none⟩ (.slice none 0 0)).setCell ⟨R, 1, none⟩ (.slice none 0 0)).setCell ⟨R, 2, none⟩ (.slice none 0 0)).setCell ⟨R, 3, none⟩ (.slice none 0 0)).cell? ⟨R, 3, none⟩ = some (.slice none 0 0) ∧
    (((((w.setCell ⟨R, 0, none⟩ (.slice none 0 0)).setCell ⟨R, 1, none⟩ (.slice none 0 0)).setCell ⟨R, 2, none⟩ (.slice none 0 0)).setCell ⟨R, 3, none⟩ (.slice none 0 0)).setCell ⟨R, 4, none⟩ (.int .i64 0)).cell? ⟨R, 4, none⟩ = some (.int .i64 0) ∧
    ((((((w.setCell ⟨R, 0, none⟩ (.slice none 0 0)).setCell ⟨R, 1, none⟩ (.slice none 0 0)).setCell ⟨R, 2, none⟩ (.slice none 0 0)).setCell ⟨R, 3, none⟩ (.slice none 0 0)).setCell ⟨R, 4, none⟩ (.int .i64 0)).setCell ⟨R, 5, none⟩ (.int .i64 0)).cell? ⟨R, 5, none⟩ = some (.int .i64 0) := by
  have q0 := h.set 0 (.slice none 0 0)
  have q1 := q0.set 1 (.slice none 0 0)
  have q2 := q1.set 2 (.slice none 0 0)
  have q3 := q2.set 3 (.slice none 0 0)
  have q4 := q3.set 4 (.int .i64 0)
  have q5 := q4.set 5 (.int .i64 0)
  have d0 := q0.cell (i := 0) (by decide)
  have d1 := q1.cell (i := 1) (by decide)
  have d2 := q2.cell (i := 2) (by decide)
  have d3 := q3.cell (i := 3) (by decide)
  have d4 := q4.cell (i := 4) (by decide)
  have d5 := q5.cell (i := 5) (by decide)
  rw [if_pos rfl] at d0 d1 d2 d3 d4 d5
  exact ⟨((((((Only.refl R w).setCell 0 _).setCell 1 _).setCell 2 _).setCell 3 _).setCell 4 _).setCell 5 _, d0, d1, d2, d3, d4, d5⟩
end Go.Proofs.YthdomhejkbpabaaGreat

/- The law's own programs. -/
namespace Go.Proofs.YthdomhejkbpabaaGreat
open Go.RowKit

/-- one function, laid into new memory -/
theorem prog_made (W0 : World) (pa re : Int) (l : List Int) (code : List Mz.Op) (hl : l.length ≤ 100) (hc : code.length ≤ 100) (n1 n2 : Nat) (e1 : n1 = l.length) (e2 : n2 = code.length) (b1 b2 : Nat) (h1 : b1 = W0.heap.size) (h2 : b2 = W0.heap.size + 1) (W : World)
    (hW : ((W0.alloc (.cells (l.map (Value.int .i64)).toArray 3)).alloc (.cells (code.flatMap opCells).toArray 49)).alloc (.cells #[.int .i64 pa, .slice (some ⟨b1, 0, none⟩) n1 n1, .int .i64 re, .slice (some ⟨b2, 0, none⟩) n2 n2] 110) = W) :
    RFuns W W.heap.size (.slice (some ⟨W0.heap.size + 2, 0, none⟩) 1 1) [⟨pa, l, re, code⟩] ∧ Below W0.heap.size W0 W := by
  subst h1 h2 e1 e2 hW
  have s1 : (W0.alloc (.cells (l.map (Value.int .i64)).toArray 3)).heap.size = W0.heap.size + 1 := by simp
  have r1 : RInts (W0.alloc (.cells (l.map (Value.int .i64)).toArray 3)) (W0.heap.size + 1) (.slice (some ⟨W0.heap.size, 0, none⟩) l.length l.length) l := by
    have := Sl.made W0 (l.map (Value.int .i64)).toArray 3 l.length 1 (by simp) (by omega) (by unfold maxLen; omega)
    simpa [RInts] using this
  have b1 := (Below.refl W0.heap.size W0).alloc (Nat.le_refl _) (.cells (l.map (Value.int .i64)).toArray 3)
  generalize (W0.alloc (.cells (l.map (Value.int .i64)).toArray 3)) = W1 at *
  have s2 : (W1.alloc (.cells (code.flatMap opCells).toArray 49)).heap.size = W0.heap.size + 2 := by simp [s1]
  have r2 : ROps (W1.alloc (.cells (code.flatMap opCells).toArray 49)) (W0.heap.size + 2) (.slice (some ⟨W0.heap.size + 1, 0, none⟩) code.length code.length) code := by
    have := Sl.made W1 (code.flatMap opCells).toArray 49 code.length 2 (by
      rw [List.size_toArray, flat_len (sz := 2) (fun _ => rfl)]) (by omega) (by unfold maxLen; omega)
    rw [s1] at this
    simpa [ROps] using this
  have b2 := b1.alloc (by omega) (.cells (code.flatMap opCells).toArray 49)
  have r1 := r1.frame ((Below.refl (W0.heap.size + 1) W1).alloc (by omega) (.cells (code.flatMap opCells).toArray 49))
  generalize (W1.alloc (.cells (code.flatMap opCells).toArray 49)) = W2 at *
  have s3 : (W2.alloc (.cells #[.int .i64 pa, .slice (some ⟨W0.heap.size, 0, none⟩) l.length l.length, .int .i64 re, .slice (some ⟨W0.heap.size + 1, 0, none⟩) code.length code.length] 110)).heap.size = W0.heap.size + 3 := by simp [s2]
  have r3 := Sl.made W2 #[.int .i64 pa, .slice (some ⟨W0.heap.size, 0, none⟩) l.length l.length, .int .i64 re, .slice (some ⟨W0.heap.size + 1, 0, none⟩) code.length code.length] 110 1 4 rfl (by omega) (by unfold maxLen; omega)
  have b3 := b2.alloc (by omega) (.cells #[.int .i64 pa, .slice (some ⟨W0.heap.size, 0, none⟩) l.length l.length, .int .i64 re, .slice (some ⟨W0.heap.size + 1, 0, none⟩) code.length code.length] 110)
  have r1 := r1.frame ((Below.refl (W0.heap.size + 1) W2).alloc (by omega) (.cells #[.int .i64 pa, .slice (some ⟨W0.heap.size, 0, none⟩) l.length l.length, .int .i64 re, .slice (some ⟨W0.heap.size + 1, 0, none⟩) code.length code.length] 110))
  have r2 := r2.frame ((Below.refl (W0.heap.size + 2) W2).alloc (by omega) (.cells #[.int .i64 pa, .slice (some ⟨W0.heap.size, 0, none⟩) l.length l.length, .int .i64 re, .slice (some ⟨W0.heap.size + 1, 0, none⟩) code.length code.length] 110))
  rw [s2] at r3
  generalize (W2.alloc (.cells #[.int .i64 pa, .slice (some ⟨W0.heap.size, 0, none⟩) l.length l.length, .int .i64 re, .slice (some ⟨W0.heap.size + 1, 0, none⟩) code.length code.length] 110)) = W3 at *
  rw [s3]
  refine ⟨⟨[(⟨pa, l, re, code⟩, .slice (some ⟨W0.heap.size, 0, none⟩) l.length l.length, .slice (some ⟨W0.heap.size + 1, 0, none⟩) code.length code.length)], rfl, r3, fun x hx => ?_⟩, b3⟩
  obtain rfl : x = ((⟨pa, l, re, code⟩ : Mz.Fun), Value.slice (some ⟨W0.heap.size, 0, none⟩) l.length l.length, Value.slice (some ⟨W0.heap.size + 1, 0, none⟩) code.length code.length) := by simpa using hx
  exact ⟨r1.mono (by omega), r2.mono (by omega)⟩

set_option maxHeartbeats 1000000 in
set_option maxRecDepth 100000 in
theorem holder_any (w : World) :
    Calls Tryz.prog 71 #[] w fun e w' => ∃ pv, e = .returned pv ∧ RProg w' w'.heap.size pv Mz.holderP ∧ Below w.heap.size w w' := by
  go_enter Tryz.func71, Tryz.ntmps71
  go_wp2_with fail
  have s0 : (w.alloc (.cells #[.slice (some ⟨w.heap.size + 1 + 1 + 1, 0, none⟩) 1 1] 24)).heap.size = w.heap.size + 1 := by simp
  have c0 : (w.alloc (.cells #[.slice (some ⟨w.heap.size + 1 + 1 + 1, 0, none⟩) 1 1] 24)).cell? ⟨w.heap.size, 0, none⟩ = some (.slice (some ⟨w.heap.size + 1 + 1 + 1, 0, none⟩) 1 1) := cell_at rfl rfl
  have b0 := (Below.refl w.heap.size w).alloc (Nat.le_refl _) (.cells #[.slice (some ⟨w.heap.size + 1 + 1 + 1, 0, none⟩) 1 1] 24)
  generalize (w.alloc (.cells #[.slice (some ⟨w.heap.size + 1 + 1 + 1, 0, none⟩) 1 1] 24)) = W0 at *
  obtain ⟨W, hW⟩ : ∃ W, ((W0.alloc (.cells (([2] : List Int).map (Value.int .i64)).toArray 3)).alloc (.cells ((nth Mz.holderP 0).code.flatMap opCells).toArray 49)).alloc (.cells #[.int .i64 0, .slice (some ⟨w.heap.size + 1, 0, none⟩) 1 1, .int .i64 0, .slice (some ⟨w.heap.size + 1 + 1, 0, none⟩) 11 11] 110) = W := ⟨_, rfl⟩
  obtain ⟨hf, hb⟩ := prog_made W0 0 0 [2] (nth Mz.holderP 0).code (by decide) (by decide) 1 11 rfl rfl _ _ s0.symm (by rw [s0]) W hW
  rw [s0] at hf
  have hW' := hW
  dsimp only [List.map, Mz.holderP, nth, List.flatMap, opCells, List.flatten, List.append] at hW'
  have c1 : W.cell? ⟨w.heap.size, 0, none⟩ = some (.slice (some ⟨w.heap.size + 1 + 1 + 1, 0, none⟩) 1 1) := by rw [(bcell hb).1 _ _ (by omega)]; exact c0
  show bodyPost _ _ _ _ _ (((W0.alloc (.cells (([2] : List Int).map (Value.int .i64)).toArray 3)).alloc (.cells ((nth Mz.holderP 0).code.flatMap opCells).toArray 49)).alloc (.cells #[.int .i64 0, .slice (some ⟨w.heap.size + 1, 0, none⟩) 1 1, .int .i64 0, .slice (some ⟨w.heap.size + 1 + 1, 0, none⟩) 11 11] 110))
  rw [hW]
  refine bodyPost_ret (by simp [results, Tryz.results71, go_sem, c1]; try rfl) rfl ?_
  exact ⟨_, rfl, ⟨_, rfl, hf⟩, b0.trans (hb.mono (by omega))⟩
end Go.Proofs.YthdomhejkbpabaaGreat
