/- Lemmas: RefRight. -/
import Derived.Test.YthdomhejkbpabaaGreatG19
set_option linter.unusedVariables false
set_option linter.unusedSimpArgs false
/- The reference's check of a machine. -/
namespace Go.Proofs.YthdomhejkbpabaaGreat
open Go.RowKit

/-- what the reference's check of a machine has boxed -/
structure Boxes2 (w : World) (N : Nat) (fo bo io oo po : Option Addr) (fc bc ic oc pc : Nat) (p : List Mz.Fun) (m : Mz.Mach) : Prop where
  size : N + 2 ≤ w.heap.size
  p0 : w.cell? ⟨N, 0, none⟩ = some (.slice po p.length pc)
  m0 : w.cell? ⟨N + 1, 0, none⟩ = some (.slice fo m.frames.length fc)
  m1 : w.cell? ⟨N + 1, 1, none⟩ = some (.slice bo m.blocks.length bc)
  m2 : w.cell? ⟨N + 1, 2, none⟩ = some (.slice io m.inp.length ic)
  m3 : w.cell? ⟨N + 1, 3, none⟩ = some (.slice oo m.out.length oc)
  m4 : w.cell? ⟨N + 1, 4, none⟩ = some (.int .i64 m.status)
  m5 : w.cell? ⟨N + 1, 5, none⟩ = some (.int .i64 m.trap)
theorem Boxes2.frame {w w' : World} {N : Nat} {fo bo io oo po : Option Addr} {fc bc ic oc pc : Nat} {p : List Mz.Fun} {m : Mz.Mach} (h : Boxes2 w N fo bo io oo po fc bc ic oc pc p m) (hb : Below w.heap.size w w') : Boxes2 w' N fo bo io oo po fc bc ic oc pc p m := by
  have hs := h.size
  have e := fun b o (hl : b < w.heap.size) => (bcell hb).1 b o hl
  exact ⟨Nat.le_trans hs hb.size, (e _ _ (by omega)).trans h.p0, (e _ _ (by omega)).trans h.m0, (e _ _ (by omega)).trans h.m1, (e _ _ (by omega)).trans h.m2, (e _ _ (by omega)).trans h.m3, (e _ _ (by omega)).trans h.m4, (e _ _ (by omega)).trans h.m5⟩
theorem Boxes2.made (w : World) (fo bo io oo po : Option Addr) (fc bc ic oc pc : Nat) (p : List Mz.Fun) (m : Mz.Mach) : Boxes2 ((w.alloc (.cells #[.slice po p.length pc] 24)).alloc (.cells #[.slice fo m.frames.length fc, .slice bo m.blocks.length bc, .slice io m.inp.length ic, .slice oo m.out.length oc, .int .i64 m.status, .int .i64 m.trap] 29)) w.heap.size fo bo io oo po fc bc ic oc pc p m :=
  ⟨by simp, by rw [cell_old (by simp)]; exact cell_at rfl rfl, cell_at (by simp) rfl, cell_at (by simp) rfl, cell_at (by simp) rfl, cell_at (by simp) rfl, cell_at (by simp) rfl, cell_at (by simp) rfl⟩

/-- the parts, as the walk finds them -/
theorem trap_not3 {m : Mz.Mach} (h : m.status ≠ 3) : Mz.trapOk m = !(m.trap != 0) := by
  unfold Mz.trapOk Mz.btw; rw [if_neg h, Bool.eq_iff_iff]; simp; omega
theorem trap_is3 {m : Mz.Mach} (h : m.status = 3) : Mz.trapOk m = Mz.btw m.trap 1 5 := by unfold Mz.trapOk; rw [if_pos h]

set_option maxHeartbeats 4000000 in
set_option maxRecDepth 100000 in
theorem refRight_low (pv mv : Value) (p : List Mz.Fun) (m : Mz.Mach) (B : Nat) (w : World) (hB : B ≤ w.heap.size) (hp : RProg w B pv p) (hm : RMach w B mv m)
    (hlow : Mz.btw m.status 0 3 = false ∨ Mz.trapOk m = false ∨ Mz.checkBlocks m.blocks ≠ 0) :
    Calls Tryz.prog 19 #[pv, mv] w fun e w' => e = .returned (.int .i64 (Mz.checkRight p m)) ∧ Below w.heap.size w w' := by
  obtain ⟨fp, rfl, hp⟩ := hp
  obtain ⟨fv, bv, iv, ov, rfl, hfr, hbl, hin, hout⟩ := hm
  have HBL := Lib.hid hbl
  obtain ⟨fo, fc, rfl, f1, f2, f3⟩ := hfr.open
  obtain ⟨bo, bc, rfl, b1, b2, b3⟩ := hbl.open
  obtain ⟨io, ic, rfl, _, _, _⟩ := hin.open
  obtain ⟨oo, oc, rfl, _, _, _⟩ := hout.open
  obtain ⟨po, pc, rfl, p1, p2, p3⟩ := hp.open
  have hb2 : Below w.heap.size w ((w.alloc (.cells #[.slice po p.length pc] 24)).alloc (.cells #[.slice fo m.frames.length fc, .slice bo m.blocks.length bc, .slice io m.inp.length ic, .slice oo m.out.length oc, .int .i64 m.status, .int .i64 m.trap] 29)) :=
    ((Below.refl _ _).alloc (Nat.le_refl _) _).alloc (by simp) _
  have HB2 := Lib.hid hb2
  have HLOW := Lib.hid hlow
  clear hfr hbl hin hout hp hb2 hlow
  cases h1 : Mz.btw m.status 0 3 with
  | false =>
    have H1 := Lib.hid h1
    go_enter Tryz.func19, Tryz.ntmps19
    go_wp2_with fail
    refine (between_any _ _ _ _).mono ?_
    rintro e w' ⟨rfl, rfl⟩
    go_wp2_with fail
    go_ret
    exact ⟨ret_int (by rw [parts_status H1.out]), HB2.out⟩
  | true =>
    have H1 := Lib.hid h1
    by_cases h3 : m.status = 3
    · have d3 : (m.status == 3) = true := by simpa using h3
      have d3' : (m.status != 3) = false := by simpa using h3
      have HT := Lib.hid (trap_is3 h3)
      clear h3
      cases h2 : Mz.btw m.trap 1 5 with
      | false =>
        have H2 := Lib.hid h2
        go_enter Tryz.func19, Tryz.ntmps19
        go_wp2_with fail
        refine (between_any _ _ _ _).mono ?_
        rintro e w' ⟨rfl, rfl⟩
        go_wp2_with fail
        refine (between_any _ _ _ _).mono ?_
        rintro e w' ⟨rfl, rfl⟩
        go_wp2_with fail
        go_ret
        exact ⟨ret_int (by rw [parts_trap H1.out (by rw [HT.out]; exact H2.out)]), HB2.out⟩
      | true =>
        have H2 := Lib.hid h2
        have H3 : Hid (Mz.checkBlocks m.blocks ≠ 0) := by
          rcases HLOW.out with h | h | h
          · rw [H1.out] at h; cases h
          · rw [HT.out, H2.out] at h; cases h
          · exact h
        have d4 : (Mz.checkBlocks m.blocks != 0) = true := by simpa using H3.out
        go_enter Tryz.func19, Tryz.ntmps19
        go_wp2_with fail
        refine (between_any _ _ _ _).mono ?_
        rintro e w' ⟨rfl, rfl⟩
        go_wp2_with fail
        refine (between_any _ _ _ _).mono ?_
        rintro e w' ⟨rfl, rfl⟩
        go_wp2_with fail
        refine (refCheckBlocks_any _ m.blocks B _ (HBL.out.frame (HB2.out.mono hB)) (by simp; omega)).mono ?_
        rintro e w' ⟨rfl, rfl⟩
        go_wp2_with fail
        go_ret
        exact ⟨ret_int (by rw [parts_blocks H1.out (by rw [HT.out]; exact H2.out) H3.out]), HB2.out⟩
    · have d3 : (m.status == 3) = false := by simpa using h3
      have d3' : (m.status != 3) = true := by simpa using h3
      have HT := Lib.hid (trap_not3 h3)
      clear h3
      cases h2 : (m.trap != 0) with
      | true =>
        have H2 := Lib.hid h2
        go_enter Tryz.func19, Tryz.ntmps19
        go_wp2_with fail
        refine (between_any _ _ _ _).mono ?_
        rintro e w' ⟨rfl, rfl⟩
        go_wp2_with fail
        go_ret
        exact ⟨ret_int (by rw [parts_trap H1.out (by rw [HT.out, H2.out]; rfl)]), HB2.out⟩
      | false =>
        have H2 := Lib.hid h2
        have H3 : Hid (Mz.checkBlocks m.blocks ≠ 0) := by
          rcases HLOW.out with h | h | h
          · rw [H1.out] at h; cases h
          · rw [HT.out, H2.out] at h; cases h
          · exact h
        have d4 : (Mz.checkBlocks m.blocks != 0) = true := by simpa using H3.out
        go_enter Tryz.func19, Tryz.ntmps19
        go_wp2_with fail
        refine (between_any _ _ _ _).mono ?_
        rintro e w' ⟨rfl, rfl⟩
        go_wp2_with fail
        refine (refCheckBlocks_any _ m.blocks B _ (HBL.out.frame (HB2.out.mono hB)) (by simp; omega)).mono ?_
        rintro e w' ⟨rfl, rfl⟩
        go_wp2_with fail
        go_ret
        exact ⟨ret_int (by rw [parts_blocks H1.out (by rw [HT.out, H2.out]; rfl) H3.out]), HB2.out⟩
end Go.Proofs.YthdomhejkbpabaaGreat
