/- Lemmas: Check. -/
import Derived.Test.YthdomhejkbpabaaGreatG17
set_option linter.unusedVariables false
set_option linter.unusedSimpArgs false
/- The check of a machine, of the program. -/
namespace Go.Proofs.YthdomhejkbpabaaGreat
open Go.RowKit

set_option maxHeartbeats 1000000 in
set_option maxRecDepth 100000 in
theorem right_any (pv mv : Value) (p : List Mz.Fun) (m : Mz.Mach) (B : Nat) (w : World) (hB : B ≤ w.heap.size) (hp : RProg w B pv p) (hm : RMach w B mv m) (hfit : Mz.checkFits p = 0) :
    Calls Tryz.prog 57 #[pv, mv] w fun e w' => e = .returned (.int .i64 (Mz.checkRight p m)) ∧ Below w.heap.size w w' := by
  obtain ⟨fp, rfl, hp⟩ := hp
  obtain ⟨fv, bv, iv, ov, rfl, hf, hbl, hi, ho⟩ := hm
  have HF := Lib.hid hf
  have HBL := Lib.hid hbl
  have HI := Lib.hid hi
  have HO := Lib.hid ho
  have HP := Lib.hid hp
  obtain ⟨fo, fc, rfl, _, _, _⟩ := hf.open
  obtain ⟨bo, bc, rfl, _, _, _⟩ := hbl.open
  obtain ⟨io, ic, rfl, _, _, _⟩ := hi.open
  obtain ⟨oo, oc, rfl, _, _, _⟩ := ho.open
  obtain ⟨po, pc, rfl, _, _, _⟩ := hp.open
  clear hf hbl hi ho hp
  go_enter Tryz.func57, Tryz.ntmps57
  go_wp2_with fail
  have hb3 : Below w.heap.size w (((w.alloc (.cells #[.slice po p.length pc] 24)).alloc (.cells #[.slice fo m.frames.length fc, .slice bo m.blocks.length bc, .slice io m.inp.length ic, .slice oo m.out.length oc, .int .i64 m.status, .int .i64 m.trap] 29)).alloc (.cells #[.slice fo m.frames.length fc, .slice bo m.blocks.length bc, .slice io m.inp.length ic, .slice oo m.out.length oc, .int .i64 m.status, .int .i64 m.trap, .slice po p.length pc] 147)) :=
    (((Below.refl _ _).alloc (Nat.le_refl _) _).alloc (by simp) _).alloc (by simp; omega) _
  refine (all_any _ (w.heap.size + 1 + 1) B _ _ _ _ _ p m ⟨by simp, cell_at (by simp) rfl, cell_at (by simp) rfl, cell_at (by simp) rfl, cell_at (by simp) rfl, cell_at (by simp) rfl, cell_at (by simp) rfl, cell_at (by simp) rfl⟩ (by simp; omega) (HF.out.frame (hb3.mono hB)) (HBL.out.frame (hb3.mono hB)) (HI.out.frame (hb3.mono hB)) (HO.out.frame (hb3.mono hB)) (HP.out.frame (hb3.mono hB)) hfit).mono ?_
  rintro e w4 ⟨rfl, hb4⟩
  have HB4 := Lib.hid (hb3.trans (hb4.mono (by simp; omega)))
  clear hb3 hb4
  go_wp2_with fail
  go_ret
  exact ⟨rfl, HB4.out⟩

theorem check_fits {p : List Mz.Fun} {m : Mz.Mach} (h : Mz.checkFits p = 0) : Mz.checkMach p m = Mz.checkRight p m := by unfold Mz.checkMach; rw [if_neg (by rw [h]; decide)]
theorem check_not {p : List Mz.Fun} {m : Mz.Mach} (h : Mz.checkFits p ≠ 0) : Mz.checkMach p m = Mz.checkFits p := by unfold Mz.checkMach; rw [if_pos h]
set_option maxHeartbeats 1000000 in
set_option maxRecDepth 100000 in
theorem check_any (pv mv : Value) (p : List Mz.Fun) (m : Mz.Mach) (B : Nat) (w : World) (hB : B ≤ w.heap.size) (hp : RProg w B pv p) (hm : RMach w B mv m) :
    Calls Tryz.prog 27 #[pv, mv] w fun e w' => e = .returned (.int .i64 (Mz.checkMach p m)) ∧ Below w.heap.size w w' := by
  have HP : Hid (RProg w B pv p) := hp
  have HM : Hid (RMach w B mv m) := hm
  obtain ⟨fp, rfl, hp⟩ := hp
  obtain ⟨fv, bv, iv, ov, rfl, hf, hbl, hi, ho⟩ := hm
  obtain ⟨fo, fc, rfl, _, _, _⟩ := hf.open
  obtain ⟨bo, bc, rfl, _, _, _⟩ := hbl.open
  obtain ⟨io, ic, rfl, _, _, _⟩ := hi.open
  obtain ⟨oo, oc, rfl, _, _, _⟩ := ho.open
  obtain ⟨po, pc, rfl, _, _, _⟩ := hp.open
  clear hf hbl hi ho hp
  go_enter Tryz.func27, Tryz.ntmps27
  go_wp2_with fail
  have hb2 : Below w.heap.size w ((w.alloc (.cells #[.slice po p.length pc] 24)).alloc (.cells #[.slice fo m.frames.length fc, .slice bo m.blocks.length bc, .slice io m.inp.length ic, .slice oo m.out.length oc, .int .i64 m.status, .int .i64 m.trap] 29)) :=
    ((Below.refl _ _).alloc (Nat.le_refl _) _).alloc (by simp) _
  refine (progFits_any _ p B _ (by simp; omega) (HP.out.frame (hb2.mono hB))).mono ?_
  rintro e w3 ⟨rfl, hb3⟩
  have hc3 := (bcell hb3).1
  have k0 : w3.cell? ⟨w.heap.size, 0, none⟩ = some (.slice po p.length pc) := by rw [hc3 _ _ (by simp; omega), cell_old (by simp)]; exact cell_at rfl rfl
  have kk : ∀ j v, (#[Value.slice fo m.frames.length fc, .slice bo m.blocks.length bc, .slice io m.inp.length ic, .slice oo m.out.length oc, .int .i64 m.status, .int .i64 m.trap] : Array Value)[j]? = some v → w3.cell? ⟨w.heap.size + 1, j, none⟩ = some v := fun j v h => by rw [hc3 _ _ (by simp)]; exact cell_at (by simp) h
  have k1 := kk 0 _ rfl
  have k2 := kk 1 _ rfl
  have k3 := kk 2 _ rfl
  have k4 := kk 3 _ rfl
  have k5 := kk 4 _ rfl
  have k6 := kk 5 _ rfl
  have HB3 := Lib.hid (hb2.trans (hb3.mono (by simp; omega)))
  clear kk hb2 hb3 hc3
  by_cases hfit : Mz.checkFits p = 0
  · have HFIT := Lib.hid hfit
    have d : (Mz.checkFits p != 0) = false := by simpa using hfit
    clear hfit
    go_wp2_with fail
    refine (right_any _ _ p m B _ (Nat.le_trans hB HB3.out.size) (HP.out.frame (HB3.out.mono hB)) (HM.out.frame (HB3.out.mono hB)) HFIT.out).mono ?_
    rintro e w4 ⟨rfl, hb4⟩
    have HB4 := Lib.hid (via0 HB3.out HB3.out.size hb4)
    clear hb4
    go_wp2_with fail
    go_ret
    exact ⟨ret_int (by rw [check_fits HFIT.out]), HB4.out⟩
  · have HFIT := Lib.hid hfit
    have d : (Mz.checkFits p != 0) = true := by simpa using hfit
    clear hfit
    go_wp2_with fail
    go_ret
    exact ⟨ret_int (by rw [check_not HFIT.out]), HB3.out⟩
end Go.Proofs.YthdomhejkbpabaaGreat
