/- Lemmas: ImgLaw, Reads, Reads2. -/
import Derived.Test.YthdomhejkbpabaaGreatG27
import Derived.Test.YthdomhejkbpabaaGreatG29
import Derived.Test.YthdomhejkbpabaaGreatG22
import Derived.Test.YthdomhejkbpabaaGreatG05
import Derived.Deep.Slices
import Derived.Deep.Fields
import Derived.SizedLaws
import Derived.ChangeOld
set_option linter.unusedVariables false
set_option linter.unusedSimpArgs false
/- The law ImageTells: the walk. -/
namespace Go.Proofs.YthdomhejkbpabaaGreat
open Go.RowKit

/-- what Save writes -/
def savedOf (p : List Mz.Fun) (m : Mz.Mach) : List UInt8 := if Mz.checkMach p m = 0 then Mz.imageOf m else []
/-- what Restore's machine is -/
def backOf (p : List Mz.Fun) (s : List UInt8) : Mz.Mach := (restoreOf p s).1.getD zeroM
theorem savedOf_pos {p : List Mz.Fun} {m : Mz.Mach} (h : Mz.checkMach p m = 0) : savedOf p m = Mz.imageOf m := if_pos h
theorem savedOf_neg {p : List Mz.Fun} {m : Mz.Mach} (h : Mz.checkMach p m ≠ 0) : savedOf p m = [] := if_neg h
/-- a machine's value that lies in memory, laid open -/
theorem RMach.open6 {w : World} {B : Nat} {v : Value} {m : Mz.Mach} (h : RMach w B v m) : ∃ (f b i o : Option Addr) (fc bc ic oc : Nat), v = .agg #[.slice f m.frames.length fc, .slice b m.blocks.length bc, .slice i m.inp.length ic, .slice o m.out.length oc, .int .i64 m.status, .int .i64 m.trap] := by
  obtain ⟨fv, bv, iv, ov, rfl, hf, hbl, hi, ho⟩ := h
  obtain ⟨fo, fc, rfl, _⟩ := hf.open
  obtain ⟨bo, bc, rfl, _⟩ := hbl.open
  obtain ⟨io, ic, rfl, _⟩ := hi.open
  obtain ⟨oo, oc, rfl, _⟩ := ho.open
  exact ⟨_, _, _, _, _, _, _, _, rfl⟩
theorem restored {lo : Nat} {p : List Mz.Fun} {s : List UInt8} {e : Ending} {w' : World} (h : RestoreRes lo (restoreOf p s) e w') : ∃ v, e = .returned (.tuple #[v, .int .i64 (restoreOf p s).2]) ∧ RMach w' w'.heap.size v (backOf p s) := by
  unfold RestoreRes at h
  unfold backOf
  cases hr : (restoreOf p s).1 with
  | none => rw [hr] at h; exact ⟨_, h, RMach.zero _ _⟩
  | some m => rw [hr] at h; obtain ⟨v, he, hm, hs⟩ := h; exact ⟨v, he, hm.rmach hs⟩
theorem saved {p : List Mz.Fun} {m : Mz.Mach} {e : Ending} (h : (Mz.checkMach p m = 0 ∧ e = .returned (.tuple #[Str (Mz.imageOf m), .int .i64 0])) ∨ (Mz.checkMach p m ≠ 0 ∧ e = .returned (.tuple #[Str [], .int .i64 (Mz.checkMach p m)]))) : e = .returned (.tuple #[Str (savedOf p m), .int .i64 (Mz.checkMach p m)]) := by
  rcases h with ⟨h, rfl⟩ | ⟨h, rfl⟩
  · rw [savedOf_pos h, h]
  · rw [savedOf_neg h]
theorem back_fits {p : List Mz.Fun} {s : List UInt8} (h : Mz.checkFits p ≠ 0) : (restoreOf p s).2 = Mz.checkFits p ∧ backOf p s = zeroM := by
  unfold backOf restoreOf; rw [if_pos h]; exact ⟨rfl, rfl⟩
theorem back_none {p : List Mz.Fun} {s : List UInt8} (h : Mz.checkFits p = 0) (h2 : Mz.machOf s = none) : (restoreOf p s).2 = 1 ∧ backOf p s = zeroM := by
  unfold backOf restoreOf; rw [if_neg (by rw [h]; decide), h2]; exact ⟨rfl, rfl⟩
theorem back_wrong {p : List Mz.Fun} {s : List UInt8} {x : Mz.Mach} (h : Mz.checkFits p = 0) (h2 : Mz.machOf s = some x) (h3 : Mz.checkRight p x ≠ 0) : (restoreOf p s).2 = Mz.checkRight p x ∧ backOf p s = zeroM := by
  unfold backOf restoreOf; rw [if_neg (by rw [h]; decide), h2]; simp only; rw [if_pos h3]; exact ⟨rfl, rfl⟩
theorem back_right {p : List Mz.Fun} {s : List UInt8} {x : Mz.Mach} (h : Mz.checkFits p = 0) (h2 : Mz.machOf s = some x) (h3 : Mz.checkRight p x = 0) : (restoreOf p s).2 = 0 ∧ backOf p s = x := by
  unfold backOf restoreOf; rw [if_neg (by rw [h]; decide), h2]; simp only; rw [if_neg (by rw [h3]; decide)]; exact ⟨rfl, rfl⟩
theorem isB_true {e0 w0 : Int} {a b : Mz.Mach} (h : e0 = w0) (h2 : a = wantM w0 b) : isB e0 w0 a b = true := by unfold isB; simp [h, h2]

set_option maxHeartbeats 4000000 in
set_option maxRecDepth 100000 in
theorem imageTells_any (pv mv : Value) (p : List Mz.Fun) (m : Mz.Mach) (s : List UInt8) (B : Nat) (w : World) (hB : B ≤ w.heap.size) (hp : RProg w B pv p) (hm : RMach w B mv m) (hs : s.length ≤ 9223372036854775807) :
    Calls Tryz.prog 3 #[pv, mv, Str s] w fun e w' => e = .returned (.bool true) ∧ Below w.heap.size w w' := by
  have HP : Hid (RProg w B pv p) := hp
  have HM : Hid (RMach w B mv m) := hm
  obtain ⟨po, pc, rfl⟩ := hp.open
  obtain ⟨fo, bo, io, oo, fc, bc, ic, oc, rfl⟩ := hm.open6
  obtain ⟨bs, hbs⟩ : ∃ bs, Str s = .string bs := ⟨_, rfl⟩
  have HBS := Lib.hid hbs
  rw [hbs]
  clear hp hm hbs
  obtain ⟨T, hT⟩ : ∃ T, T = savedOf p m := ⟨_, rfl⟩
  obtain ⟨bt, hbt⟩ : ∃ bt, Str T = .string bt := ⟨_, rfl⟩
  have HT := Lib.hid hT
  have HBT := Lib.hid hbt
  clear hT hbt
  obtain ⟨cw, hcw⟩ : ∃ cw, cw = Mz.checkMach p m := ⟨_, rfl⟩
  obtain ⟨cv, hcv⟩ : ∃ cv, cv = Mz.checkFits p := ⟨_, rfl⟩
  have HCW := Lib.hid hcw
  have HCV := Lib.hid hcv
  clear hcw hcv
  go_enter Tryz.func3, Tryz.ntmps3
  go_wp2_with fail
  obtain ⟨P, hP⟩ : ∃ P, P = w.heap.size := ⟨_, rfl⟩
  obtain ⟨Q, hQ⟩ : ∃ Q, Q = w.heap.size + 1 := ⟨_, rfl⟩
  have hx := Boxes2.made w fo bo io oo po fc bc ic oc pc p m
  have hb0 : Below w.heap.size w ((w.alloc (.cells #[.slice po p.length pc] 24)).alloc (.cells #[.slice fo m.frames.length fc, .slice bo m.blocks.length bc, .slice io m.inp.length ic, .slice oo m.out.length oc, .int .i64 m.status, .int .i64 m.trap] 29)) :=
    ((Below.refl _ _).alloc (Nat.le_refl _) _).alloc (by simp) _
  rw [← hQ, ← hP]
  generalize ((w.alloc (.cells #[.slice po p.length pc] 24)).alloc (.cells #[.slice fo m.frames.length fc, .slice bo m.blocks.length bc, .slice io m.inp.length ic, .slice oo m.out.length oc, .int .i64 m.status, .int .i64 m.trap] 29)) = w0 at *
  have HX0 : Hid (Boxes2 w0 P fo bo io oo po fc bc ic oc pc p m) := by rw [hP]; exact hx
  have HQ : Hid (Q = P + 1) := by rw [hP]; exact hQ
  have HPw : Hid (w.heap.size ≤ P) := Nat.le_of_eq hP.symm
  have HB0 := Lib.hid hb0
  clear hx hb0 hP hQ
  -- Save
  refine (save_any _ _ p m B w0 (Nat.le_trans hB HB0.out.size) (HP.out.frame (HB0.out.mono hB)) (HM.out.frame (HB0.out.mono hB))).mono ?_
  rintro e w1 ⟨hb1, hsv⟩
  obtain rfl := saved hsv
  rw [← HT.out, HBT.out, ← HCW.out]
  have HX1 := Lib.hid (HX0.out.frame hb1)
  have HB1 := Lib.hid (HB0.out.trans (hb1.mono HB0.out.size))
  clear hb1 hsv
  obtain ⟨s1, k0, k1, k2, k3, k4, k5, k6⟩ := HX1.out
  rw [← HQ.out] at k1 k2 k3 k4 k5 k6
  have hP1 : P < w1.heap.size := by omega
  have hQ1 : Q < w1.heap.size := by have := HQ.out; omega
  go_wp2_with fail
  -- Restore
  have hrr := restore_any _ p s B w1 (Nat.le_trans hB HB1.out.size) (HP.out.frame (HB1.out.mono hB)) hs
  rw [HBS.out] at hrr
  refine hrr.mono ?_
  clear hrr
  rintro e w2 ⟨hb2, hres⟩
  obtain ⟨va, rfl, hma⟩ := restored hres
  obtain ⟨am, ham⟩ : ∃ am, am = backOf p s := ⟨_, rfl⟩
  obtain ⟨ae, hae⟩ : ∃ ae, ae = (restoreOf p s).2 := ⟨_, rfl⟩
  rw [← ham] at hma
  rw [← hae]
  have HAM := Lib.hid ham
  have HAE := Lib.hid hae
  obtain ⟨B2, hB2⟩ : ∃ B2, B2 = w2.heap.size := ⟨_, rfl⟩
  rw [← hB2] at hma
  have HMA := Lib.hid hma
  have HB2s := Lib.hid hB2
  obtain ⟨fo', bo', io', oo', fc', bc', ic', oc', rfl⟩ := hma.open6
  have HX2 := Lib.hid (HX1.out.frame hb2)
  have HB2 := Lib.hid (HB1.out.trans (hb2.mono HB1.out.size))
  have HPB : Hid (P < B2) := by have := HX2.out.size; unfold Hid; omega
  clear hb2 hres ham hae hma hB2 k0 k1 k2 k3 k4 k5 k6 hP1 hQ1 s1
  go_wp2_with fail
  have hb3 := (Below.refl w2.heap.size w2).alloc (Nat.le_refl _) (.cells #[.slice fo' am.frames.length fc', .slice bo' am.blocks.length bc', .slice io' am.inp.length ic', .slice oo' am.out.length oc', .int .i64 am.status, .int .i64 am.trap] 29)
  have HA3 := Lib.hid (row_machA w2 fo' bo' io' oo' am.frames.length fc' am.blocks.length bc' am.inp.length ic' am.out.length oc' am.status am.trap)
  obtain ⟨A1, hA1⟩ : ∃ A1, A1 = w2.heap.size := ⟨_, rfl⟩
  rw [← hA1] at HA3 ⊢
  have HBB3 : Hid (Below B2 w2 _) := hb3.mono (Nat.le_of_eq HB2s.out)
  have HX3 := Lib.hid (HX2.out.frame (hb3.mono (Nat.le_refl _)))
  have HB3 := Lib.hid (HB2.out.trans (hb3.mono HB2.out.size))
  clear hb3 hA1
  generalize (w2.alloc (.cells #[.slice fo' am.frames.length fc', .slice bo' am.blocks.length bc', .slice io' am.inp.length ic', .slice oo' am.out.length oc', .int .i64 am.status, .int .i64 am.trap] 29)) = w3 at *
  have HPl : Hid (P < w3.heap.size ∧ Q < w3.heap.size) := by have := HX3.out.size; have := HQ.out; exact ⟨by omega, by omega⟩
  have K : Hid (w3.cell? ⟨P, 0, none⟩ = some (.slice po p.length pc) ∧ w3.cell? ⟨Q, 0, none⟩ = some (.slice fo m.frames.length fc) ∧ w3.cell? ⟨Q, 1, none⟩ = some (.slice bo m.blocks.length bc) ∧ w3.cell? ⟨Q, 2, none⟩ = some (.slice io m.inp.length ic) ∧ w3.cell? ⟨Q, 3, none⟩ = some (.slice oo m.out.length oc) ∧ w3.cell? ⟨Q, 4, none⟩ = some (.int .i64 m.status) ∧ w3.cell? ⟨Q, 5, none⟩ = some (.int .i64 m.trap)) := by
    obtain ⟨_, a0, a1, a2, a3, a4, a5, a6⟩ := HX3.out
    rw [← HQ.out] at a1 a2 a3 a4 a5 a6
    exact ⟨a0, a1, a2, a3, a4, a5, a6⟩
  obtain ⟨k0, k1, k2, k3, k4, k5, k6⟩ := K.out
  have HBA := Lib.hid (Below.refl w3.heap.size w3).drew
  go_region_held3 (fun w' => w'.cell? ⟨P, 0, none⟩ = some (.slice po p.length pc) ∧ w'.cell? ⟨Q, 0, none⟩ = some (.slice fo m.frames.length fc) ∧ w'.cell? ⟨Q, 1, none⟩ = some (.slice bo m.blocks.length bc) ∧ w'.cell? ⟨Q, 2, none⟩ = some (.slice io m.inp.length ic) ∧ w'.cell? ⟨Q, 3, none⟩ = some (.slice oo m.out.length oc) ∧ w'.cell? ⟨Q, 4, none⟩ = some (.int .i64 m.status) ∧ w'.cell? ⟨Q, 5, none⟩ = some (.int .i64 m.trap)) (first | go_keep | exact kk)
    (first
      | (go_at_call 15; refine (refCheck_any _ _ p m B _ (Nat.le_trans hB (Nat.le_trans HB3.out.size HBA.out.size)) ((HP.out.frame (HB3.out.mono hB)).frame (HBA.out.mono (Nat.le_trans hB HB3.out.size))) ((HM.out.frame (HB3.out.mono hB)).frame (HBA.out.mono (Nat.le_trans hB HB3.out.size)))).mono ?_; rintro e w4 ⟨rfl, hb4⟩; rw [← HCW.out]; have HBA := Lib.hid (via0 HBA.out HBA.out.size hb4); have hcc := (bcell HBA.out).1; have kk : w4.cell? ⟨P, 0, none⟩ = some (.slice po p.length pc) ∧ w4.cell? ⟨Q, 0, none⟩ = some (.slice fo m.frames.length fc) ∧ w4.cell? ⟨Q, 1, none⟩ = some (.slice bo m.blocks.length bc) ∧ w4.cell? ⟨Q, 2, none⟩ = some (.slice io m.inp.length ic) ∧ w4.cell? ⟨Q, 3, none⟩ = some (.slice oo m.out.length oc) ∧ w4.cell? ⟨Q, 4, none⟩ = some (.int .i64 m.status) ∧ w4.cell? ⟨Q, 5, none⟩ = some (.int .i64 m.trap) := ⟨(hcc _ _ HPl.out.1).trans K.out.1, (hcc _ _ HPl.out.2).trans K.out.2.1, (hcc _ _ HPl.out.2).trans K.out.2.2.1, (hcc _ _ HPl.out.2).trans K.out.2.2.2.1, (hcc _ _ HPl.out.2).trans K.out.2.2.2.2.1, (hcc _ _ HPl.out.2).trans K.out.2.2.2.2.2.1, (hcc _ _ HPl.out.2).trans K.out.2.2.2.2.2.2⟩; clear hcc hb4)
      | (go_at_call 16; refine (refCheckFits_any _ p B _ (Nat.le_trans hB (Nat.le_trans HB3.out.size HBA.out.size)) ((HP.out.frame (HB3.out.mono hB)).frame (HBA.out.mono (Nat.le_trans hB HB3.out.size)))).mono ?_; rintro e w4 ⟨rfl, hb4⟩; rw [← HCV.out]; have HBA := Lib.hid (via0 HBA.out HBA.out.size hb4); have hcc := (bcell HBA.out).1; have kk : w4.cell? ⟨P, 0, none⟩ = some (.slice po p.length pc) ∧ w4.cell? ⟨Q, 0, none⟩ = some (.slice fo m.frames.length fc) ∧ w4.cell? ⟨Q, 1, none⟩ = some (.slice bo m.blocks.length bc) ∧ w4.cell? ⟨Q, 2, none⟩ = some (.slice io m.inp.length ic) ∧ w4.cell? ⟨Q, 3, none⟩ = some (.slice oo m.out.length oc) ∧ w4.cell? ⟨Q, 4, none⟩ = some (.int .i64 m.status) ∧ w4.cell? ⟨Q, 5, none⟩ = some (.int .i64 m.trap) := ⟨(hcc _ _ HPl.out.1).trans K.out.1, (hcc _ _ HPl.out.2).trans K.out.2.1, (hcc _ _ HPl.out.2).trans K.out.2.2.1, (hcc _ _ HPl.out.2).trans K.out.2.2.2.1, (hcc _ _ HPl.out.2).trans K.out.2.2.2.2.1, (hcc _ _ HPl.out.2).trans K.out.2.2.2.2.2.1, (hcc _ _ HPl.out.2).trans K.out.2.2.2.2.2.2⟩; clear hcc hb4))
  obtain ⟨kk0, kk1, kk2, kk3, kk4, kk5, kk6⟩ := kk
  have HB4 := Lib.hid (HB3.out.trans (HBA.out.mono HB3.out.size))
  have HX4 := Lib.hid (HX3.out.frame HBA.out)
  have HA4 := Lib.hid (HA3.out.of_block (HBA.out.block _ HA3.out.lt))
  have HBB4 := Lib.hid (HBB3.out.trans (HBA.out.mono (Nat.le_trans (Nat.le_of_eq HB2s.out) HBB3.out.size)))
  clear kk0 kk1 kk2 kk3 kk4 kk5 kk6 k0 k1 k2 k3 k4 k5 k6 HBA K HPl
  iterate 18 (first | go_values | go_skip | go_guarded | go_step | go_upon | go_back | go_simp)
  have hb5 := (Below.refl w4.heap.size w4).alloc (Nat.le_refl _) (.cells #[.slice none 0 0, .slice none 0 0, .slice none 0 0, .slice none 0 0, .int .i64 0, .int .i64 0] 29)
  have HD5 := Lib.hid (row_mach w4 0)
  obtain ⟨D1, hD1⟩ : ∃ D1, D1 = w4.heap.size := ⟨_, rfl⟩
  have HAD : Hid (A1 ≠ D1) := by have := HA4.out.lt; unfold Hid; omega
  have HPD : Hid (P ≠ D1 ∧ Q ≠ D1) := by have := HX4.out.size; have := HQ.out; exact ⟨by omega, by omega⟩
  have HDB5 : Hid (B2 ≤ D1) := by have := HBB4.out.size; have := HB2s.out; unfold Hid; omega
  have HDw : Hid (w.heap.size ≤ D1) := by have := HB4.out.size; unfold Hid; omega
  rw [← hD1] at HD5 ⊢
  have HA5 := Lib.hid (HA4.out.of_block (hb5.block _ HA4.out.lt))
  have HX5 := Lib.hid (HX4.out.frame hb5)
  have HBB5 := Lib.hid (HBB4.out.trans (hb5.mono (Nat.le_trans (Nat.le_of_eq HB2s.out) HBB4.out.size)))
  have HB5 := Lib.hid (HB4.out.trans (hb5.mono HB4.out.size))
  clear hb5 hD1
  generalize (w4.alloc (.cells #[.slice none 0 0, .slice none 0 0, .slice none 0 0, .slice none 0 0, .int .i64 0, .int .i64 0] 29)) = w5 at *
  by_cases hcw : cw = 0
  case' pos =>
    have d : (cw == 0) = true := by simpa using hcw
    have HZ : Hid (Mz.checkMach p m = 0) := by have := HCW.out; unfold Hid; omega
    obtain ⟨hfit, hr⟩ := check_zero HZ.out
    have HFT := Lib.hid (Mz.right_small hfit hr)
    have HI10 := Lib.hid hr.ninp
    have HO10 := Lib.hid hr.nout
    have hT2 := HT.out
    rw [savedOf_pos HZ.out] at hT2
    have HT2 := Lib.hid hT2
    clear hcw hfit hr hT2
    obtain ⟨_, k0, k1, k2, k3, k4, k5, k6⟩ := HX5.out
    rw [← HQ.out] at k1 k2 k3 k4 k5 k6
    have hQ5 : Q < w5.heap.size := by have := HX5.out.size; have := HQ.out; omega
    go_wp2_with fail
    refine (imageOf_any _ m B w5 (HM.out.frame (HB5.out.mono hB)) (Nat.le_trans hB HB5.out.size) HFT.out HI10.out HO10.out).mono ?_
    rintro e w6 ⟨rfl, hb6⟩
    rw [← HT2.out, HBT.out]
    have HB6 := Lib.hid (HB5.out.trans (hb6.mono HB5.out.size))
    have HX6 := Lib.hid (HX5.out.frame hb6)
    have HA6 := Lib.hid (HA5.out.of_block (hb6.block _ HA5.out.lt))
    have HD6 := Lib.hid (HD5.out.of_block (hb6.block _ HD5.out.lt))
    have HBB6 := Lib.hid (HBB5.out.trans (hb6.mono (Nat.le_trans (Nat.le_of_eq HB2s.out) HBB5.out.size)))
    clear hb6 k0 k1 k2 k3 k4 k5 k6 hQ5 d
  case' neg =>
    have d : (cw == 0) = false := by simpa using hcw
    have HZ : Hid (Mz.checkMach p m ≠ 0) := by have := HCW.out; unfold Hid; omega
    have hT2 := HT.out
    rw [savedOf_neg HZ.out] at hT2
    have hbt2 := HBT.out
    rw [hT2] at hbt2
    obtain rfl : bt = { data := #[] } := by
      have : (Str [] : Value) = .string { data := #[] } := rfl
      rw [this] at hbt2
      simpa using hbt2.symm
    clear hcw hT2 hbt2
    obtain ⟨w6, rfl⟩ : ∃ w6, w6 = w5 := ⟨_, rfl⟩
    have HB6 := HB5
    have HX6 := HX5
    have HA6 := HA5
    have HD6 := HD5
    have HBB6 := HBB5
  all_goals
    obtain ⟨s6, k0, k1, k2, k3, k4, k5, k6⟩ := HX6.out
    clear k1 k2 k3 k4 k5 k6
    have HDB : Hid (B2 ≤ D1) := HDB5.out
    have hP6 : P < w6.heap.size := by omega
    clear s6
    by_cases hcv : cv = 0
    case neg =>
      have dv : (cv == 0) = false := by simpa using hcv
      have HVN : Hid (Mz.checkFits p ≠ 0) := by have := HCV.out; unfold Hid; omega
      have HIS : Hid (isB ae cv am zeroM = true) := by
        obtain ⟨e1, e2⟩ := back_fits (s := s) HVN.out
        exact isB_true (by rw [HAE.out, e1, HCV.out]) (by rw [HAM.out, e2]; unfold wantM; split <;> rfl)
      clear hcv
      go_wp2_with fail
      refine (imageBegun_any w6).mono ?_
      rintro e w8 ⟨rfl, hb8⟩
      have HB8 := Lib.hid (HB6.out.trans (hb8.mono HB6.out.size))
      have HA8 := Lib.hid (HA6.out.of_block (hb8.block _ HA6.out.lt))
      have HD8 := Lib.hid (HD6.out.of_block (hb8.block _ HD6.out.lt))
      have HBB8 := HBB6.out.trans (hb8.mono (Nat.le_trans (Nat.le_of_eq HB2s.out) HBB6.out.size))
      have HMA8 := Lib.hid ((HMA.out.frame HBB8).mono (Nat.le_trans (Nat.le_of_eq HB2s.out) HBB8.size))
      clear HBB8
      have HMB8 := Lib.hid (RMach.zero w8 w8.heap.size)
      clear hb8
      have a0 : w8.cell? ⟨A1, 0, none⟩ = some (.slice fo' am.frames.length fc') := HA8.out.cell (i := 0) (by decide)
      have a1 : w8.cell? ⟨A1, 1, none⟩ = some (.slice bo' am.blocks.length bc') := HA8.out.cell (i := 1) (by decide)
      have a2 : w8.cell? ⟨A1, 2, none⟩ = some (.slice io' am.inp.length ic') := HA8.out.cell (i := 2) (by decide)
      have a3 : w8.cell? ⟨A1, 3, none⟩ = some (.slice oo' am.out.length oc') := HA8.out.cell (i := 3) (by decide)
      have a4 : w8.cell? ⟨A1, 4, none⟩ = some (.int .i64 am.status) := HA8.out.cell (i := 4) (by decide)
      have a5 : w8.cell? ⟨A1, 5, none⟩ = some (.int .i64 am.trap) := HA8.out.cell (i := 5) (by decide)
      have b0 : w8.cell? ⟨D1, 0, none⟩ = some (.slice none 0 0) := HD8.out.cell (i := 0) (by decide)
      have b1 : w8.cell? ⟨D1, 1, none⟩ = some (.slice none 0 0) := HD8.out.cell (i := 1) (by decide)
      have b2 : w8.cell? ⟨D1, 2, none⟩ = some (.slice none 0 0) := HD8.out.cell (i := 2) (by decide)
      have b3 : w8.cell? ⟨D1, 3, none⟩ = some (.slice none 0 0) := HD8.out.cell (i := 3) (by decide)
      have b4 : w8.cell? ⟨D1, 4, none⟩ = some (.int .i64 0) := HD8.out.cell (i := 4) (by decide)
      have b5 : w8.cell? ⟨D1, 5, none⟩ = some (.int .i64 0) := HD8.out.cell (i := 5) (by decide)
      go_wp2_with fail
      refine (machineIs_any _ _ am zeroM ae cv w8.heap.size w8 HMA8.out HMB8.out (Nat.le_refl _)).mono ?_
      rintro e w9 ⟨rfl, hb9⟩
      rw [HIS.out]
      have HB9 := Lib.hid (HB8.out.trans (hb9.mono HB8.out.size))
      clear hb9
      go_wp2_with fail
      go_ret
      exact ⟨rfl, HB9.out⟩
    case pos =>
      have dv : (cv == 0) = true := by simpa using hcv
      have HVZ : Hid (Mz.checkFits p = 0) := by have := HCV.out; unfold Hid; omega
      clear hcv
      go_wp2_with fail
      have hmm := machineOf_any w6 s hs
      rw [HBS.out] at hmm
      refine hmm.mono ?_
      clear hmm
      rintro e w7 ⟨hb7, hres⟩
      have HB7 := Lib.hid (HB6.out.trans (hb7.mono HB6.out.size))
      have HX7 := Lib.hid (HX6.out.frame hb7)
      have HA7 := Lib.hid (HA6.out.of_block (hb7.block _ HA6.out.lt))
      have HD7 := Lib.hid (HD6.out.of_block (hb7.block _ HD6.out.lt))
      have HBB7 := Lib.hid (HBB6.out.trans (hb7.mono (Nat.le_trans (Nat.le_of_eq HB2s.out) HBB6.out.size)))
      clear hb7 k0 hP6
      rcases hres with ⟨x, v, hx, rfl, hmk, hsm⟩ | ⟨hx, rfl⟩
      · obtain ⟨fx, bx, ix, ox, gx, hx', jx, lx, rfl⟩ := (hmk.rmach hsm).open6
        have HX := Lib.hid hx
        have HSM := Lib.hid hsm
        have HMX := Lib.hid hmk
        clear hx hsm hmk
        iterate 26 (first | go_values | go_skip | go_guarded | go_step | go_upon | go_back | go_simp)
        have hb8 := (Below.refl w7.heap.size w7).alloc (Nat.le_refl _) (.cells #[.slice fx x.frames.length gx, .slice bx x.blocks.length hx', .slice ix x.inp.length jx, .slice ox x.out.length lx, .int .i64 x.status, .int .i64 x.trap] 29)
        have HE8 := Lib.hid (row_machA w7 fx bx ix ox x.frames.length gx x.blocks.length hx' x.inp.length jx x.out.length lx x.status x.trap)
        obtain ⟨E1, hE1⟩ : ∃ E1, E1 = w7.heap.size := ⟨_, rfl⟩
        have hED : E1 ≠ D1 := by have := HD7.out.lt; omega
        have hDE : D1 ≠ E1 := Ne.symm hED
        rw [← hE1] at HE8 ⊢
        have HA8 := Lib.hid (HA7.out.of_block (hb8.block _ HA7.out.lt))
        have HD8 := Lib.hid (HD7.out.of_block (hb8.block _ HD7.out.lt))
        have HBB8 := Lib.hid (HBB7.out.trans (hb8.mono (Nat.le_trans (Nat.le_of_eq HB2s.out) HBB7.out.size)))
        have HB8 := Lib.hid (HB7.out.trans (hb8.mono HB7.out.size))
        have HMX8 := Lib.hid (mkMach.bes HMX.out (T := 143) (Bes.of_below hb8) (by decide))
        clear hb8 hE1
        generalize (w7.alloc (.cells #[.slice fx x.frames.length gx, .slice bx x.blocks.length hx', .slice ix x.inp.length jx, .slice ox x.out.length lx, .int .i64 x.status, .int .i64 x.trap] 29)) = w8 at *
        have e0 : w8.cell? ⟨E1, 0, none⟩ = some (.slice fx x.frames.length gx) := HE8.out.cell (i := 0) (by decide)
        have e1 : w8.cell? ⟨E1, 1, none⟩ = some (.slice bx x.blocks.length hx') := HE8.out.cell (i := 1) (by decide)
        have e2 : w8.cell? ⟨E1, 2, none⟩ = some (.slice ix x.inp.length jx) := HE8.out.cell (i := 2) (by decide)
        have e3 : w8.cell? ⟨E1, 3, none⟩ = some (.slice ox x.out.length lx) := HE8.out.cell (i := 3) (by decide)
        have e4 : w8.cell? ⟨E1, 4, none⟩ = some (.int .i64 x.status) := HE8.out.cell (i := 4) (by decide)
        have e5 : w8.cell? ⟨E1, 5, none⟩ = some (.int .i64 x.trap) := HE8.out.cell (i := 5) (by decide)
        have d0 : w8.cell? ⟨D1, 0, none⟩ = some (.slice none 0 0) := HD8.out.cell (i := 0) (by decide)
        have d1 : w8.cell? ⟨D1, 1, none⟩ = some (.slice none 0 0) := HD8.out.cell (i := 1) (by decide)
        have d2 : w8.cell? ⟨D1, 2, none⟩ = some (.slice none 0 0) := HD8.out.cell (i := 2) (by decide)
        have d3 : w8.cell? ⟨D1, 3, none⟩ = some (.slice none 0 0) := HD8.out.cell (i := 3) (by decide)
        have d4 : w8.cell? ⟨D1, 4, none⟩ = some (.int .i64 0) := HD8.out.cell (i := 4) (by decide)
        have d5 : w8.cell? ⟨D1, 5, none⟩ = some (.int .i64 0) := HD8.out.cell (i := 5) (by decide)
        have z0 := HD8.out.frozen 0
        have z1 := HD8.out.frozen 1
        have z2 := HD8.out.frozen 2
        have z3 := HD8.out.frozen 3
        have z4 := HD8.out.frozen 4
        have z5 := HD8.out.frozen 5
        have lE := HE8.out.lt
        have lD := HD8.out.lt
        have k0 : w8.cell? ⟨P, 0, none⟩ = some (.slice po p.length pc) := ((bcell HBB8.out).1 _ _ HPB.out).trans HX2.out.p0
        have hPD := HPD.out.1
        have hDP : D1 ≠ P := Ne.symm hPD
        have lP : P < w8.heap.size := Nat.lt_of_lt_of_le HPB.out (Nat.le_trans (Nat.le_of_eq HB2s.out) HBB8.out.size)
        go_wp2_with fail
        obtain ⟨on, _⟩ := set_six HD8.out (.slice fx x.frames.length gx) (.slice bx x.blocks.length hx') (.slice ix x.inp.length jx) (.slice ox x.out.length lx) (.int .i64 x.status) (.int .i64 x.trap)
        have hd9 := row_six HD8.out (.slice fx x.frames.length gx) (.slice bx x.blocks.length hx') (.slice ix x.inp.length jx) (.slice ox x.out.length lx) (x.status) (x.trap)
        obtain ⟨w9, hw9⟩ : ∃ w9, w9 = ((((((w8.setCell ⟨D1, 0, none⟩ (.slice fx x.frames.length gx)).setCell ⟨D1, 1, none⟩ (.slice bx x.blocks.length hx')).setCell ⟨D1, 2, none⟩ (.slice ix x.inp.length jx)).setCell ⟨D1, 3, none⟩ (.slice ox x.out.length lx)).setCell ⟨D1, 4, none⟩ (.int .i64 x.status)).setCell ⟨D1, 5, none⟩ (.int .i64 x.trap)) := ⟨_, rfl⟩
        rw [← hw9] at on hd9 ⊢
        have HD9 := Lib.hid hd9
        have HA9 := Lib.hid (HA8.out.of_block (on.block _ HAD.out))
        have HBB9 := Lib.hid (HBB8.out.trans (on.below HDB.out))
        have HB9 := Lib.hid (HB8.out.trans (on.below HDw.out))
        have HMX9 := Lib.hid (mkMach.bes HMX8.out (Bes.of_only HD8.out on) (by decide))
        clear on hd9 hw9 e0 e1 e2 e3 e4 e5 d0 d1 d2 d3 d4 d5 z0 z1 z2 z3 z4 z5 lE lD k0 lP
        refine (refRight_any _ _ p x w9.heap.size w9 (Nat.le_refl _) ((HP.out.frame (HB9.out.mono hB)).mono (Nat.le_trans hB HB9.out.size)) (HMX9.out.rmach HSM.out) HVZ.out).mono ?_
        rintro e w10 ⟨rfl, hb10⟩
        have HB10 := Lib.hid (HB9.out.trans (hb10.mono HB9.out.size))
        have HA10 := Lib.hid (HA9.out.of_block (hb10.block _ HA9.out.lt))
        have HD10 := Lib.hid (HD9.out.of_block (hb10.block _ HD9.out.lt))
        have HBB10 := Lib.hid (HBB9.out.trans (hb10.mono (Nat.le_trans (Nat.le_of_eq HB2s.out) HBB9.out.size)))
        have HMX10 := Lib.hid (mkMach.bes HMX9.out (T := 143) (Bes.of_below hb10) (by decide))
        have HIS : Hid (isB ae (Mz.checkRight p x) am x = true) := by
          by_cases h3 : Mz.checkRight p x = 0
          · obtain ⟨e1, e2⟩ := back_right HVZ.out HX.out h3
            exact isB_true (by rw [HAE.out, e1, h3]) (by rw [HAM.out, e2]; unfold wantM; rw [if_pos h3])
          · obtain ⟨e1, e2⟩ := back_wrong HVZ.out HX.out h3
            exact isB_true (by rw [HAE.out, e1]) (by rw [HAM.out, e2]; unfold wantM; rw [if_neg h3])
        obtain ⟨cr, hcr⟩ : ∃ cr, cr = Mz.checkRight p x := ⟨_, rfl⟩
        rw [← hcr] at HIS ⊢
        clear hb10 hcr
        go_wp2_with fail
        refine (imageBegun_any w10).mono ?_
        rintro e w11 ⟨rfl, hbM⟩
        have HB11 := Lib.hid (HB10.out.trans (hbM.mono HB10.out.size))
        have HA11 := Lib.hid (HA10.out.of_block (hbM.block _ HA10.out.lt))
        have HD11 := Lib.hid (HD10.out.of_block (hbM.block _ HD10.out.lt))
        have hbb := HBB10.out.trans (hbM.mono (Nat.le_trans (Nat.le_of_eq HB2s.out) HBB10.out.size))
        have HMA11 := Lib.hid ((HMA.out.frame hbb).mono (Nat.le_trans (Nat.le_of_eq HB2s.out) hbb.size))
        have HMB11 : Hid (RMach w11 w11.heap.size (.agg #[.slice fx x.frames.length gx, .slice bx x.blocks.length hx', .slice ix x.inp.length jx, .slice ox x.out.length lx, .int .i64 x.status, .int .i64 x.trap]) x) := (mkMach.bes HMX10.out (T := 143) (Bes.of_below hbM) (by decide)).rmach HSM.out
        clear hbM hbb
        have p0 : w11.cell? ⟨A1, 0, none⟩ = some (.slice fo' am.frames.length fc') := HA11.out.cell (i := 0) (by decide)
        have p1 : w11.cell? ⟨A1, 1, none⟩ = some (.slice bo' am.blocks.length bc') := HA11.out.cell (i := 1) (by decide)
        have p2 : w11.cell? ⟨A1, 2, none⟩ = some (.slice io' am.inp.length ic') := HA11.out.cell (i := 2) (by decide)
        have p3 : w11.cell? ⟨A1, 3, none⟩ = some (.slice oo' am.out.length oc') := HA11.out.cell (i := 3) (by decide)
        have p4 : w11.cell? ⟨A1, 4, none⟩ = some (.int .i64 am.status) := HA11.out.cell (i := 4) (by decide)
        have p5 : w11.cell? ⟨A1, 5, none⟩ = some (.int .i64 am.trap) := HA11.out.cell (i := 5) (by decide)
        have q0 : w11.cell? ⟨D1, 0, none⟩ = some (.slice fx x.frames.length gx) := HD11.out.cell (i := 0) (by decide)
        have q1 : w11.cell? ⟨D1, 1, none⟩ = some (.slice bx x.blocks.length hx') := HD11.out.cell (i := 1) (by decide)
        have q2 : w11.cell? ⟨D1, 2, none⟩ = some (.slice ix x.inp.length jx) := HD11.out.cell (i := 2) (by decide)
        have q3 : w11.cell? ⟨D1, 3, none⟩ = some (.slice ox x.out.length lx) := HD11.out.cell (i := 3) (by decide)
        have q4 : w11.cell? ⟨D1, 4, none⟩ = some (.int .i64 x.status) := HD11.out.cell (i := 4) (by decide)
        have q5 : w11.cell? ⟨D1, 5, none⟩ = some (.int .i64 x.trap) := HD11.out.cell (i := 5) (by decide)
        go_wp2_with fail
        refine (machineIs_any _ _ am x ae cr w11.heap.size w11 HMA11.out HMB11.out (Nat.le_refl _)).mono ?_
        rintro e w12 ⟨rfl, hbL⟩
        rw [HIS.out]
        have HB12 := Lib.hid (HB11.out.trans (hbL.mono HB11.out.size))
        clear hbL
        go_wp2_with fail
        go_ret
        exact ⟨rfl, HB12.out⟩
      · have HX := Lib.hid hx
        clear hx
        iterate 26 (first | go_values | go_skip | go_guarded | go_step | go_upon | go_back | go_simp)
        have hb8 := (Below.refl w7.heap.size w7).alloc (Nat.le_refl _) (.cells #[.slice none 0 0, .slice none 0 0, .slice none 0 0, .slice none 0 0, .int .i64 0, .int .i64 0] 29)
        have HE8 := Lib.hid (row_mach w7 0)
        obtain ⟨E1, hE1⟩ : ∃ E1, E1 = w7.heap.size := ⟨_, rfl⟩
        have hED : E1 ≠ D1 := by have := HD7.out.lt; omega
        have hDE : D1 ≠ E1 := Ne.symm hED
        rw [← hE1] at HE8 ⊢
        have HA8 := Lib.hid (HA7.out.of_block (hb8.block _ HA7.out.lt))
        have HD8 := Lib.hid (HD7.out.of_block (hb8.block _ HD7.out.lt))
        have HBB8 := Lib.hid (HBB7.out.trans (hb8.mono (Nat.le_trans (Nat.le_of_eq HB2s.out) HBB7.out.size)))
        have HB8 := Lib.hid (HB7.out.trans (hb8.mono HB7.out.size))
        clear hb8 hE1
        generalize (w7.alloc (.cells #[.slice none 0 0, .slice none 0 0, .slice none 0 0, .slice none 0 0, .int .i64 0, .int .i64 0] 29)) = w8 at *
        have e0 : w8.cell? ⟨E1, 0, none⟩ = some (.slice none 0 0) := HE8.out.cell (i := 0) (by decide)
        have e1 : w8.cell? ⟨E1, 1, none⟩ = some (.slice none 0 0) := HE8.out.cell (i := 1) (by decide)
        have e2 : w8.cell? ⟨E1, 2, none⟩ = some (.slice none 0 0) := HE8.out.cell (i := 2) (by decide)
        have e3 : w8.cell? ⟨E1, 3, none⟩ = some (.slice none 0 0) := HE8.out.cell (i := 3) (by decide)
        have e4 : w8.cell? ⟨E1, 4, none⟩ = some (.int .i64 0) := HE8.out.cell (i := 4) (by decide)
        have e5 : w8.cell? ⟨E1, 5, none⟩ = some (.int .i64 0) := HE8.out.cell (i := 5) (by decide)
        have d0 : w8.cell? ⟨D1, 0, none⟩ = some (.slice none 0 0) := HD8.out.cell (i := 0) (by decide)
        have d1 : w8.cell? ⟨D1, 1, none⟩ = some (.slice none 0 0) := HD8.out.cell (i := 1) (by decide)
        have d2 : w8.cell? ⟨D1, 2, none⟩ = some (.slice none 0 0) := HD8.out.cell (i := 2) (by decide)
        have d3 : w8.cell? ⟨D1, 3, none⟩ = some (.slice none 0 0) := HD8.out.cell (i := 3) (by decide)
        have d4 : w8.cell? ⟨D1, 4, none⟩ = some (.int .i64 0) := HD8.out.cell (i := 4) (by decide)
        have d5 : w8.cell? ⟨D1, 5, none⟩ = some (.int .i64 0) := HD8.out.cell (i := 5) (by decide)
        have z0 := HD8.out.frozen 0
        have z1 := HD8.out.frozen 1
        have z2 := HD8.out.frozen 2
        have z3 := HD8.out.frozen 3
        have z4 := HD8.out.frozen 4
        have z5 := HD8.out.frozen 5
        have lE := HE8.out.lt
        have lD := HD8.out.lt
        go_wp2_with fail
        obtain ⟨on, _⟩ := set_six HD8.out (.slice none 0 0) (.slice none 0 0) (.slice none 0 0) (.slice none 0 0) (.int .i64 0) (.int .i64 0)
        have hd9 := row_six HD8.out (.slice none 0 0) (.slice none 0 0) (.slice none 0 0) (.slice none 0 0) (0) (0)
        obtain ⟨w9, hw9⟩ : ∃ w9, w9 = ((((((w8.setCell ⟨D1, 0, none⟩ (.slice none 0 0)).setCell ⟨D1, 1, none⟩ (.slice none 0 0)).setCell ⟨D1, 2, none⟩ (.slice none 0 0)).setCell ⟨D1, 3, none⟩ (.slice none 0 0)).setCell ⟨D1, 4, none⟩ (.int .i64 0)).setCell ⟨D1, 5, none⟩ (.int .i64 0)) := ⟨_, rfl⟩
        rw [← hw9] at on hd9 ⊢
        have HD9 := Lib.hid hd9
        have HA9 := Lib.hid (HA8.out.of_block (on.block _ HAD.out))
        have HBB9 := Lib.hid (HBB8.out.trans (on.below HDB.out))
        have HB9 := Lib.hid (HB8.out.trans (on.below HDw.out))
        clear on hd9 hw9 e0 e1 e2 e3 e4 e5 d0 d1 d2 d3 d4 d5 z0 z1 z2 z3 z4 z5 lE lD
        have HIS : Hid (isB ae 1 am zeroM = true) := by
          obtain ⟨e1, e2⟩ := back_none HVZ.out HX.out
          exact isB_true (by rw [HAE.out, e1]) (by rw [HAM.out, e2]; unfold wantM; split <;> rfl)
        refine (imageBegun_any w9).mono ?_
        rintro e w10 ⟨rfl, hbM⟩
        have HB10 := Lib.hid (HB9.out.trans (hbM.mono HB9.out.size))
        have HA10 := Lib.hid (HA9.out.of_block (hbM.block _ HA9.out.lt))
        have HD10 := Lib.hid (HD9.out.of_block (hbM.block _ HD9.out.lt))
        have hbb := HBB9.out.trans (hbM.mono (Nat.le_trans (Nat.le_of_eq HB2s.out) HBB9.out.size))
        have HMA10 := Lib.hid ((HMA.out.frame hbb).mono (Nat.le_trans (Nat.le_of_eq HB2s.out) hbb.size))
        have HMB10 : Hid (RMach w10 w10.heap.size (.agg #[.slice none 0 0, .slice none 0 0, .slice none 0 0, .slice none 0 0, .int .i64 0, .int .i64 0]) zeroM) := RMach.zero _ _
        clear hbM hbb
        have p0 : w10.cell? ⟨A1, 0, none⟩ = some (.slice fo' am.frames.length fc') := HA10.out.cell (i := 0) (by decide)
        have p1 : w10.cell? ⟨A1, 1, none⟩ = some (.slice bo' am.blocks.length bc') := HA10.out.cell (i := 1) (by decide)
        have p2 : w10.cell? ⟨A1, 2, none⟩ = some (.slice io' am.inp.length ic') := HA10.out.cell (i := 2) (by decide)
        have p3 : w10.cell? ⟨A1, 3, none⟩ = some (.slice oo' am.out.length oc') := HA10.out.cell (i := 3) (by decide)
        have p4 : w10.cell? ⟨A1, 4, none⟩ = some (.int .i64 am.status) := HA10.out.cell (i := 4) (by decide)
        have p5 : w10.cell? ⟨A1, 5, none⟩ = some (.int .i64 am.trap) := HA10.out.cell (i := 5) (by decide)
        have q0 : w10.cell? ⟨D1, 0, none⟩ = some (.slice none 0 0) := HD10.out.cell (i := 0) (by decide)
        have q1 : w10.cell? ⟨D1, 1, none⟩ = some (.slice none 0 0) := HD10.out.cell (i := 1) (by decide)
        have q2 : w10.cell? ⟨D1, 2, none⟩ = some (.slice none 0 0) := HD10.out.cell (i := 2) (by decide)
        have q3 : w10.cell? ⟨D1, 3, none⟩ = some (.slice none 0 0) := HD10.out.cell (i := 3) (by decide)
        have q4 : w10.cell? ⟨D1, 4, none⟩ = some (.int .i64 0) := HD10.out.cell (i := 4) (by decide)
        have q5 : w10.cell? ⟨D1, 5, none⟩ = some (.int .i64 0) := HD10.out.cell (i := 5) (by decide)
        go_wp2_with fail
        refine (machineIs_any _ _ am zeroM ae 1 w10.heap.size w10 HMA10.out HMB10.out (Nat.le_refl _)).mono ?_
        rintro e w11 ⟨rfl, hbL⟩
        rw [HIS.out]
        have HB11 := Lib.hid (HB10.out.trans (hbL.mono HB10.out.size))
        clear hbL
        go_wp2_with fail
        go_ret
        exact ⟨rfl, HB11.out⟩
end Go.Proofs.YthdomhejkbpabaaGreat

/- From arguments that can be read as data to the plain lists and records that they tell. -/
namespace Go.Proofs.YthdomhejkbpabaaGreat
open Go.RowKit Go.ChangeShapes Go.WideShapes Go.Deep

section
variable {H : Type} {enc : TypeId × Value → H} {w : World} {spare : Nat → Bool} {held : Bool}
/-- all that a datum leads to is within the reach -/
def Light (P : Program) (t : TypeId) (d : DataW H) : Prop := ∀ n ∈ d.weights P t, n ≤ reachBytes
theorem Light.each {P : Program} {ts : List TypeId} {ds : List (DataW H)} (h : ∀ n ∈ DataW.weightsEach P ts ds, n ≤ reachBytes) {j : Nat} {t : TypeId} {d : DataW H} (ht : ts[j]? = some t) (hd : ds[j]? = some d) : Light P t d :=
  fun n hn => h n (DataW.weights_mem_each ht hd n hn)
theorem weights_mem_all {P : Program} {e : TypeId} : ∀ {l : List (DataW H)} {d : DataW H}, d ∈ l → ∀ n ∈ d.weights P e, n ∈ DataW.weightsAll P e l
  | d0 :: r, d, hd, n, hn => by
    simp only [DataW.weightsAll, List.mem_append]
    rcases List.mem_cons.1 hd with rfl | hd
    · exact .inl hn
    · exact .inr (weights_mem_all hd n hn)
theorem Light.slice {P : Program} {t e : TypeId} {elems rest : List (DataW H)} (hu : P.underlying t = some (.slice e)) (h : Light P t (.slice elems rest)) : elems.length * P.bytesOf e ≤ reachBytes ∧ ∀ d ∈ elems, Light P e d := by
  unfold Light at h
  simp only [DataW.weights, hu, List.mem_cons, List.mem_append] at h
  refine ⟨?_, fun d hd n hn => h n (.inr (.inl (weights_mem_all hd n hn)))⟩
  have := h _ (.inl rfl)
  exact Nat.le_trans (Nat.mul_le_mul_right _ (Nat.le_add_right _ _)) this
theorem Light.struct {P : Program} {t : TypeId} {fs : Array Field} {parts : List (DataW H)} (hu : P.underlying t = some (.struct fs)) (h : Light P t (.agg parts)) {j : Nat} {f : Field} {d : DataW H} (hf : fs[j]? = some f) (hd : parts[j]? = some d) : Light P f.type d := by
  unfold Light at h
  simp only [DataW.weights, hu] at h
  refine Light.each (ts := fs.toList.map (·.type)) h (j := j) ?_ hd
  rw [List.getElem?_map, Array.getElem?_toList, hf]; rfl

/-- a struct whose fields have one cell each: its cells, field by field -/
theorem struct_cells {P : Program} {base : Nat} {e : TypeId} {fs : Array Field} {fuel : Nat} {cs : List Value} {y : DataW H × List MemPlace} (he : P.underlying e = some (.struct fs)) (hone : oneCellFields P fs = true) (hC : P.cellsOf e = fs.size)
    (h : DataW.trod enc P w base spare held fuel e cs = some y) :
    ∃ (ys : List (DataW H × List MemPlace)) (n : Nat), y.1 = .agg (ys.map (·.1)) ∧ cs.length = fs.size ∧
      ∀ (j : Nat) (f : Field), fs[j]? = some f → ∃ (v : Value) (x : DataW H × List MemPlace), cs[j]? = some v ∧ ys[j]? = some x ∧ DataW.trod enc P w base spare held n f.type [v] = some x := by
  obtain ⟨ys, n, _, rfl, hl, hyl, hf⟩ := DataW.trod_struct he h
  rw [hC] at hl
  refine ⟨ys, n, rfl, hl, fun j f hj => ?_⟩
  obtain ⟨ho, hk⟩ := hone_of hone j f hj
  have hjl : j < fs.size := (Array.getElem?_eq_some_iff.1 hj).1
  have h1 := hf j f hj
  rw [ho, hk] at h1
  have hone' : (cs.drop j).take 1 = [cs[j]'(by omega)] := by
    rw [List.drop_eq_getElem_cons (by omega)]
    rfl
  rw [hone'] at h1
  have hys : ys[j]? = some (ys[j]'(by omega)) := List.getElem?_eq_getElem (by omega)
  exact ⟨_, _, List.getElem?_eq_getElem (by omega), hys, h1.trans hys⟩
/-- one thing for each place is a list of things -/
theorem list_of {α : Type} {Q : Nat → α → Prop} : ∀ (n : Nat), (∀ i, i < n → ∃ x, Q i x) → ∃ l : List α, l.length = n ∧ ∀ i x, l[i]? = some x → Q i x
  | 0, _ => ⟨[], rfl, fun i x h => by simp at h⟩
  | n + 1, h => by
    obtain ⟨l, hl, hq⟩ := list_of n (fun i hi => h i (by omega))
    obtain ⟨x, hx⟩ := h n (by omega)
    refine ⟨l ++ [x], by simp [hl], fun i y hy => ?_⟩
    by_cases c : i < n
    · rw [List.getElem?_append_left (by omega)] at hy; exact hq i y hy
    · rw [List.getElem?_append_right (by omega), hl] at hy
      have hi : i = n := by
        rcases Nat.lt_or_ge (i - n) 1 with h1 | h1
        · omega
        · rw [List.getElem?_eq_none (by simpa using h1)] at hy; cases hy
      subst hi
      simp at hy; subst hy; exact hx
theorem flat_split {α : Type} {f : α → List Value} {sz : Nat} (hf : ∀ x, (f x).length = sz) (h0 : 0 < sz) (l : List α) (j : Nat) (u : Value) (h : (l.flatMap f)[j]? = some u) : ∃ x, l[j / sz]? = some x ∧ (f x)[j % sz]? = some u := by
  induction l generalizing j with
  | nil => simp at h
  | cons a l ih =>
    rw [List.flatMap_cons] at h
    by_cases c : j < sz
    · rw [List.getElem?_append_left (by rw [hf]; exact c)] at h
      rw [Nat.div_eq_of_lt c, Nat.mod_eq_of_lt c]
      exact ⟨a, rfl, h⟩
    · rw [List.getElem?_append_right (by rw [hf]; omega), hf] at h
      obtain ⟨x, h1, h2⟩ := ih _ h
      have e1 : j / sz = (j - sz) / sz + 1 := by
        rw [← Nat.div_eq_sub_div h0 (by omega)]
      have e2 : j % sz = (j - sz) % sz := by rw [Nat.mod_eq_sub_mod (by omega)]
      rw [e1, e2]
      exact ⟨x, by simpa using h1, h2⟩
/-- a slice that can be read, element by element -/
theorem sl_of_trod {P : Program} {t e : TypeId} {fuel sz : Nat} {cs : List Value} {x : DataW H × List MemPlace} (ht : P.underlying t = some (.slice e)) (hC : P.cellsOf e = sz) (h0 : 0 < sz) (hby : 8 * sz ≤ P.bytesOf e)
    (h : DataW.trod enc P w 0 spare held fuel t cs = some x) (hl : Light P t x.1) {α : Type} (f : α → List Value) (hf : ∀ a, (f a).length = sz) (Q : α → Prop)
    (hel : ∀ n cs' y, DataW.trod enc P w 0 spare held n e cs' = some y → Light P e y.1 → ∃ a, cs' = f a ∧ Q a) :
    ∃ (v : Value) (l : List α), cs = [v] ∧ Sl w w.heap.size v l.length sz (l.flatMap f) ∧ ∀ a ∈ l, Q a := by
  rcases open_slice ht h with ⟨rfl, _⟩ | ⟨ad, len, cap, m, n, D, Pl, rfl, _, hlc, hcm, hm, rfl, hi⟩
  · exact ⟨_, [], rfl, Sl.nil _ _ _, (fun a ha => by cases ha)⟩
  obtain ⟨hlen, hels⟩ := Light.slice ht hl
  have hlm : len ≤ m := by rw [hm]; split <;> omega
  have hmem : ∀ i, i < len → ∃ a, (∃ cs', w.cells? 0 (ad.add (i * sz)) sz = some cs' ∧ cs' = f a) ∧ Q a := fun i hil => by
    obtain ⟨cs', hc, htr⟩ := hi i (by omega)
    rw [hC] at hc
    obtain ⟨a, rfl, hq⟩ := hel _ _ _ htr (hels _ (List.mem_map.2 ⟨i, List.mem_range.2 hil, rfl⟩))
    exact ⟨a, ⟨_, hc, rfl⟩, hq⟩
  obtain ⟨l, hll, hq⟩ := list_of len hmem
  subst hll
  have hn : l.length * P.bytesOf e ≤ 140737488351232 := by simpa [reachBytes] using hlen
  refine ⟨_, l, rfl, ⟨some ad, cap, rfl, flat_len hf l, hlc, hcm, Nat.le_trans (Nat.mul_le_mul_left _ hby) hn, (fun h => by cases h), fun hp => ?_⟩, fun a ha => ?_⟩
  · obtain ⟨⟨cs', hc, hcf⟩, _⟩ := hq 0 _ (List.getElem?_eq_getElem hp)
    obtain ⟨_, hcl, hat⟩ := World.cells?_some hc
    have h00 := hat 0 h0
    obtain ⟨u0, hu0⟩ : ∃ u0, cs'[0]? = some u0 := ⟨_, List.getElem?_eq_getElem (by omega)⟩
    rw [hu0] at h00
    have hspot : ad.spot = none := by simpa [Addr.add] using World.cell?_spot h00
    obtain ⟨b, o, sp⟩ := ad
    simp only at hspot
    subst hspot
    refine ⟨b, o, rfl, ?_, fun j u hj => ?_⟩
    · have := World.cells?_block hc h0
      simpa [Addr.add_lit] using this
    · obtain ⟨a, ha, hu⟩ := flat_split hf h0 l j u hj
      obtain ⟨⟨cs2, hc2, rfl⟩, _⟩ := hq _ _ ha
      obtain ⟨_, hcl2, hat2⟩ := World.cells?_some hc2
      have := hat2 (j % sz) (Nat.mod_lt _ h0)
      rw [hu] at this
      rw [← this]
      congr 1
      rw [Addr.add_lit, Addr.add_lit]
      have e : o + j = o + j / sz * sz + j % sz := by rw [Nat.add_assoc, Nat.mul_comm, Nat.div_add_mod]
      rw [e]
  · obtain ⟨i, hil, rfl⟩ := List.mem_iff_getElem.1 ha
    exact (hq i _ (List.getElem?_eq_getElem hil)).2
end
end Go.Proofs.YthdomhejkbpabaaGreat

/- Programs and machines that came as arguments, as plain data. -/
namespace Go.Proofs.YthdomhejkbpabaaGreat
open Go.RowKit Go.ChangeShapes Go.WideShapes Go.Deep

section
variable {H : Type} {enc : TypeId × Value → H} {w : World} {spare : Nat → Bool} {held : Bool}
theorem flat_one {α β : Type} (f : α → β) : ∀ (l : List α), l.flatMap (fun x => [f x]) = l.map f
  | [] => rfl
  | a :: l => by rw [List.flatMap_cons, flat_one f l]; rfl
theorem bytes_int : Tryz.prog.bytesOf 3 = 8 := by kernel_rfl
theorem bytes_op : Tryz.prog.bytesOf 49 = 16 := by kernel_rfl
theorem bytes_val : Tryz.prog.bytesOf 103 = 16 := by kernel_rfl
theorem bytes_ints : Tryz.prog.bytesOf 27 = 24 := by kernel_rfl
theorem bytes_fun : Tryz.prog.bytesOf 110 = 64 := by kernel_rfl
theorem bytes_frm : Tryz.prog.bytesOf 97 = 64 := by kernel_rfl
theorem read_ints {fuel : Nat} {cs : List Value} {x : DataW H × List MemPlace} (h : DataW.trod enc Tryz.prog w 0 spare held fuel 27 cs = some x) (hl : Light Tryz.prog 27 x.1) : ∃ v l, cs = [v] ∧ RInts w w.heap.size v l := by
  obtain ⟨v, l, h1, h2, _⟩ := sl_of_trod (sz := 1) Tryz.underlying27 (by kernel_rfl) (by decide) (by rw [bytes_int]; decide) h hl (fun n : Int => [Value.int .i64 n]) (fun _ => rfl) (fun _ => True) (fun n cs' y htr _ => by
    obtain ⟨k, rfl, _⟩ := DataW.trod_int Tryz.underlying3 htr
    exact ⟨k, rfl, trivial⟩)
  rw [flat_one] at h2
  exact ⟨v, l, h1, h2⟩
theorem read_ops {fuel : Nat} {cs : List Value} {x : DataW H × List MemPlace} (h : DataW.trod enc Tryz.prog w 0 spare held fuel 108 cs = some x) (hl : Light Tryz.prog 108 x.1) : ∃ v l, cs = [v] ∧ ROps w w.heap.size v l := by
  obtain ⟨v, l, h1, h2, _⟩ := sl_of_trod (sz := 2) Tryz.underlying108 (by kernel_rfl) (by decide) (by rw [bytes_op]; decide) h hl opCells (fun _ => rfl) (fun _ => True) (fun n cs' y htr _ => by
    obtain ⟨ys, m, _, hcl, hf⟩ := struct_cells Tryz.underlying49 (by kernel_rfl) (by kernel_rfl) htr
    obtain ⟨v0, x0, c0, _, t0⟩ := hf 0 _ rfl
    obtain ⟨v1, x1, c1, _, t1⟩ := hf 1 _ rfl
    obtain ⟨a, e0, _⟩ := DataW.trod_int Tryz.underlying3 t0
    obtain ⟨b, e1, _⟩ := DataW.trod_int Tryz.underlying3 t1
    obtain rfl : v0 = .int .i64 a := by simpa using e0
    obtain rfl : v1 = .int .i64 b := by simpa using e1
    match cs', hcl, c0, c1 with
    | [u0, u1], _, c0, c1 =>
      simp only [List.getElem?_cons_zero, List.getElem?_cons_succ, Option.some.injEq] at c0 c1
      exact ⟨⟨a, b⟩, by rw [c0, c1]; rfl, trivial⟩)
  exact ⟨v, l, h1, h2⟩
theorem read_vals {fuel : Nat} {cs : List Value} {x : DataW H × List MemPlace} (h : DataW.trod enc Tryz.prog w 0 spare held fuel 95 cs = some x) (hl : Light Tryz.prog 95 x.1) : ∃ v l, cs = [v] ∧ RVals w w.heap.size v l := by
  obtain ⟨v, l, h1, h2, _⟩ := sl_of_trod (sz := 2) Tryz.underlying95 (by kernel_rfl) (by decide) (by rw [bytes_val]; decide) h hl valCells (fun _ => rfl) (fun _ => True) (fun n cs' y htr _ => by
    obtain ⟨ys, m, _, hcl, hf⟩ := struct_cells Tryz.underlying103 (by kernel_rfl) (by kernel_rfl) htr
    obtain ⟨v0, x0, c0, _, t0⟩ := hf 0 _ rfl
    obtain ⟨v1, x1, c1, _, t1⟩ := hf 1 _ rfl
    obtain ⟨a, e0, _⟩ := DataW.trod_bool Tryz.underlying4 t0
    obtain ⟨b, e1, _⟩ := DataW.trod_int Tryz.underlying3 t1
    obtain rfl : v0 = .bool a := by simpa using e0
    obtain rfl : v1 = .int .i64 b := by simpa using e1
    match cs', hcl, c0, c1 with
    | [u0, u1], _, c0, c1 =>
      simp only [List.getElem?_cons_zero, List.getElem?_cons_succ, Option.some.injEq] at c0 c1
      exact ⟨⟨a, b⟩, by rw [c0, c1]; rfl, trivial⟩)
  exact ⟨v, l, h1, h2⟩
theorem read_blocks {fuel : Nat} {cs : List Value} {x : DataW H × List MemPlace} (h : DataW.trod enc Tryz.prog w 0 spare held fuel 26 cs = some x) (hl : Light Tryz.prog 26 x.1) : ∃ v l, cs = [v] ∧ RBlocks w w.heap.size v l := by
  obtain ⟨v, l, h1, h2, h3⟩ := sl_of_trod (sz := 1) Tryz.underlying26 (by kernel_rfl) (by decide) (by rw [bytes_ints]; decide) h hl (fun x : Value × List Int => [x.1]) (fun _ => rfl) (fun x => RInts w w.heap.size x.1 x.2) (fun n cs' y htr hli => by
    obtain ⟨v, k, rfl, hr⟩ := read_ints htr hli
    exact ⟨(v, k), rfl, hr⟩)
  rw [flat_one] at h2
  refine ⟨v, l.map (·.2), h1, l.map (·.1), by simp, by rw [List.length_map]; exact h2, fun i hi => ?_⟩
  rw [List.length_map] at hi
  have g1 : (l.map (·.1))[i]! = l[i].1 := by simp [List.getElem!_eq_getElem?_getD, hi]
  have g2 : (l.map (·.2))[i]! = l[i].2 := by simp [List.getElem!_eq_getElem?_getD, hi]
  rw [g1, g2]
  exact h3 _ (List.getElem_mem hi)
theorem read_funs {fuel : Nat} {cs : List Value} {x : DataW H × List MemPlace} (h : DataW.trod enc Tryz.prog w 0 spare held fuel 22 cs = some x) (hl : Light Tryz.prog 22 x.1) : ∃ v l, cs = [v] ∧ RFuns w w.heap.size v l := by
  obtain ⟨v, l, h1, h2, h3⟩ := sl_of_trod (sz := 4) Tryz.underlying22 (by kernel_rfl) (by decide) (by rw [bytes_fun]; decide) h hl funCells (fun _ => rfl) (fun x => RInts w w.heap.size x.2.1 x.1.locals ∧ ROps w w.heap.size x.2.2 x.1.code) (fun n cs' y htr hli => by
    obtain ⟨ys, m, hy, hcl, hf⟩ := struct_cells Tryz.underlying110 (by kernel_rfl) (by kernel_rfl) htr
    obtain ⟨v0, x0, c0, _, t0⟩ := hf 0 _ rfl
    obtain ⟨v1, x1, c1, y1, t1⟩ := hf 1 _ rfl
    obtain ⟨v2, x2, c2, _, t2⟩ := hf 2 _ rfl
    obtain ⟨v3, x3, c3, y3, t3⟩ := hf 3 _ rfl
    rw [hy] at hli
    have l1 := Light.struct (j := 1) Tryz.underlying110 hli rfl (by rw [List.getElem?_map, y1]; rfl)
    have l3 := Light.struct (j := 3) Tryz.underlying110 hli rfl (by rw [List.getElem?_map, y3]; rfl)
    obtain ⟨a, e0, _⟩ := DataW.trod_int Tryz.underlying3 t0
    obtain ⟨u1, k1, e1, r1⟩ := read_ints t1 l1
    obtain ⟨b, e2, _⟩ := DataW.trod_int Tryz.underlying3 t2
    obtain ⟨u3, k3, e3, r3⟩ := read_ops t3 l3
    obtain rfl : v0 = .int .i64 a := by simpa using e0
    obtain rfl : v1 = u1 := by simpa using e1
    obtain rfl : v2 = .int .i64 b := by simpa using e2
    obtain rfl : v3 = u3 := by simpa using e3
    match cs', hcl, c0, c1, c2, c3 with
    | [q0, q1, q2, q3], _, c0, c1, c2, c3 =>
      simp only [List.getElem?_cons_zero, List.getElem?_cons_succ, Option.some.injEq] at c0 c1 c2 c3
      exact ⟨(⟨a, k1, b, k3⟩, v1, v3), by rw [c0, c1, c2, c3]; rfl, r1, r3⟩)
  exact ⟨v, l.map (·.1), h1, l, rfl, by rw [List.length_map]; exact h2, h3⟩
theorem read_frms {fuel : Nat} {cs : List Value} {x : DataW H × List MemPlace} (h : DataW.trod enc Tryz.prog w 0 spare held fuel 25 cs = some x) (hl : Light Tryz.prog 25 x.1) : ∃ v l, cs = [v] ∧ RFrms w w.heap.size v l := by
  obtain ⟨v, l, h1, h2, h3⟩ := sl_of_trod (sz := 4) Tryz.underlying25 (by kernel_rfl) (by decide) (by rw [bytes_frm]; decide) h hl frmCells (fun _ => rfl) (fun x => RVals w w.heap.size x.2.1 x.1.locals ∧ RVals w w.heap.size x.2.2 x.1.stack) (fun n cs' y htr hli => by
    obtain ⟨ys, m, hy, hcl, hf⟩ := struct_cells Tryz.underlying97 (by kernel_rfl) (by kernel_rfl) htr
    obtain ⟨v0, x0, c0, _, t0⟩ := hf 0 _ rfl
    obtain ⟨v1, x1, c1, _, t1⟩ := hf 1 _ rfl
    obtain ⟨v2, x2, c2, y2, t2⟩ := hf 2 _ rfl
    obtain ⟨v3, x3, c3, y3, t3⟩ := hf 3 _ rfl
    rw [hy] at hli
    have l2 := Light.struct (j := 2) Tryz.underlying97 hli rfl (by rw [List.getElem?_map, y2]; rfl)
    have l3 := Light.struct (j := 3) Tryz.underlying97 hli rfl (by rw [List.getElem?_map, y3]; rfl)
    obtain ⟨a, e0, _⟩ := DataW.trod_int Tryz.underlying3 t0
    obtain ⟨b, e1, _⟩ := DataW.trod_int Tryz.underlying3 t1
    obtain ⟨u2, k2, e2, r2⟩ := read_vals t2 l2
    obtain ⟨u3, k3, e3, r3⟩ := read_vals t3 l3
    obtain rfl : v0 = .int .i64 a := by simpa using e0
    obtain rfl : v1 = .int .i64 b := by simpa using e1
    obtain rfl : v2 = u2 := by simpa using e2
    obtain rfl : v3 = u3 := by simpa using e3
    match cs', hcl, c0, c1, c2, c3 with
    | [q0, q1, q2, q3], _, c0, c1, c2, c3 =>
      simp only [List.getElem?_cons_zero, List.getElem?_cons_succ, Option.some.injEq] at c0 c1 c2 c3
      exact ⟨(⟨a, b, k2, k3⟩, v2, v3), by rw [c0, c1, c2, c3]; rfl, r2, r3⟩)
  exact ⟨v, l.map (·.1), h1, l, rfl, by rw [List.length_map]; exact h2, h3⟩
/-- a program's cells -/
theorem prog_cells {fuel : Nat} {cs : List Value} {x : DataW H × List MemPlace} (h : DataW.trod enc Tryz.prog w 0 spare held fuel 24 cs = some x) (hl : Light Tryz.prog 24 x.1) : ∃ p, RProg w w.heap.size (.agg cs.toArray) p := by
  obtain ⟨ys, m, hy, hcl, hf⟩ := struct_cells Tryz.underlying24 (by kernel_rfl) (by kernel_rfl) h
  obtain ⟨v0, x0, c0, y0, t0⟩ := hf 0 _ rfl
  rw [hy] at hl
  have l0 := Light.struct (j := 0) Tryz.underlying24 hl rfl (by rw [List.getElem?_map, y0]; rfl)
  obtain ⟨u0, k0, e0, r0⟩ := read_funs t0 l0
  obtain rfl : v0 = u0 := by simpa using e0
  match cs, hcl, c0 with
  | [q0], _, c0 =>
    simp only [List.getElem?_cons_zero, Option.some.injEq] at c0
    exact ⟨k0, v0, by rw [c0], r0⟩
/-- a machine's cells -/
theorem mach_cells {fuel : Nat} {cs : List Value} {x : DataW H × List MemPlace} (h : DataW.trod enc Tryz.prog w 0 spare held fuel 29 cs = some x) (hl : Light Tryz.prog 29 x.1) : ∃ m, RMach w w.heap.size (.agg cs.toArray) m := by
  obtain ⟨ys, n, hy, hcl, hf⟩ := struct_cells Tryz.underlying29 (by kernel_rfl) (by kernel_rfl) h
  obtain ⟨v0, x0, c0, y0, t0⟩ := hf 0 _ rfl
  obtain ⟨v1, x1, c1, y1, t1⟩ := hf 1 _ rfl
  obtain ⟨v2, x2, c2, y2, t2⟩ := hf 2 _ rfl
  obtain ⟨v3, x3, c3, y3, t3⟩ := hf 3 _ rfl
  obtain ⟨v4, x4, c4, y4, t4⟩ := hf 4 _ rfl
  obtain ⟨v5, x5, c5, y5, t5⟩ := hf 5 _ rfl
  rw [hy] at hl
  have l0 := Light.struct (j := 0) Tryz.underlying29 hl rfl (by rw [List.getElem?_map, y0]; rfl)
  have l1 := Light.struct (j := 1) Tryz.underlying29 hl rfl (by rw [List.getElem?_map, y1]; rfl)
  have l2 := Light.struct (j := 2) Tryz.underlying29 hl rfl (by rw [List.getElem?_map, y2]; rfl)
  have l3 := Light.struct (j := 3) Tryz.underlying29 hl rfl (by rw [List.getElem?_map, y3]; rfl)
  obtain ⟨u0, k0, e0, r0⟩ := read_frms t0 l0
  obtain ⟨u1, k1, e1, r1⟩ := read_blocks t1 l1
  obtain ⟨u2, k2, e2, r2⟩ := read_ints t2 l2
  obtain ⟨u3, k3, e3, r3⟩ := read_ints t3 l3
  obtain ⟨a, e4, _⟩ := DataW.trod_int Tryz.underlying3 t4
  obtain ⟨b, e5, _⟩ := DataW.trod_int Tryz.underlying3 t5
  obtain rfl : v0 = u0 := by simpa using e0
  obtain rfl : v1 = u1 := by simpa using e1
  obtain rfl : v2 = u2 := by simpa using e2
  obtain rfl : v3 = u3 := by simpa using e3
  obtain rfl : v4 = .int .i64 a := by simpa using e4
  obtain rfl : v5 = .int .i64 b := by simpa using e5
  match cs, hcl, c0, c1, c2, c3, c4, c5 with
  | [q0, q1, q2, q3, q4, q5], _, c0, c1, c2, c3, c4, c5 =>
    simp only [List.getElem?_cons_zero, List.getElem?_cons_succ, Option.some.injEq] at c0 c1 c2 c3 c4 c5
    exact ⟨⟨k0, k1, k2, k3, a, b⟩, v0, v1, v2, v3, by rw [c0, c1, c2, c3, c4, c5], r0, r1, r2, r3⟩
/- a program, a machine as an argument -/
set_option maxRecDepth 100000 in
theorem read_prog {r : Reach} {b0 : Nat} {v : Value} {d : DataW H} {p : List MemPlace} (hv : Value.okWide Tryz.prog w r b0 24 v) (h : DataW.Trod enc Tryz.prog w 0 spare held 24 v d p) (hl : Light Tryz.prog 24 d) : ∃ q, RProg w w.heap.size v q := by
  obtain ⟨cs, rfl, _⟩ := okWide_struct Tryz.underlying24 hv
  obtain ⟨fuel, hf⟩ := h
  obtain ⟨q, hq⟩ := prog_cells (cs := cs.toList) hf hl
  rw [Array.toArray_toList] at hq
  exact ⟨q, hq⟩
set_option maxRecDepth 100000 in
theorem read_mach {r : Reach} {b0 : Nat} {v : Value} {d : DataW H} {p : List MemPlace} (hv : Value.okWide Tryz.prog w r b0 29 v) (h : DataW.Trod enc Tryz.prog w 0 spare held 29 v d p) (hl : Light Tryz.prog 29 d) : ∃ q, RMach w w.heap.size v q := by
  obtain ⟨cs, rfl, _⟩ := okWide_struct Tryz.underlying29 hv
  obtain ⟨fuel, hf⟩ := h
  obtain ⟨q, hq⟩ := mach_cells (cs := cs.toList) hf hl
  rw [Array.toArray_toList] at hq
  exact ⟨q, hq⟩
end
end Go.Proofs.YthdomhejkbpabaaGreat
