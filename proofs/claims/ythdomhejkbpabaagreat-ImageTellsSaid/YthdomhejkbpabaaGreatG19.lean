/- Lemmas: RefFrame. -/
import Derived.Test.YthdomhejkbpabaaGreatG18
set_option linter.unusedVariables false
set_option linter.unusedSimpArgs false
/- The reference's check of one frame. -/
namespace Go.Proofs.YthdomhejkbpabaaGreat
open Go.RowKit

/-- what the reference's check of a frame has boxed -/
structure Boxes (w : World) (N : Nat) (fo bo po lo so glo gco : Option Addr) (fc bc pc lc sc glc gcc : Nat) (p : List Mz.Fun) (m : Mz.Mach) (x : Mz.Frm) (f : Mz.Fun) (k : Nat) : Prop where
  size : N + 4 ≤ w.heap.size
  p0 : w.cell? ⟨N, 0, none⟩ = some (.slice po p.length pc)
  m0 : w.cell? ⟨N + 1, 0, none⟩ = some (.slice fo m.frames.length fc)
  m1 : w.cell? ⟨N + 1, 1, none⟩ = some (.slice bo m.blocks.length bc)
  x0 : w.cell? ⟨N + 1 + 1, 0, none⟩ = some (.int .i64 k)
  x1 : w.cell? ⟨N + 1 + 1, 1, none⟩ = some (.int .i64 x.pc)
  x2 : w.cell? ⟨N + 1 + 1, 2, none⟩ = some (.slice lo x.locals.length lc)
  x3 : w.cell? ⟨N + 1 + 1, 3, none⟩ = some (.slice so x.stack.length sc)
  f1 : w.cell? ⟨N + 1 + 1 + 1, 1, none⟩ = some (.slice glo f.locals.length glc)
  f3 : w.cell? ⟨N + 1 + 1 + 1, 3, none⟩ = some (.slice gco f.code.length gcc)
theorem Boxes.frame {w w' : World} {N : Nat} {fo bo po lo so glo gco : Option Addr} {fc bc pc lc sc glc gcc : Nat} {p : List Mz.Fun} {m : Mz.Mach} {x : Mz.Frm} {f : Mz.Fun} {k : Nat} (h : Boxes w N fo bo po lo so glo gco fc bc pc lc sc glc gcc p m x f k) (hb : Below w.heap.size w w') :
    Boxes w' N fo bo po lo so glo gco fc bc pc lc sc glc gcc p m x f k := by
  have hs := h.size
  have e := fun b o (hl : b < w.heap.size) => (bcell hb).1 b o hl
  exact ⟨Nat.le_trans hs hb.size, (e _ _ (by omega)).trans h.p0, (e _ _ (by omega)).trans h.m0, (e _ _ (by omega)).trans h.m1, (e _ _ (by omega)).trans h.x0, (e _ _ (by omega)).trans h.x1, (e _ _ (by omega)).trans h.x2, (e _ _ (by omega)).trans h.x3, (e _ _ (by omega)).trans h.f1, (e _ _ (by omega)).trans h.f3⟩

set_option maxHeartbeats 4000000 in
set_option maxRecDepth 100000 in
theorem refFrame_any (pv mv : Value) (p : List Mz.Fun) (m : Mz.Mach) (i B : Nat) (w : World) (hB : B ≤ w.heap.size) (hp : RProg w B pv p) (hm : RMach w B mv m) (hfit : Mz.checkFits p = 0) (hi : i < m.frames.length) (hn : m.frames.length ≤ 6) (hf : FnsIn p m) (hnb : m.blocks.length ≤ 8) :
    Calls Tryz.prog 70 #[pv, mv, .int .i64 i] w fun e w' => e = .returned (.int .i64 (Mz.checkFrame p m i)) ∧ Below w.heap.size w w' := by
  obtain ⟨fp, rfl, hp⟩ := hp
  obtain ⟨fv, bv, iv, ov, rfl, hfr, hbl, hin, hout⟩ := hm
  have HP := Lib.hid hp
  have HFR := Lib.hid hfr
  obtain ⟨fo, fc, rfl, f1, f2, f3⟩ := hfr.open
  obtain ⟨bo, bc, rfl, b1, b2, b3⟩ := hbl.open
  obtain ⟨io, ic, rfl, _, _, _⟩ := hin.open
  obtain ⟨oo, oc, rfl, _, _, _⟩ := hout.open
  unfold maxLen at f2 b2
  obtain ⟨k, hk, hkl⟩ := hf.nat hi
  obtain ⟨b, o, lv, sv, rfl, hbB, q0, q1, q2, q3, rl, rs⟩ := hfr.at hi
  obtain ⟨lo, lc, rfl, l1, l2, l3⟩ := rl.open
  obtain ⟨so, sc, rfl, s1, s2, s3⟩ := rs.open
  obtain ⟨po, pc, rfl, p1, p2, p3⟩ := hp.open
  unfold maxLen at l2 s2 p2
  obtain ⟨fb, fx, gl, gc, rfl, fB, g0, g1, g2, g3, rgl, rgc⟩ := hp.at hkl
  obtain ⟨glo, glc, rfl, gl1, gl2, gl3⟩ := rgl.open
  obtain ⟨gco, gcc, rfl, gc1, gc2, gc3⟩ := rgc.open
  unfold maxLen at gl2 gc2
  have hbs : b < w.heap.size := by omega
  have hfs : fb < w.heap.size := by omega
  have hbs1 : b < w.heap.size + 1 := by omega
  have hfs1 : fb < w.heap.size + 1 := by omega
  have hfs2 : fb < w.heap.size + 1 + 1 := by omega
  rw [hk] at q0
  have RL := Lib.hid rl
  have RS := Lib.hid rs
  have RG := Lib.hid rgl
  have RC := Lib.hid rgc
  have HFIT := Lib.hid hfit
  have HFN := Lib.hid hf
  have HNL : Hid ((nth p k).locals.length ≤ 6) := ((Mz.checkProg_zero (Mz.checkFits_zero hfit).1).funs _ (nth_mem hkl)).nlocals
  have HE : Hid (Mz.checkFrame p m i = Mz.frameErr m.blocks.length (nth m.frames i) (nth p k).locals (Mz.wantOf p m i)) := by
    unfold Hid; rw [Mz.checkFrame_eq]
    have h1 : (m.frames[i]!).fn = (k : Int) := hk
    rw [h1]; rfl
  have HK := Lib.hid hk
  clear rl rs rgl rgc hf hfr hp hfit hbl hin hout hk
  obtain ⟨x, hx⟩ : ∃ x, x = nth m.frames i := ⟨_, rfl⟩
  obtain ⟨f, hff⟩ : ∃ f, f = nth p k := ⟨_, rfl⟩
  have HXF := Lib.hid (And.intro hx hff)
  rw [← hx, ← hff] at HE
  rw [← hff] at HNL
  rw [← hx] at q1 q2 q3 RL RS l1 l3 s1 s3
  rw [← hff] at g0 g1 g2 g3 RG RC gl1 gl3 gc1 gc3
  clear hx hff
  obtain ⟨L, hL⟩ : ∃ L, L = x.locals ++ x.stack := ⟨_, rfl⟩
  have HL := Lib.hid hL
  have hLl : L.length = x.locals.length + x.stack.length := by rw [hL, List.length_append]
  have hLb : L.length ≤ 17592186044416 := by omega
  clear hL hLl
  by_cases hll : x.locals.length = f.locals.length
  · have d1 : ((x.locals.length : Int) != (f.locals.length : Int)) = false := by rw [hll]; simp
    have HLL := Lib.hid hll
    clear hll
    go_enter Tryz.func70, Tryz.ntmps70
    go_wp2_with fail
    obtain ⟨w3, hw3⟩ : ∃ w3, w3 = (((w.alloc (.cells #[.slice (some ⟨fb, fx, none⟩) p.length pc] 24)).alloc (.cells #[.slice (some ⟨b, o, none⟩) m.frames.length fc, .slice bo m.blocks.length bc, .slice io m.inp.length ic, .slice oo m.out.length oc, .int .i64 m.status, .int .i64 m.trap] 29)).alloc (.cells #[.int .i64 k, .int .i64 x.pc, .slice lo x.locals.length lc, .slice so x.stack.length sc] 97)).alloc (.cells #[.int .i64 f.params, .slice glo f.locals.length glc, .int .i64 f.result, .slice gco f.code.length gcc] 110) := ⟨_, rfl⟩
    have hb3 : Below w.heap.size w w3 := by rw [hw3]; exact ((((Below.refl _ _).alloc (Nat.le_refl _) _).alloc (by simp) _).alloc (by simp; omega) _).alloc (by simp; omega) _
    have BX : Boxes w3 w.heap.size (some ⟨b, o, none⟩) bo (some ⟨fb, fx, none⟩) lo so glo gco fc bc pc lc sc glc gcc p m x f k := by
      rw [hw3]
      refine ⟨by simp, ?_, ?_, ?_, ?_, ?_, ?_, ?_, ?_, ?_⟩
      · rw [cell_old (by simp <;> omega), cell_old (by simp <;> omega), cell_old (by simp)]; exact cell_at rfl rfl
      · rw [cell_old (by simp <;> omega), cell_old (by simp)]; exact cell_at (by simp) rfl
      · rw [cell_old (by simp <;> omega), cell_old (by simp)]; exact cell_at (by simp) rfl
      · rw [cell_old (by simp)]; exact cell_at (by simp) rfl
      · rw [cell_old (by simp)]; exact cell_at (by simp) rfl
      · rw [cell_old (by simp)]; exact cell_at (by simp) rfl
      · rw [cell_old (by simp)]; exact cell_at (by simp) rfl
      · exact cell_at (by simp) rfl
      · exact cell_at (by simp) rfl
    rw [← hw3]
    clear hw3 q0 q1 q2 q3 g0 g1 g2 g3 hbs1 hfs1 hfs2
    have HBX := Lib.hid BX
    have HB3 := Lib.hid hb3
    have x2 := BX.x2
    have x3 := BX.x3
    have hs3 : w.heap.size + 1 + 1 < w3.heap.size := by have := BX.size; omega
    have hb0 : Below w3.heap.size w3 (w3.alloc (.cells #[] 103)).drew := ((Below.refl _ _).alloc (Nat.le_refl _) _).drew
    have OW0 := Lib.hid (owns_drew (owns_empty w3 103 2 w3.heap.size (Nat.le_refl _)))
    have HB0 := Lib.hid hb0
    have RL1 := Lib.hid ((RL.out.frame (hb3.mono hB)).frame (hb0.mono (Nat.le_trans hB hb3.size)))
    have RS1 := Lib.hid ((RS.out.frame (hb3.mono hB)).frame (hb0.mono (Nat.le_trans hB hb3.size)))
    have hBs : B ≤ w3.heap.size := Nat.le_trans hB hb3.size
    have hnl := HNL.out
    have hll' := HLL.out
    have hbytes : (0 + x.locals.length) * 16 ≤ 140737488355328 := by omega
    have hbytes2 : (0 + x.locals.length + x.stack.length) * 16 ≤ 140737488355328 := by omega
    have HBY := Lib.hid (And.intro hbytes hbytes2)
    have tok1 : True := trivial
    clear BX hb3 hb0 hnl hll' hbytes hbytes2
    go_region_held3 (fun w' => w'.cell? ⟨w.heap.size + 1 + 1, 2, none⟩ = some (.slice lo x.locals.length lc) ∧ w'.cell? ⟨w.heap.size + 1 + 1, 3, none⟩ = some (.slice so x.stack.length sc)) (first | go_keep | exact kk)
      (first
        | (have _t := tok1; refine step_push_vals (l := x.locals) (by rfl) (by rfl) (by rfl) OW0.out (by rfl) RL1.out HBY.out.1 (by simp) ?_; intro v1 w4 hown1 hgr1 hb1; have kk : w4.cell? ⟨w.heap.size + 1 + 1, 2, none⟩ = some (.slice lo x.locals.length lc) ∧ w4.cell? ⟨w.heap.size + 1 + 1, 3, none⟩ = some (.slice so x.stack.length sc) := ⟨((bcell (HB0.out.trans hb1)).1 _ _ hs3).trans x2, ((bcell (HB0.out.trans hb1)).1 _ _ hs3).trans x3⟩; clear tok1)
        | (refine step_push_vals (l := x.stack) (by rfl) (by rfl) (by rfl) hown1 (by rfl) (RS1.out.frame (hb1.mono hBs)) HBY.out.2 (Nat.le_trans (Nat.le_refl _) (HB0.out.trans hb1).size) ?_; intro v2 w5 hown2 hgr2 hb2; have kk : w5.cell? ⟨w.heap.size + 1 + 1, 2, none⟩ = some (.slice lo x.locals.length lc) ∧ w5.cell? ⟨w.heap.size + 1 + 1, 3, none⟩ = some (.slice so x.stack.length sc) := ⟨((bcell ((HB0.out.trans hb1).trans hb2)).1 _ _ hs3).trans x2, ((bcell ((HB0.out.trans hb1).trans hb2)).1 _ _ hs3).trans x3⟩))
    have hb5 : Below w3.heap.size w3 w5 := (HB0.out.trans hb1).trans hb2
    have ow : w5.ownsRow w3.heap.size 103 2 v2 L.length (L.flatMap valCells) := by
      have e : L.length = 0 + x.locals.length + x.stack.length := by rw [HL.out, List.length_append]; omega
      rw [e, HL.out, List.flatMap_append]; simpa using hown2
    have BX := HBX.out.frame hb5
    have HB5 := Lib.hid (HB3.out.trans (hb5.mono HB3.out.size))
    obtain ⟨ro, rc, rfl, r1, r2, r3⟩ := owns_vals ow
    unfold maxLen at r2
    have R3 := Lib.hid r3
    have hl17 : L.length ≤ 9223372036854775807 := by omega
    clear hown1 hown2 hgr1 hgr2 hb1 hb2 hb5 kk r3 x2 x3 hs3 HBX RL1 RS1 OW0 HB0 hBs HBY ow
    have HBX := Lib.hid BX
    clear BX
    go_wp2_with fail
    go_loopw [10] (fun i wr => ∃ j : Nat, j ≤ L.length ∧ i = .int .i64 j ∧ AllTo (Mz.valOk m.blocks.length) L j ∧ Below w5.heap.size w5 wr) (fun i _ => L.length - (intOf i).toNat)
    case atStart => exact ⟨0, Nat.zero_le _, rfl, fun i hi => by omega, Below.refl _ _⟩
    case round =>
      obtain ⟨j, hj, rfl, hall, hbw⟩ := hrel
      have hsw := hbw.size
      have HBW := Lib.hid hbw
      have BX := HBX.out.frame hbw
      by_cases hlt : j < L.length
      · obtain ⟨rb, rfl, hrb0, hrb, cr0, cr1⟩ := R3.out j hlt
        have v0 := ((bcell hbw).1 _ _ hrb).trans cr0
        have v1 := ((bcell hbw).1 _ _ hrb).trans cr1
        have hrb' : rb < wr.heap.size := by omega
        have m1 := BX.m1
        have hlo : (0 : Int) ≤ (j : Int) := by omega
        have hlf : (j : Int) < (L.length : Int) := by omega
        have HBN := fun nq => HBW.out.trans ((below_drewN wr w5.heap.size nq))
        obtain ⟨v, hv⟩ : ∃ v, v = nth L j := ⟨_, rfl⟩
        rw [← hv] at v0 v1
        have HV0 := Lib.hid hv
        clear hbw cr0 cr1 hv BX
        cases hr : v.ref with
        | true =>
          rw [hr] at v0
          cases hx : Mz.btw v.n 0 m.blocks.length with
          | true =>
            have HV : Hid (Mz.valOk m.blocks.length v = true) := by unfold Hid Mz.valOk; rw [hr]; simpa using hx
            have hg : ∀ w' : World, True := fun _ => trivial
            clear hr hg
            go_wp2_with fail
            go_quiet ((go_at_call 68; exact Calls.quiet_of_same ((between_any _ _ _ _).mono fun _ _ ⟨h, h'⟩ => ⟨h, h'.symm⟩)))
            have HB6 := Lib.hid (HBN nq)
            clear hx HBN
            go_wp2_with fail
            go_roundw
            case rel => exact ⟨j + 1, by omega, by go_num, hall.succ (by rw [← HV0.out]; exact HV.out), HB6.out⟩
            case measure => simp [intOf]; omega
          | false =>
            have HV : Hid (Mz.valOk m.blocks.length v = false) := by unfold Hid Mz.valOk; rw [hr]; simpa using hx
            clear hr
            go_wp2_with fail
            go_quiet ((go_at_call 68; exact Calls.quiet_of_same ((between_any _ _ _ _).mono fun _ _ ⟨h, h'⟩ => ⟨h, h'.symm⟩)))
            have HB6 := Lib.hid (HBN nq)
            clear hx HBN
            go_wp2_with fail
            go_ret
            exact ⟨ret_int (by rw [HE.out, Mz.frameErr_val HLL.out (by rw [← HL.out]; exact all_stop hlt (by rw [← HV0.out]; exact HV.out))]), HB5.out.trans (HB6.out.mono HB5.out.size)⟩
        | false =>
          rw [hr] at v0
          cases hx : Mz.isInt v.n with
          | true =>
            have HV : Hid (Mz.valOk m.blocks.length v = true) := by unfold Hid Mz.valOk; rw [hr]; simpa using hx
            clear hr
            go_wp2_with fail
            go_quiet ((go_at_call 44; exact Calls.quiet_of_same ((refIsInt_any _ _).mono fun _ _ ⟨h, h'⟩ => ⟨h, h'.symm⟩)))
            have HB6 := Lib.hid (HBN nq)
            clear hx HBN
            go_wp2_with fail
            go_roundw
            case rel => exact ⟨j + 1, by omega, by go_num, hall.succ (by rw [← HV0.out]; exact HV.out), HB6.out⟩
            case measure => simp [intOf]; omega
          | false =>
            have HV : Hid (Mz.valOk m.blocks.length v = false) := by unfold Hid Mz.valOk; rw [hr]; simpa using hx
            clear hr
            go_wp2_with fail
            go_quiet ((go_at_call 44; exact Calls.quiet_of_same ((refIsInt_any _ _).mono fun _ _ ⟨h, h'⟩ => ⟨h, h'.symm⟩)))
            have HB6 := Lib.hid (HBN nq)
            clear hx HBN
            go_wp2_with fail
            go_ret
            exact ⟨ret_int (by rw [HE.out, Mz.frameErr_val HLL.out (by rw [← HL.out]; exact all_stop hlt (by rw [← HV0.out]; exact HV.out))]), HB5.out.trans (HB6.out.mono HB5.out.size)⟩
      · obtain rfl : j = L.length := by omega
        have HALL := Lib.hid (hall.end hlt)
        have HB6 := Lib.hid (HB5.out.trans (hbw.mono HB5.out.size))
        obtain ⟨w6, rfl⟩ : ∃ w6 : World, w6 = wr := ⟨_, rfl⟩
        have x2 := BX.x2
        have hs6 := BX.size
        have HBX6 := Lib.hid BX
        clear hall hbw HBW hsw BX R3 HBX
        go_wp2_with fail
        have X2 := Lib.hid x2
        clear x2
        go_loopw [11] (fun i wr => ∃ j : Nat, j ≤ x.locals.length ∧ i = .int .i64 j ∧ AsTo x.locals f.locals j ∧ Below w6.heap.size w6 wr) (fun i _ => x.locals.length - (intOf i).toNat)
        case atStart => exact ⟨0, Nat.zero_le _, rfl, fun i hi => by omega, Below.refl _ _⟩
        case round =>
          obtain ⟨j, hj, rfl, hall, hbw⟩ := hrel
          have hsw := hbw.size
          have HBW := Lib.hid hbw
          have HBR := Lib.hid (HB6.out.trans (hbw.mono HB6.out.size))
          have BX := HBX6.out.frame hbw
          have x2 := BX.x2
          by_cases hlt : j < x.locals.length
          · have hltf : j < f.locals.length := by have := HLL.out; omega
            obtain ⟨vb, vo, rfl, hvB, cr0, cr1⟩ := (RL.out.frame (HBR.out.mono hB)).at hlt
            obtain ⟨tb, tx, rfl, htB, ct⟩ := (RG.out.frame (HBR.out.mono hB)).at hltf
            have f1 := BX.f1
            have hlo : (0 : Int) ≤ (j : Int) := by omega
            have hlf : (j : Int) < (f.locals.length : Int) := by omega
            have hlx : (j : Int) < (x.locals.length : Int) := by omega
            obtain ⟨v, hv⟩ : ∃ v, v = nth x.locals j := ⟨_, rfl⟩
            obtain ⟨t, ht⟩ : ∃ t, t = nth f.locals j := ⟨_, rfl⟩
            rw [← hv] at cr0 cr1
            rw [← ht] at ct
            have HVT := Lib.hid (And.intro hv ht)
            have AS := Lib.hid (refIsAs_any v t wr.drew)
            have hvs : vb < wr.heap.size := by omega
            have hts : tb < wr.heap.size := by omega
            have hgs : w.heap.size + 1 + 1 + 1 < wr.heap.size := by omega
            have C0 := Lib.hid cr0
            have C1 := Lib.hid cr1
            have CT := Lib.hid ct
            have CF := Lib.hid f1
            have CX := Lib.hid x2
            clear hbw hv ht BX
            go_wp2_with fail
            go_region_held3 (fun w' => w'.cell? ⟨w.heap.size + 1 + 1, 2, none⟩ = some (.slice (some ⟨vb, vo, none⟩) x.locals.length lc) ∧ w'.cell? ⟨vb, vo + j * 2, none⟩ = some (.bool v.ref) ∧ w'.cell? ⟨vb, vo + j * 2 + 1, none⟩ = some (.int .i64 v.n) ∧ w'.cell? ⟨w.heap.size + 1 + 1 + 1, 1, none⟩ = some (.slice (some ⟨tb, tx, none⟩) f.locals.length glc) ∧ w'.cell? ⟨tb, tx + j, none⟩ = some (.int .i64 t)) (first | go_keep | exact kk) (first | (go_at_call 112; refine AS.out.mono ?_; rintro e w7 ⟨rfl, hb7⟩; have hcc := (bcell hb7).1; have kk : w7.cell? ⟨w.heap.size + 1 + 1, 2, none⟩ = some (.slice (some ⟨vb, vo, none⟩) x.locals.length lc) ∧ w7.cell? ⟨vb, vo + j * 2, none⟩ = some (.bool v.ref) ∧ w7.cell? ⟨vb, vo + j * 2 + 1, none⟩ = some (.int .i64 v.n) ∧ w7.cell? ⟨w.heap.size + 1 + 1 + 1, 1, none⟩ = some (.slice (some ⟨tb, tx, none⟩) f.locals.length glc) ∧ w7.cell? ⟨tb, tx + j, none⟩ = some (.int .i64 t) := ⟨(hcc _ _ (by show _ < wr.heap.size; omega)).trans CX.out, (hcc _ _ hvs).trans C0.out, (hcc _ _ hvs).trans C1.out, (hcc _ _ hgs).trans CF.out, (hcc _ _ hts).trans CT.out⟩))
            have HB7 := Lib.hid (HBW.out.trans ((((Below.refl _ _).drew).trans hb7).mono hsw))
            clear hcc hb7 kk cr0 cr1 ct f1
            cases hx : Mz.asT v t with
            | true =>
              have HX := Lib.hid hx
              clear hx
              go_wp2_with fail
              go_roundw
              case rel => exact ⟨j + 1, by omega, by go_num, hall.succ (by rw [← HVT.out.1, ← HVT.out.2]; exact HX.out), HB7.out⟩
              case measure => simp [intOf]; omega
            | false =>
              have HX := Lib.hid hx
              clear hx
              go_wp2_with fail
              go_ret
              exact ⟨ret_int (by rw [HE.out, Mz.frameErr_as HLL.out (by rw [← HL.out]; exact HALL.out) (Mz.asAll_stop HLL.out hltf (by have h1 := HX.out; rw [HVT.out.1, HVT.out.2] at h1; exact h1))]), HB6.out.trans (HB7.out.mono HB6.out.size)⟩
          · obtain rfl : j = x.locals.length := by omega
            have HAS := Lib.hid (hall.end HLL.out (by have := HLL.out; omega))
            have HEQ : Hid (Mz.checkFrame p m i = Mz.checkStack (Mz.wantOf p m i) x.stack) := by
              unfold Hid; rw [HE.out]; exact Mz.frameErr_want HLL.out (by rw [← HL.out]; exact HALL.out) HAS.out
            obtain ⟨w7, rfl⟩ : ∃ w7 : World, w7 = wr := ⟨_, rfl⟩
            have p0 := BX.p0
            have x0 := BX.x0
            have x1 := BX.x1
            have hs7 := BX.size
            have HBX7 := Lib.hid BX
            obtain ⟨hr, st, hst, hsl⟩ := entries_of_fits HFIT.out hkl
            have HR : Hid (Mz.Ready p (nth p k)) := hr
            have HST := Lib.hid hst
            clear hr hst hbw HBW BX HBX6 HB6 HE HALL HAS X2 hall RL RG hs6
            go_wp2_with fail
            refine (refEntryAt_any _ p k x.pc st B _ (Nat.le_trans hB HBR.out.size) ⟨_, rfl, HP.out.frame (HBR.out.mono hB)⟩ hkl HR.out HST.out (by omega)).mono ?_
            rintro e w8 ⟨⟨r, rfl, hr8⟩, hb8⟩
            have HB8 := Lib.hid (via0 HBR.out HBR.out.size hb8)
            have HBX8 := Lib.hid (HBX7.out.frame hb8)
            have HR8 := Lib.hid hr8
            clear hb8 hr8 HBX7 x0 x1 p0 x2
            have m0 := HBX8.out.m0
            have hs8 := HBX8.out.size
            have eN : IntKind.i64.wrap ((m.frames.length : Int) - 1) = m.frames.length - 1 := IntWalk.i64_in _ (by omega)
            by_cases hlast : i + 1 = m.frames.length
            · have dl : decide ((i : Int) < (m.frames.length : Int) - 1) = false := by rw [decide_eq_false_iff_not]; omega
              have HW : Hid (Mz.wantOf p m i = Mz.entryAt p k x.pc) := by unfold Hid; rw [wantOf_last hlast HK.out, HXF.out.1]
              cases ht : Mz.entryAt p k x.pc with
              | none =>
                have hs : (Mz.entryAt p k x.pc).isSome = false := by rw [ht]; rfl
                have HT := Lib.hid ht
                clear ht
                go_wp2_with fail
                go_ret
                exact ⟨ret_int (by rw [HEQ.out, HW.out, HT.out]; rfl), HB8.out⟩
              | some t =>
                have hs : (Mz.entryAt p k x.pc).isSome = true := by rw [ht]; rfl
                have hr := HR8.out
                rw [ht] at hr
                simp only [Option.getD_some] at hr
                obtain ⟨wo, wc, rfl, t1, t2, t3⟩ := hr.open
                have HRT := Lib.hid hr
                have HWT : Hid (Mz.wantOf p m i = some t) := HW.out.trans ht
                obtain ⟨tl, htl⟩ : ∃ tl, tl = t.length := ⟨_, rfl⟩
                rw [← htl] at t1 t3 HRT ⊢
                have HTL := Lib.hid htl
                obtain ⟨w9, rfl⟩ : ∃ w9 : World, w9 = w8 := ⟨_, rfl⟩
                have HB9 := Lib.hid HB8.out
                have HBX9 := Lib.hid HBX8.out
                clear ht hr HR8 HB8 HBX8 HW htl
                have x3 := HBX9.out.x3
                have hs9 := HBX9.out.size
                have HTY : Hid (∀ q, q < t.length → 1 ≤ nth t q ∧ nth t q ≤ 3) := by
                  intro q hq
                  have hfn : 0 ≤ (m.frames[i]!).fn ∧ (m.frames[i]!).fn < p.length := HFN.out i hi
                  exact Mz.wantOf_ty HFIT.out hfn HWT.out _ (nth_mem hq)
                by_cases hsl : tl = x.stack.length
                · have d3 : ((tl : Int) != (x.stack.length : Int)) = false := by rw [hsl]; simp
                  have HSL := Lib.hid hsl
                  have hsl1 : tl ≤ x.stack.length := by omega
                  have hsl2 : x.stack.length ≤ tl := by omega
                  clear hsl
                  go_wp2_with fail
                  have X3 := Lib.hid x3
                  clear x3
                  go_loopw [17] (fun i wr => ∃ j : Nat, j ≤ tl ∧ i = .int .i64 j ∧ AsTo x.stack t j ∧ Below w9.heap.size w9 wr) (fun i _ => tl - (intOf i).toNat)
                  case atStart => exact ⟨0, Nat.zero_le _, rfl, fun i hi => by omega, Below.refl _ _⟩
                  case round =>
                    obtain ⟨j, hj, rfl, hall, hbw⟩ := hrel
                    have hsw := hbw.size
                    have HBW := Lib.hid hbw
                    have HBR := Lib.hid (HB9.out.trans (hbw.mono HB9.out.size))
                    have BX := HBX9.out.frame hbw
                    have x3 := BX.x3
                    by_cases hlt : j < tl
                    · have hltx : j < x.stack.length := by omega
                      have hltf : j < t.length := by have := HTL.out; omega
                      obtain ⟨vb, vo, rfl, hvB, cr0, cr1⟩ := (RS.out.frame (HBR.out.mono hB)).at hltx
                      obtain ⟨tb, tx, rfl, htB, ct⟩ := (HRT.out.frame hbw).at hltf
                      have hlo : (0 : Int) ≤ (j : Int) := by omega
                      have hlf : (j : Int) < (tl : Int) := by omega
                      have hlx : (j : Int) < (x.stack.length : Int) := by omega
                      obtain ⟨v, hv⟩ : ∃ v, v = nth x.stack j := ⟨_, rfl⟩
                      obtain ⟨ty, ht⟩ : ∃ ty, ty = nth t j := ⟨_, rfl⟩
                      rw [← hv] at cr0 cr1
                      rw [← ht] at ct
                      have HVT := Lib.hid (And.intro hv ht)
                      have AS := Lib.hid (refIsAs_any v ty wr.drew)
                      have hvs : vb < wr.heap.size := by omega
                      have hts : tb < wr.heap.size := by omega
                      have hgs : w.heap.size + 1 + 1 < wr.heap.size := by omega
                      have C0 := Lib.hid cr0
                      have C1 := Lib.hid cr1
                      have CT := Lib.hid ct
                      have CX := Lib.hid x3
                      clear hbw hv ht BX
                      go_wp2_with fail
                      go_region_held3 (fun w' => w'.cell? ⟨w.heap.size + 1 + 1, 3, none⟩ = some (.slice (some ⟨vb, vo, none⟩) x.stack.length sc) ∧ w'.cell? ⟨vb, vo + j * 2, none⟩ = some (.bool v.ref) ∧ w'.cell? ⟨vb, vo + j * 2 + 1, none⟩ = some (.int .i64 v.n) ∧ w'.cell? ⟨tb, tx + j, none⟩ = some (.int .i64 ty)) (first | go_keep | exact kk) (first | (go_at_call 112; refine AS.out.mono ?_; rintro e w10 ⟨rfl, hb10⟩; have hcc := (bcell hb10).1; have kk : w10.cell? ⟨w.heap.size + 1 + 1, 3, none⟩ = some (.slice (some ⟨vb, vo, none⟩) x.stack.length sc) ∧ w10.cell? ⟨vb, vo + j * 2, none⟩ = some (.bool v.ref) ∧ w10.cell? ⟨vb, vo + j * 2 + 1, none⟩ = some (.int .i64 v.n) ∧ w10.cell? ⟨tb, tx + j, none⟩ = some (.int .i64 ty) := ⟨(hcc _ _ hgs).trans CX.out, (hcc _ _ hvs).trans C0.out, (hcc _ _ hvs).trans C1.out, (hcc _ _ hts).trans CT.out⟩))
                      have HB10 := Lib.hid (HBW.out.trans ((((Below.refl _ _).drew).trans hb10).mono hsw))
                      clear hcc hb10 kk cr0 cr1 ct
                      cases hx : Mz.asT v ty with
                      | true =>
                        have HX := Lib.hid hx
                        clear hx
                        go_wp2_with fail
                        go_roundw
                        case rel => exact ⟨j + 1, by omega, by go_num, hall.succ (by rw [← HVT.out.1, ← HVT.out.2]; exact HX.out), HB10.out⟩
                        case measure => simp [intOf]; omega
                      | false =>
                        have HX := Lib.hid hx
                        clear hx
                        go_wp2_with fail
                        go_ret
                        refine ⟨ret_int ?_, HB9.out.trans (HB10.out.mono HB9.out.size)⟩
                        have e1 : t.length = x.stack.length := by have := HSL.out; have := HTL.out; omega
                        rw [HEQ.out, HWT.out]; unfold Mz.checkStack; simp only
                        rw [if_neg (by omega), if_pos (Mz.asAll_stop e1.symm hltf (by have h1 := HX.out; rw [HVT.out.1, HVT.out.2] at h1; exact h1))]
                    · have HAS : Hid (Mz.asAll x.stack t = true) := hall.end (by have := HSL.out; have := HTL.out; omega) (by have := HTL.out; omega)
                      obtain rfl : j = tl := by omega
                      clear hbw hall BX
                      go_wp2_with fail
                      go_ret
                      refine ⟨ret_int ?_, HBR.out⟩
                      have e1 : t.length = x.stack.length := by have := HSL.out; have := HTL.out; omega
                      rw [HEQ.out, HWT.out]; unfold Mz.checkStack; simp only
                      rw [if_neg (by omega), if_neg (by rw [HAS.out]; decide)]
                · have d3 : ((tl : Int) != (x.stack.length : Int)) = true := by simpa [Int.natCast_inj] using hsl
                  have HSL := Lib.hid hsl
                  clear hsl
                  go_wp2_with fail
                  go_ret
                  refine ⟨ret_int ?_, HB9.out⟩
                  have e1 : t.length ≠ x.stack.length := by have := HSL.out; have := HTL.out; omega
                  rw [HEQ.out, HWT.out]; unfold Mz.checkStack; simp only
                  rw [if_pos e1]
            · have hw : i + 1 < m.frames.length := by omega
              have dl : decide ((i : Int) < (m.frames.length : Int) - 1) = true := by rw [decide_eq_true_iff]; omega
              obtain ⟨k2, hk2, hk2l⟩ := HFN.out.nat hw
              have HW : Hid (Mz.wantOf p m i = waitOf p k k2 x.pc) := by unfold Hid; rw [wantOf_wait hw HK.out hk2, HXF.out.1]
              obtain ⟨b2, o2, lv2, sv2, he2, _, n0, _, _, _, _, _⟩ := (HFR.out.frame (HB8.out.mono hB)).at (i := i + 1) hw
              simp only [Option.some.injEq, Addr.mk.injEq, and_true] at he2
              obtain ⟨rfl, rfl⟩ := he2
              rw [hk2] at n0
              have hbs8 : b < w8.heap.size := by have := HB8.out.size; omega
              have x1 := HBX8.out.x1
              have f3 := HBX8.out.f3
              have hi2 : (i : Int) + 1 < (m.frames.length : Int) := by omega
              clear hlast
              by_cases hp1 : x.pc < 1
              · have HWT : Hid (Mz.wantOf p m i = none) := by
                  unfold Hid; rw [HW.out]; unfold waitOf; rw [if_pos]; left
                  rw [← Bool.not_eq_true, Mz.btw_iff]; omega
                go_wp2_with fail
                go_ret
                exact ⟨ret_int (by rw [HEQ.out, HWT.out]; rfl), HB8.out⟩
              have d1' : decide (x.pc < 1) = false := by rw [decide_eq_false_iff_not]; omega
              by_cases hp2 : (f.code.length : Int) < x.pc
              · have HWT : Hid (Mz.wantOf p m i = none) := by
                  unfold Hid; rw [HW.out]; unfold waitOf; rw [if_pos]; left
                  rw [← Bool.not_eq_true, Mz.btw_iff, ← HXF.out.2]; omega
                go_wp2_with fail
                go_ret
                exact ⟨ret_int (by rw [HEQ.out, HWT.out]; rfl), HB8.out⟩
              have d2' : decide ((f.code.length : Int) < x.pc) = false := by rw [decide_eq_false_iff_not]; omega
              obtain ⟨jj, hjj⟩ : ∃ jj : Nat, jj = (x.pc - 1).toNat := ⟨_, rfl⟩
              have hjl : jj < f.code.length := by omega
              have HJ := Lib.hid hjj
              have ew : IntKind.i64.wrap (x.pc - 1) = x.pc - 1 := IntWalk.i64_in _ (by omega)
              have et : (x.pc - 1).toNat = jj := hjj.symm
              have e0 : 0 ≤ x.pc - 1 := by omega
              have e1 : x.pc - 1 < f.code.length := by omega
              have HBT : Hid (Mz.btw x.pc 1 (nth p k).code.length = true) := by unfold Hid; rw [← HXF.out.2]; exact Mz.btw_iff.2 (by omega)
              obtain ⟨ob, ox, rfl, oB, r0, r1⟩ := (RC.out.frame (HB8.out.mono hB)).at hjl
              have hob : ob < w8.heap.size := by omega
              have hfx : (nth f.code jj) = nth (nth p k).code (x.pc - 1).toNat := by rw [hjj, HXF.out.2]
              have HFX := Lib.hid hfx
              clear hjj hfx
              by_cases hop : (nth f.code jj).code = 12 ∧ (nth f.code jj).a = (k2 : Int)
              · have HOP : Hid (nth (nth p k).code (x.pc - 1).toNat = ⟨12, (k2 : Int)⟩) := by
                  unfold Hid; rw [← HFX.out]
                  cases hq : nth f.code jj with
                  | mk u v => rw [hq] at hop; simp at hop; rw [hop.1, hop.2]
                rw [hop.1] at r0
                rw [hop.2] at r1
                clear hop
                have p0 := HBX8.out.p0
                have x0 := HBX8.out.x0
                go_wp2_with fail
                refine (refEntryAt_any _ p k (x.pc - 1) st B _ (Nat.le_trans hB HB8.out.size) ⟨_, rfl, HP.out.frame (HB8.out.mono hB)⟩ hkl HR.out HST.out (by omega)).mono ?_
                rintro e w9 ⟨⟨r5, rfl, _⟩, hb9⟩
                have HB9 := Lib.hid (via0 HB8.out HB8.out.size hb9)
                have HBX9 := Lib.hid (HBX8.out.frame hb9)
                have HR9 := Lib.hid ((HR8.out.frame hb9).mono hb9.size)
                clear hb9 HR8 HBX8 x0 x1 f3 m0 n0 r0 r1 p0 hob hbs8
                cases hea : (Mz.entryAt p k (x.pc - 1)).isSome with
                | false =>
                  have HEA := Lib.hid hea
                  have HWT : Hid (Mz.wantOf p m i = none) := by
                    unfold Hid; rw [HW.out]; unfold waitOf
                    rw [if_neg (by rw [HBT.out, HOP.out]; simp), if_pos (by have := HEA.out; simpa using this)]
                  clear hea
                  go_wp2_with fail
                  go_ret
                  exact ⟨ret_int (by rw [HEQ.out, HWT.out]; rfl), HB9.out⟩
                | true =>
                  have HEA := Lib.hid hea
                  clear hea
                  obtain ⟨t0, ht0, hne0⟩ := behind_wait HR.out HST.out HJ.out (by omega) HOP.out HEA.out
                  have hr := HR9.out
                  rw [ht0] at hr
                  have hso : (Mz.entryAt p k x.pc).isSome = true := by rw [ht0]; rfl
                  simp only [Option.getD_some] at hr
                  obtain ⟨wo, wc, rfl, t1, t2, t3⟩ := hr.open
                  unfold maxLen at t2
                  have HRT0 := Lib.hid hr
                  have HNE := Lib.hid hne0
                  have HW0 : Hid (Mz.wantOf p m i = some (if 0 < (nth p k2).result then t0.dropLast else t0)) := by
                    unfold Hid; rw [HW.out]; unfold waitOf
                    rw [if_neg (by rw [HBT.out, HOP.out]; simp), if_neg (by have := HEA.out; intro hq; rw [Option.isNone_iff_eq_none] at hq; rw [hq] at this; cases this), ht0]; rfl
                  have hty := entries_ty (p := p) (k := k2) HR.out.prog hk2l
                  obtain ⟨fb2, fx2, _, _, he3, _, _, _, n2, _, _, _⟩ := (HP.out.frame (HB9.out.mono hB)).at hk2l
                  simp only [Option.some.injEq, Addr.mk.injEq, and_true] at he3
                  obtain ⟨rfl, rfl⟩ := he3
                  have p0 := HBX9.out.p0
                  have hfb9 : fb < w9.heap.size := by have := HB9.out.size; omega
                  have hk2i : (k2 : Int) < (p.length : Int) := by omega
                  clear ht0 hr HR9 hne0 hs8
                  by_cases hres : 0 < (nth p k2).result
                  · have dr : decide (0 < (nth p k2).result) = true := by rw [decide_eq_true_iff]; exact hres
                    obtain ⟨t, htt⟩ : ∃ t, t = t0.dropLast := ⟨_, rfl⟩
                    have htl0 : 0 < t0.length := List.length_pos_iff.2 (HNE.out hres)
                    obtain ⟨tl, htl⟩ : ∃ tl : Nat, tl = t0.length - 1 := ⟨_, rfl⟩
                    have HTL : Hid (tl = t.length) := by unfold Hid; rw [htt, List.length_dropLast]; exact htl
                    have HWT : Hid (Mz.wantOf p m i = some t) := by unfold Hid; rw [HW0.out, if_pos hres, htt]
                    have HRT : Hid (RInts w9 w9.heap.size (.slice wo tl wc) t) := by
                      unfold Hid; rw [htt, List.dropLast_eq_take, htl]
                      exact HRT0.out.take _ (by omega)
                    have ek : IntKind.i64.wrap ((t0.length : Int) - 1) = (tl : Int) := by rw [IntWalk.i64_in _ (by omega)]; omega
                    have en : (tl : Int) ≤ wc := by omega
                    have en' : tl ≤ wc := by omega
                    have em : (0 : Int) ≤ (tl : Int) := by omega
                    clear htt htl hres HW0 HRT0 hty
                    have x3 := HBX9.out.x3
                    have hs9 := HBX9.out.size
                    have HTY : Hid (∀ q, q < t.length → 1 ≤ nth t q ∧ nth t q ≤ 3) := by
                      intro q hq
                      have hfn : 0 ≤ (m.frames[i]!).fn ∧ (m.frames[i]!).fn < p.length := HFN.out i hi
                      exact Mz.wantOf_ty HFIT.out hfn HWT.out _ (nth_mem hq)
                    by_cases hsl : tl = x.stack.length
                    · have d3 : ((tl : Int) != (x.stack.length : Int)) = false := by rw [hsl]; simp
                      have HSL := Lib.hid hsl
                      have hsl1 : tl ≤ x.stack.length := by omega
                      have hsl2 : x.stack.length ≤ tl := by omega
                      clear hsl
                      go_wp2_with fail
                      have X3 := Lib.hid x3
                      clear x3
                      go_loopw [17] (fun i wr => ∃ j : Nat, j ≤ tl ∧ i = .int .i64 j ∧ AsTo x.stack t j ∧ Below w9.heap.size w9 wr) (fun i _ => tl - (intOf i).toNat)
                      case atStart => exact ⟨0, Nat.zero_le _, rfl, fun i hi => by omega, Below.refl _ _⟩
                      case round =>
                        obtain ⟨j, hj, rfl, hall, hbw⟩ := hrel
                        have hsw := hbw.size
                        have HBW := Lib.hid hbw
                        have HBR := Lib.hid (HB9.out.trans (hbw.mono HB9.out.size))
                        have BX := HBX9.out.frame hbw
                        have x3 := BX.x3
                        by_cases hlt : j < tl
                        · have hltx : j < x.stack.length := by omega
                          have hltf : j < t.length := by have := HTL.out; omega
                          obtain ⟨vb, vo, rfl, hvB, cr0, cr1⟩ := (RS.out.frame (HBR.out.mono hB)).at hltx
                          obtain ⟨tb, tx, rfl, htB, ct⟩ := (HRT.out.frame hbw).at hltf
                          have hlo : (0 : Int) ≤ (j : Int) := by omega
                          have hlf : (j : Int) < (tl : Int) := by omega
                          have hlx : (j : Int) < (x.stack.length : Int) := by omega
                          obtain ⟨v, hv⟩ : ∃ v, v = nth x.stack j := ⟨_, rfl⟩
                          obtain ⟨ty, ht⟩ : ∃ ty, ty = nth t j := ⟨_, rfl⟩
                          rw [← hv] at cr0 cr1
                          rw [← ht] at ct
                          have HVT := Lib.hid (And.intro hv ht)
                          have AS := Lib.hid (refIsAs_any v ty wr.drew)
                          have hvs : vb < wr.heap.size := by omega
                          have hts : tb < wr.heap.size := by omega
                          have hgs : w.heap.size + 1 + 1 < wr.heap.size := by omega
                          have C0 := Lib.hid cr0
                          have C1 := Lib.hid cr1
                          have CT := Lib.hid ct
                          have CX := Lib.hid x3
                          clear hbw hv ht BX
                          go_wp2_with fail
                          go_region_held3 (fun w' => w'.cell? ⟨w.heap.size + 1 + 1, 3, none⟩ = some (.slice (some ⟨vb, vo, none⟩) x.stack.length sc) ∧ w'.cell? ⟨vb, vo + j * 2, none⟩ = some (.bool v.ref) ∧ w'.cell? ⟨vb, vo + j * 2 + 1, none⟩ = some (.int .i64 v.n) ∧ w'.cell? ⟨tb, tx + j, none⟩ = some (.int .i64 ty)) (first | go_keep | exact kk) (first | (go_at_call 112; refine AS.out.mono ?_; rintro e w10 ⟨rfl, hb10⟩; have hcc := (bcell hb10).1; have kk : w10.cell? ⟨w.heap.size + 1 + 1, 3, none⟩ = some (.slice (some ⟨vb, vo, none⟩) x.stack.length sc) ∧ w10.cell? ⟨vb, vo + j * 2, none⟩ = some (.bool v.ref) ∧ w10.cell? ⟨vb, vo + j * 2 + 1, none⟩ = some (.int .i64 v.n) ∧ w10.cell? ⟨tb, tx + j, none⟩ = some (.int .i64 ty) := ⟨(hcc _ _ hgs).trans CX.out, (hcc _ _ hvs).trans C0.out, (hcc _ _ hvs).trans C1.out, (hcc _ _ hts).trans CT.out⟩))
                          have HB10 := Lib.hid (HBW.out.trans ((((Below.refl _ _).drew).trans hb10).mono hsw))
                          clear hcc hb10 kk cr0 cr1 ct
                          cases hx : Mz.asT v ty with
                          | true =>
                            have HX := Lib.hid hx
                            clear hx
                            go_wp2_with fail
                            go_roundw
                            case rel => exact ⟨j + 1, by omega, by go_num, hall.succ (by rw [← HVT.out.1, ← HVT.out.2]; exact HX.out), HB10.out⟩
                            case measure => simp [intOf]; omega
                          | false =>
                            have HX := Lib.hid hx
                            clear hx
                            go_wp2_with fail
                            go_ret
                            refine ⟨ret_int ?_, HB9.out.trans (HB10.out.mono HB9.out.size)⟩
                            have e1 : t.length = x.stack.length := by have := HSL.out; have := HTL.out; omega
                            rw [HEQ.out, HWT.out]; unfold Mz.checkStack; simp only
                            rw [if_neg (by omega), if_pos (Mz.asAll_stop e1.symm hltf (by have h1 := HX.out; rw [HVT.out.1, HVT.out.2] at h1; exact h1))]
                        · have HAS : Hid (Mz.asAll x.stack t = true) := hall.end (by have := HSL.out; have := HTL.out; omega) (by have := HTL.out; omega)
                          obtain rfl : j = tl := by omega
                          clear hbw hall BX
                          go_wp2_with fail
                          go_ret
                          refine ⟨ret_int ?_, HBR.out⟩
                          have e1 : t.length = x.stack.length := by have := HSL.out; have := HTL.out; omega
                          rw [HEQ.out, HWT.out]; unfold Mz.checkStack; simp only
                          rw [if_neg (by omega), if_neg (by rw [HAS.out]; decide)]
                    · have d3 : ((tl : Int) != (x.stack.length : Int)) = true := by simpa [Int.natCast_inj] using hsl
                      have HSL := Lib.hid hsl
                      clear hsl
                      go_wp2_with fail
                      go_ret
                      refine ⟨ret_int ?_, HB9.out⟩
                      have e1 : t.length ≠ x.stack.length := by have := HSL.out; have := HTL.out; omega
                      rw [HEQ.out, HWT.out]; unfold Mz.checkStack; simp only
                      rw [if_pos e1]
                  · have dr : decide (0 < (nth p k2).result) = false := by rw [decide_eq_false_iff_not]; exact hres
                    obtain ⟨t, htt⟩ : ∃ t, t = t0 := ⟨_, rfl⟩
                    obtain ⟨tl, htl⟩ : ∃ tl : Nat, tl = t0.length := ⟨_, rfl⟩
                    have HTL : Hid (tl = t.length) := by unfold Hid; rw [htt]; exact htl
                    have HWT : Hid (Mz.wantOf p m i = some t) := by unfold Hid; rw [HW0.out, if_neg hres, htt]
                    have HRT : Hid (RInts w9 w9.heap.size (.slice wo tl wc) t) := by unfold Hid; rw [htt, htl]; exact HRT0.out
                    rw [← htl] at t1 t3 ⊢
                    clear htt htl hres HW0 HRT0 hty
                    have x3 := HBX9.out.x3
                    have hs9 := HBX9.out.size
                    have HTY : Hid (∀ q, q < t.length → 1 ≤ nth t q ∧ nth t q ≤ 3) := by
                      intro q hq
                      have hfn : 0 ≤ (m.frames[i]!).fn ∧ (m.frames[i]!).fn < p.length := HFN.out i hi
                      exact Mz.wantOf_ty HFIT.out hfn HWT.out _ (nth_mem hq)
                    by_cases hsl : tl = x.stack.length
                    · have d3 : ((tl : Int) != (x.stack.length : Int)) = false := by rw [hsl]; simp
                      have HSL := Lib.hid hsl
                      have hsl1 : tl ≤ x.stack.length := by omega
                      have hsl2 : x.stack.length ≤ tl := by omega
                      clear hsl
                      go_wp2_with fail
                      have X3 := Lib.hid x3
                      clear x3
                      go_loopw [17] (fun i wr => ∃ j : Nat, j ≤ tl ∧ i = .int .i64 j ∧ AsTo x.stack t j ∧ Below w9.heap.size w9 wr) (fun i _ => tl - (intOf i).toNat)
                      case atStart => exact ⟨0, Nat.zero_le _, rfl, fun i hi => by omega, Below.refl _ _⟩
                      case round =>
                        obtain ⟨j, hj, rfl, hall, hbw⟩ := hrel
                        have hsw := hbw.size
                        have HBW := Lib.hid hbw
                        have HBR := Lib.hid (HB9.out.trans (hbw.mono HB9.out.size))
                        have BX := HBX9.out.frame hbw
                        have x3 := BX.x3
                        by_cases hlt : j < tl
                        · have hltx : j < x.stack.length := by omega
                          have hltf : j < t.length := by have := HTL.out; omega
                          obtain ⟨vb, vo, rfl, hvB, cr0, cr1⟩ := (RS.out.frame (HBR.out.mono hB)).at hltx
                          obtain ⟨tb, tx, rfl, htB, ct⟩ := (HRT.out.frame hbw).at hltf
                          have hlo : (0 : Int) ≤ (j : Int) := by omega
                          have hlf : (j : Int) < (tl : Int) := by omega
                          have hlx : (j : Int) < (x.stack.length : Int) := by omega
                          obtain ⟨v, hv⟩ : ∃ v, v = nth x.stack j := ⟨_, rfl⟩
                          obtain ⟨ty, ht⟩ : ∃ ty, ty = nth t j := ⟨_, rfl⟩
                          rw [← hv] at cr0 cr1
                          rw [← ht] at ct
                          have HVT := Lib.hid (And.intro hv ht)
                          have AS := Lib.hid (refIsAs_any v ty wr.drew)
                          have hvs : vb < wr.heap.size := by omega
                          have hts : tb < wr.heap.size := by omega
                          have hgs : w.heap.size + 1 + 1 < wr.heap.size := by omega
                          have C0 := Lib.hid cr0
                          have C1 := Lib.hid cr1
                          have CT := Lib.hid ct
                          have CX := Lib.hid x3
                          clear hbw hv ht BX
                          go_wp2_with fail
                          go_region_held3 (fun w' => w'.cell? ⟨w.heap.size + 1 + 1, 3, none⟩ = some (.slice (some ⟨vb, vo, none⟩) x.stack.length sc) ∧ w'.cell? ⟨vb, vo + j * 2, none⟩ = some (.bool v.ref) ∧ w'.cell? ⟨vb, vo + j * 2 + 1, none⟩ = some (.int .i64 v.n) ∧ w'.cell? ⟨tb, tx + j, none⟩ = some (.int .i64 ty)) (first | go_keep | exact kk) (first | (go_at_call 112; refine AS.out.mono ?_; rintro e w10 ⟨rfl, hb10⟩; have hcc := (bcell hb10).1; have kk : w10.cell? ⟨w.heap.size + 1 + 1, 3, none⟩ = some (.slice (some ⟨vb, vo, none⟩) x.stack.length sc) ∧ w10.cell? ⟨vb, vo + j * 2, none⟩ = some (.bool v.ref) ∧ w10.cell? ⟨vb, vo + j * 2 + 1, none⟩ = some (.int .i64 v.n) ∧ w10.cell? ⟨tb, tx + j, none⟩ = some (.int .i64 ty) := ⟨(hcc _ _ hgs).trans CX.out, (hcc _ _ hvs).trans C0.out, (hcc _ _ hvs).trans C1.out, (hcc _ _ hts).trans CT.out⟩))
                          have HB10 := Lib.hid (HBW.out.trans ((((Below.refl _ _).drew).trans hb10).mono hsw))
                          clear hcc hb10 kk cr0 cr1 ct
                          cases hx : Mz.asT v ty with
                          | true =>
                            have HX := Lib.hid hx
                            clear hx
                            go_wp2_with fail
                            go_roundw
                            case rel => exact ⟨j + 1, by omega, by go_num, hall.succ (by rw [← HVT.out.1, ← HVT.out.2]; exact HX.out), HB10.out⟩
                            case measure => simp [intOf]; omega
                          | false =>
                            have HX := Lib.hid hx
                            clear hx
                            go_wp2_with fail
                            go_ret
                            refine ⟨ret_int ?_, HB9.out.trans (HB10.out.mono HB9.out.size)⟩
                            have e1 : t.length = x.stack.length := by have := HSL.out; have := HTL.out; omega
                            rw [HEQ.out, HWT.out]; unfold Mz.checkStack; simp only
                            rw [if_neg (by omega), if_pos (Mz.asAll_stop e1.symm hltf (by have h1 := HX.out; rw [HVT.out.1, HVT.out.2] at h1; exact h1))]
                        · have HAS : Hid (Mz.asAll x.stack t = true) := hall.end (by have := HSL.out; have := HTL.out; omega) (by have := HTL.out; omega)
                          obtain rfl : j = tl := by omega
                          clear hbw hall BX
                          go_wp2_with fail
                          go_ret
                          refine ⟨ret_int ?_, HBR.out⟩
                          have e1 : t.length = x.stack.length := by have := HSL.out; have := HTL.out; omega
                          rw [HEQ.out, HWT.out]; unfold Mz.checkStack; simp only
                          rw [if_neg (by omega), if_neg (by rw [HAS.out]; decide)]
                    · have d3 : ((tl : Int) != (x.stack.length : Int)) = true := by simpa [Int.natCast_inj] using hsl
                      have HSL := Lib.hid hsl
                      clear hsl
                      go_wp2_with fail
                      go_ret
                      refine ⟨ret_int ?_, HB9.out⟩
                      have e1 : t.length ≠ x.stack.length := by have := HSL.out; have := HTL.out; omega
                      rw [HEQ.out, HWT.out]; unfold Mz.checkStack; simp only
                      rw [if_pos e1]
              · have HWT : Hid (Mz.wantOf p m i = none) := by
                  unfold Hid; rw [HW.out]; unfold waitOf; rw [if_pos]; right
                  rw [← HFX.out]; intro h; exact hop ⟨by rw [h], by rw [h]⟩
                by_cases hc : (nth f.code jj).code = 12
                · have hca : (nth f.code jj).a ≠ (k2 : Int) := fun h => hop ⟨hc, h⟩
                  have e2 : ((nth f.code jj).a == (k2 : Int)) = false := by simpa using hca
                  have e3 : ((nth f.code jj).a != (k2 : Int)) = true := by simpa using hca
                  rw [hc] at r0
                  clear hop hca hc
                  go_wp2_with fail
                  go_ret
                  exact ⟨ret_int (by rw [HEQ.out, HWT.out]; rfl), HB8.out⟩
                · have e2 : ((nth f.code jj).code == 12) = false := by simpa using hc
                  have e3 : ((nth f.code jj).code != 12) = true := by simpa using hc
                  clear hop hc
                  go_wp2_with fail
                  go_ret
                  exact ⟨ret_int (by rw [HEQ.out, HWT.out]; rfl), HB8.out⟩
  · have d1 : ((x.locals.length : Int) != (f.locals.length : Int)) = true := by simpa [Int.natCast_inj] using hll
    have HLL := Lib.hid hll
    clear hll
    go_enter Tryz.func70, Tryz.ntmps70
    go_wp2_with fail
    go_ret
    exact ⟨ret_int (by rw [HE.out, Mz.frameErr_len HLL.out]), ((((Below.refl _ _).alloc (Nat.le_refl _) _).alloc (by simp) _).alloc (by simp; omega) _).alloc (by simp; omega) _⟩
end Go.Proofs.YthdomhejkbpabaaGreat
