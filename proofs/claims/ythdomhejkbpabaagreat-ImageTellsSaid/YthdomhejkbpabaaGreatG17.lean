/- Lemmas: All. -/
import Derived.Test.YthdomhejkbpabaaGreatG16
set_option linter.unusedVariables false
set_option linter.unusedSimpArgs false
/- The checker's look at a whole machine. -/
namespace Go.Proofs.YthdomhejkbpabaaGreat
open Go.RowKit

theorem parts_status {p : List Mz.Fun} {m : Mz.Mach} (h : Mz.btw m.status 0 3 = false) : Mz.checkRight p m = 6 := by rw [Mz.checkRight_parts, if_pos h]
theorem parts_trap {p : List Mz.Fun} {m : Mz.Mach} (h : Mz.btw m.status 0 3 = true) (h2 : Mz.trapOk m = false) : Mz.checkRight p m = 1 := by rw [Mz.checkRight_parts, if_neg (by rw [h]; decide), if_pos h2]
theorem parts_blocks {p : List Mz.Fun} {m : Mz.Mach} (h : Mz.btw m.status 0 3 = true) (h2 : Mz.trapOk m = true) (h3 : Mz.checkBlocks m.blocks ≠ 0) : Mz.checkRight p m = Mz.checkBlocks m.blocks := by rw [Mz.checkRight_parts, if_neg (by rw [h]; decide), if_neg (by rw [h2]; decide), if_pos h3]
theorem parts_box {p : List Mz.Fun} {m : Mz.Mach} (h : Mz.btw m.status 0 3 = true) (h2 : Mz.trapOk m = true) (h3 : Mz.checkBlocks m.blocks = 0) (h4 : Mz.boxErr m ≠ 0) : Mz.checkRight p m = Mz.boxErr m := by rw [Mz.checkRight_parts, if_neg (by rw [h]; decide), if_neg (by rw [h2]; decide), if_neg (by rw [h3]; decide), if_pos h4]
theorem parts_frames {p : List Mz.Fun} {m : Mz.Mach} (h : Mz.btw m.status 0 3 = true) (h2 : Mz.trapOk m = true) (h3 : Mz.checkBlocks m.blocks = 0) (h4 : Mz.boxErr m = 0) (h5 : Mz.framesErr p m ≠ 0) : Mz.checkRight p m = Mz.framesErr p m := by rw [Mz.checkRight_parts, if_neg (by rw [h]; decide), if_neg (by rw [h2]; decide), if_neg (by rw [h3]; decide), if_neg (by rw [h4]; decide), if_pos h5]
theorem parts_wait {p : List Mz.Fun} {m : Mz.Mach} (h : Mz.btw m.status 0 3 = true) (h2 : Mz.trapOk m = true) (h3 : Mz.checkBlocks m.blocks = 0) (h4 : Mz.boxErr m = 0) (h5 : Mz.framesErr p m = 0) : Mz.checkRight p m = Mz.waitErr p m := by rw [Mz.checkRight_parts, if_neg (by rw [h]; decide), if_neg (by rw [h2]; decide), if_neg (by rw [h3]; decide), if_neg (by rw [h4]; decide), if_neg (by rw [h5]; decide)]
theorem box_many {m : Mz.Mach} (h : 10 < m.inp.length ∨ 10 < m.out.length) : Mz.boxErr m = 2 := by unfold Mz.boxErr; rw [if_pos h]
theorem box_int {m : Mz.Mach} (h : ¬ (10 < m.inp.length ∨ 10 < m.out.length)) (h2 : m.inp.all Mz.isInt = false ∨ m.out.all Mz.isInt = false) : Mz.boxErr m = 3 := by
  unfold Mz.boxErr; rw [if_neg h, if_pos]
  rw [List.all_append]; rcases h2 with h2 | h2 <;> simp [h2]
theorem box_ok {m : Mz.Mach} (h : ¬ (10 < m.inp.length ∨ 10 < m.out.length)) (h2 : m.inp.all Mz.isInt = true) (h3 : m.out.all Mz.isInt = true) : Mz.boxErr m = 0 := by
  unfold Mz.boxErr; rw [if_neg h, if_neg]
  rw [List.all_append, h2, h3]; decide

set_option maxHeartbeats 4000000 in
set_option maxRecDepth 100000 in
theorem all_any (w : World) (cb B : Nat) (fv bv iv ov pv : Value) (p : List Mz.Fun) (m : Mz.Mach) (h : Chk w cb fv bv iv ov pv m) (hB : B ≤ w.heap.size) (hfr : RFrms w B fv m.frames) (hbl : RBlocks w B bv m.blocks) (hin : RInts w B iv m.inp) (hout : RInts w B ov m.out) (hp : RFuns w B pv p)
    (hfit : Mz.checkFits p = 0) :
    Calls Tryz.prog 106 #[.pointer (some ⟨cb, 0, none⟩)] w fun e w' => e = .returned (.int .i64 (Mz.checkRight p m)) ∧ Below w.heap.size w w' := by
  have HCH := Lib.hid h
  have HFR := Lib.hid hfr
  have HBL := Lib.hid hbl
  have HI := Lib.hid hin
  have HO := Lib.hid hout
  have HP := Lib.hid hp
  have HFIT := Lib.hid hfit
  obtain ⟨fo, fc, rfl, f1, f2, f3⟩ := hfr.open
  obtain ⟨bo, bc, rfl, b1, b2, b3⟩ := hbl.open
  obtain ⟨io, ic, rfl, i1, i2, i3⟩ := hin.open
  obtain ⟨oo, oc, rfl, o1, o2, o3⟩ := hout.open
  obtain ⟨po, pc, rfl, p1, p2, p3⟩ := hp.open
  unfold maxLen at f2 b2 i2 o2 p2
  obtain ⟨g1, c0, c1, c2, c3, c4, c5, c6⟩ := h
  clear hfr hbl hin hout hp hfit
  cases h1 : Mz.btw m.status 0 3 with
  | false =>
    have H1 := Lib.hid h1
    have d3 : (m.status == 3) = false := by
      cases hd : m.status == 3 with
      | false => rfl
      | true => rw [beq_iff_eq] at hd; rw [hd] at h1; simp [Mz.btw] at h1
    go_enter Tryz.func106, Tryz.ntmps106
    go_wp2_with fail
    refine (mwithin_any _ _ _ _).mono ?_
    rintro e w' ⟨rfl, rfl⟩
    go_wp2_with fail
    go_ret
    exact ⟨ret_int (by rw [parts_status H1.out]), Below.refl _ _⟩
  | true =>
    have H1 := Lib.hid h1
    have hd3 : ((m.status == 3) = true ∧ Hid (Mz.trapOk m = Mz.btw m.trap 1 5)) ∨ ((m.status == 3) = false ∧ Hid (Mz.trapOk m = Mz.btw m.trap 0 0)) := by
      unfold Hid Mz.trapOk
      by_cases c : m.status = 3
      · left; simp [c]
      · right; simp [c]
    rcases hd3 with ⟨d3, HT⟩ | ⟨d3, HT⟩
    all_goals
      go_enter Tryz.func106, Tryz.ntmps106
      go_wp2_with fail
      refine (mwithin_any _ _ _ _).mono ?_
      rintro e w' ⟨rfl, rfl⟩
      go_wp2_with fail
      refine (mwithin_any _ _ _ _).mono ?_
      rintro e w' ⟨rfl, rfl⟩
      rw [← HT.out]
      clear h1
      cases h2 : Mz.trapOk m with
      | false =>
        have H2 := Lib.hid h2
        clear h2
        go_wp2_with fail
        go_ret
        exact ⟨ret_int (by rw [parts_trap H1.out H2.out]), Below.refl _ _⟩
      | true =>
        have H2 := Lib.hid h2
        clear h2
        go_wp2_with fail
        refine (blockCheck_any _ m.blocks B _ HBL.out hB).mono ?_
        rintro e w1 ⟨rfl, hb1⟩
        have HB1 := Lib.hid hb1
        have c2' := ((bcell hb1).1 _ _ g1).trans c2
        have c3' := ((bcell hb1).1 _ _ g1).trans c3
        have g1' : cb < w1.heap.size := Nat.lt_of_lt_of_le g1 hb1.size
        clear hb1
        by_cases h3 : Mz.checkBlocks m.blocks = 0
        · have H3 := Lib.hid h3
          have d4 : (Mz.checkBlocks m.blocks != 0) = false := by simpa using h3
          clear h3
          by_cases h10 : 10 < m.inp.length
          · have H4 := Lib.hid (box_many (m := m) (.inl h10))
            go_wp2_with fail
            go_ret
            exact ⟨ret_int (by rw [parts_box H1.out H2.out H3.out (by rw [H4.out]; decide), H4.out]), HB1.out⟩
          have e10 : decide ((10 : Int) < (m.inp.length : Int)) = false := by rw [decide_eq_false_iff_not]; omega
          by_cases k10 : 10 < m.out.length
          · have H4 := Lib.hid (box_many (m := m) (.inr k10))
            go_wp2_with fail
            go_ret
            exact ⟨ret_int (by rw [parts_box H1.out H2.out H3.out (by rw [H4.out]; decide), H4.out]), HB1.out⟩
          have l10 : decide ((10 : Int) < (m.out.length : Int)) = false := by rw [decide_eq_false_iff_not]; omega
          have HN : Hid (¬ (10 < m.inp.length ∨ 10 < m.out.length)) := fun h => h.elim h10 k10
          go_wp2_with fail
          refine (box_any _ m.inp B _ (HI.out.frame (HB1.out.mono hB)) (Nat.le_trans hB HB1.out.size)).mono ?_
          rintro e w2 ⟨rfl, hb2⟩
          have HB2 := Lib.hid (via0 HB1.out HB1.out.size hb2)
          have c3'' := ((bcell hb2).1 _ _ g1').trans c3'
          have g2 : cb < w2.heap.size := Nat.lt_of_lt_of_le g1' hb2.size
          clear hb2
          cases x1 : m.inp.all Mz.isInt with
          | false =>
            have H4 := Lib.hid (box_int HN.out (.inl x1))
            clear x1
            go_wp2_with fail
            go_ret
            exact ⟨ret_int (by rw [parts_box H1.out H2.out H3.out (by rw [H4.out]; decide), H4.out]), HB2.out⟩
          | true =>
            have X1 := Lib.hid x1
            clear x1
            go_wp2_with fail
            refine (box_any _ m.out B _ (HO.out.frame (HB2.out.mono hB)) (Nat.le_trans hB HB2.out.size)).mono ?_
            rintro e w3 ⟨rfl, hb3⟩
            have HB3 := Lib.hid (via0 HB2.out HB2.out.size hb3)
            clear hb3
            cases x2 : m.out.all Mz.isInt with
            | false =>
              have H4 := Lib.hid (box_int HN.out (.inr x2))
              clear x2
              go_wp2_with fail
              go_ret
              exact ⟨ret_int (by rw [parts_box H1.out H2.out H3.out (by rw [H4.out]; decide), H4.out]), HB3.out⟩
            | true =>
              have H4 := Lib.hid (box_ok HN.out X1.out x2)
              clear x2
              go_wp2_with fail
              refine (frames_any _ cb B _ _ _ fo bo fc bc p m (HCH.out.frame HB3.out) (Nat.le_trans hB HB3.out.size) (HFR.out.frame (HB3.out.mono hB)) (HP.out.frame (HB3.out.mono hB)) HFIT.out (Mz.checkBlocks_zero.1 H3.out).1).mono ?_
              rintro e w4 ⟨rfl, hb4⟩
              have HB4 := Lib.hid (via0 HB3.out HB3.out.size hb4)
              clear hb4
              by_cases h5 : Mz.framesErr p m = 0
              · have H5 := Lib.hid h5
                have d5 : (Mz.framesErr p m != 0) = false := by simpa using h5
                clear h5
                have t0 := ((bcell HB4.out).1 _ _ g1).trans c0
                have t2 := ((bcell HB4.out).1 _ _ g1).trans c2
                have t4 := ((bcell HB4.out).1 _ _ g1).trans c4
                have t6 := ((bcell HB4.out).1 _ _ g1).trans c6
                have g4 : cb < w4.heap.size := Nat.lt_of_lt_of_le g1 HB4.out.size
                clear g2 g1' c2' c3' c3'' c0 c1 c2 c3 c4 c5 c6
                by_cases hs : m.status = 1
                · have ds : (m.status != 1) = false := by simpa using hs
                  have HS := Lib.hid hs
                  obtain ⟨j, k, q, hj, hk, hkl, hq, hql, hop⟩ := Mz.wait_at HFIT.out H5.out (by omega)
                  have HOP : Hid (Mz.opAt p m = nth (nth p k).code q) := hop
                  have hk' : (nth m.frames j).fn = (k : Int) := hk
                  have hq' : (nth m.frames j).pc = (q : Int) := hq
                  have hql' : q < (nth p k).code.length := hql
                  obtain ⟨b, o, lv, sv, rfl, hbB, q0, q1, q2, q3, rl, rs⟩ := (HFR.out.frame (HB4.out.mono hB)).at (i := j) (by omega)
                  obtain ⟨lo, lc, rfl, _, _, _⟩ := rl.open
                  obtain ⟨so, sc, rfl, _, _, _⟩ := rs.open
                  obtain ⟨fb, fx, gl, gc, rfl, fB, f0, f1', f2', f3', rgl, rgc⟩ := (HP.out.frame (HB4.out.mono hB)).at hkl
                  obtain ⟨gco, gcc, rfl, gc1, gc2, gc3⟩ := rgc.open
                  obtain ⟨ob, ox, rfl, oB, r0, r1⟩ := rgc.at hql'
                  rw [hk'] at q0
                  rw [hq'] at q1
                  have hs4 := HB4.out.size
                  have eW : IntKind.i64.wrap ((m.frames.length : Int) - 1) = (j : Int) := by rw [IntWalk.i64_in _ (by omega)]; omega
                  have j0 : (0 : Int) ≤ (j : Int) := by omega
                  have j1 : (j : Int) < (m.frames.length : Int) := by omega
                  have k0 : (0 : Int) ≤ (k : Int) := by omega
                  have k1 : (k : Int) < (p.length : Int) := by omega
                  have m0 : (0 : Int) ≤ (q : Int) := by omega
                  have m1 : (q : Int) < ((nth p k).code.length : Int) := by omega
                  have hb4 : b < w4.heap.size := by omega
                  have hfb4 : fb < w4.heap.size := by omega
                  have hob4 : ob < w4.heap.size := by omega
                  have HJ := Lib.hid hj
                  clear hs hop hk hk' hq hq' hql rl rs rgl rgc hj
                  go_wp2_with fail
                  go_region_held3 (fun w' => w'.cell? ⟨cb, 0, none⟩ = some (.slice (some ⟨b, o, none⟩) m.frames.length fc) ∧ w'.cell? ⟨b, o + j * 4, none⟩ = some (.int .i64 k) ∧ w'.cell? ⟨b, o + j * 4 + 1, none⟩ = some (.int .i64 q) ∧ w'.cell? ⟨b, o + j * 4 + 2, none⟩ = some (.slice lo (nth m.frames j).locals.length lc) ∧ w'.cell? ⟨b, o + j * 4 + 3, none⟩ = some (.slice so (nth m.frames j).stack.length sc)) (go_keep) (fail)
                  have HBF := Lib.hid (HB4.out.trans ((((Below.refl _ _).alloc (Nat.le_refl _) (.cells #[.int .i64 k, .int .i64 q, .slice lo (nth m.frames j).locals.length lc, .slice so (nth m.frames j).stack.length sc] 97)).drew).mono hs4))
                  obtain ⟨wz, hwz⟩ : ∃ wz, wz = (w4.alloc (.cells #[.int .i64 k, .int .i64 q, .slice lo (nth m.frames j).locals.length lc, .slice so (nth m.frames j).stack.length sc] 97)).drew := ⟨_, rfl⟩
                  rw [← hwz] at HBF ⊢
                  have n0 : wz.cell? ⟨w4.heap.size, 0, none⟩ = some (.int .i64 k) := by rw [hwz, cell_drew]; exact cell_at rfl rfl
                  have n1 : wz.cell? ⟨w4.heap.size, 1, none⟩ = some (.int .i64 q) := by rw [hwz, cell_drew]; exact cell_at rfl rfl
                  have n2 : wz.cell? ⟨cb, 2, none⟩ = some (.slice io m.inp.length ic) := by rw [hwz, cell_drew, cell_old g4]; exact t2
                  have n6 : wz.cell? ⟨cb, 6, none⟩ = some (.slice (some ⟨fb, fx, none⟩) p.length pc) := by rw [hwz, cell_drew, cell_old g4]; exact t6
                  have n3 : wz.cell? ⟨fb, fx + k * 4 + 3, none⟩ = some (.slice (some ⟨ob, ox, none⟩) (nth p k).code.length gcc) := by rw [hwz, cell_drew, cell_old hfb4]; exact f3'
                  have nr : wz.cell? ⟨ob, ox + q * 2, none⟩ = some (.int .i64 (nth (nth p k).code q).code) := by rw [hwz, cell_drew, cell_old hob4]; exact r0
                  clear hwz t0 t2 t4 t6 f0 f1' f2' f3' r0 r1 q0 q1 q2 q3
                  by_cases hin : 0 < m.inp.length
                  · have HW : Hid (Mz.waitErr p m = 4) := by
                      unfold Hid; rw [Mz.waitErr_at HS.out, if_pos (.inl (List.length_pos_iff.1 hin))]
                    have di : decide ((0 : Int) < (m.inp.length : Int)) = true := by rw [decide_eq_true_iff]; omega
                    have di' : decide (0 < m.inp.length) = true := by rw [decide_eq_true_iff]; omega
                    clear hin
                    go_wp2_with fail
                    go_quiet (fail)
                    go_wp2_with fail
                    go_ret
                    exact ⟨ret_int (by rw [parts_wait H1.out H2.out H3.out H4.out H5.out, HW.out]), HBF.out.trans (below_drewN _ _ _)⟩
                  · have di : decide ((0 : Int) < (m.inp.length : Int)) = false := by rw [decide_eq_false_iff_not]; omega
                    have di' : decide (0 < m.inp.length) = false := by rw [decide_eq_false_iff_not]; omega
                    have HI0 : Hid (m.inp = []) := List.eq_nil_of_length_eq_zero (by omega)
                    clear hin
                    by_cases hc : (nth (nth p k).code q).code = 21
                    · have HW : Hid (Mz.waitErr p m = 0) := by
                        unfold Hid; rw [Mz.waitErr_at HS.out, if_neg]
                        rintro (h | h)
                        · exact h HI0.out
                        · rw [HOP.out] at h; exact h hc
                      have dc : ((nth (nth p k).code q).code != 21) = false := by simpa using hc
                      clear hc
                      go_wp2_with fail
                      go_quiet (fail)
                      go_wp2_with fail
                      go_ret
                      exact ⟨ret_int (by rw [parts_wait H1.out H2.out H3.out H4.out H5.out, HW.out]), HBF.out.trans (below_drewN _ _ _)⟩
                    · have HW : Hid (Mz.waitErr p m = 4) := by
                        unfold Hid; rw [Mz.waitErr_at HS.out, if_pos (.inr (by rw [HOP.out]; exact hc))]
                      have dc : ((nth (nth p k).code q).code != 21) = true := by simpa using hc
                      clear hc
                      go_wp2_with fail
                      go_quiet (fail)
                      go_wp2_with fail
                      go_ret
                      exact ⟨ret_int (by rw [parts_wait H1.out H2.out H3.out H4.out H5.out, HW.out]), HBF.out.trans (below_drewN _ _ _)⟩
                · have ds : (m.status != 1) = true := by simpa using hs
                  have HS : Hid (Mz.waitErr p m = 0) := by unfold Hid Mz.waitErr; rw [if_neg (fun h => hs h.1)]
                  clear hs
                  go_wp2_with fail
                  go_ret
                  exact ⟨ret_int (by rw [parts_wait H1.out H2.out H3.out H4.out H5.out, HS.out]), HB4.out⟩
              · have H5 := Lib.hid h5
                have d5 : (Mz.framesErr p m != 0) = true := by simpa using h5
                clear h5
                go_wp2_with fail
                go_ret
                exact ⟨ret_int (by rw [parts_frames H1.out H2.out H3.out H4.out H5.out]), HB4.out⟩
        · have H3 := Lib.hid h3
          have d4 : (Mz.checkBlocks m.blocks != 0) = true := by simpa using h3
          clear h3
          go_wp2_with fail
          go_ret
          exact ⟨ret_int (by rw [parts_blocks H1.out H2.out H3.out]), HB1.out⟩
end Go.Proofs.YthdomhejkbpabaaGreat
