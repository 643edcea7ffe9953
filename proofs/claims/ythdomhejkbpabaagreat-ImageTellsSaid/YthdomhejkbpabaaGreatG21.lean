/- Lemmas: RefRight2. -/
import Derived.Test.YthdomhejkbpabaaGreatG20
set_option linter.unusedVariables false
set_option linter.unusedSimpArgs false
/- The reference's check of a machine, behind its blocks. -/
namespace Go.Proofs.YthdomhejkbpabaaGreat
open Go.RowKit

theorem sent_stop {a b : List Int} {j : Nat} (hj : j < (a ++ b).length) (h : Mz.isInt (nth (a ++ b) j) = false) : a.all Mz.isInt = false ∨ b.all Mz.isInt = false := by
  have := all_stop hj h
  rw [List.all_append] at this
  cases h1 : a.all Mz.isInt with
  | false => exact .inl rfl
  | true => rw [h1] at this; simpa using this
theorem sent_all {a b : List Int} (h : (a ++ b).all Mz.isInt = true) : a.all Mz.isInt = true ∧ b.all Mz.isInt = true := by
  rw [List.all_append] at h; simpa using h

set_option maxHeartbeats 8000000 in
set_option maxRecDepth 100000 in
theorem refRight_high (pv mv : Value) (p : List Mz.Fun) (m : Mz.Mach) (B : Nat) (w : World) (hB : B ≤ w.heap.size) (hp : RProg w B pv p) (hm : RMach w B mv m) (hfit : Mz.checkFits p = 0)
    (h1 : Mz.btw m.status 0 3 = true) (h2 : Mz.trapOk m = true) (h3 : Mz.checkBlocks m.blocks = 0) :
    Calls Tryz.prog 19 #[pv, mv] w fun e w' => e = .returned (.int .i64 (Mz.checkRight p m)) ∧ Below w.heap.size w w' := by
  have HPR : Hid (RProg w B pv p) := hp
  have HMR : Hid (RMach w B mv m) := hm
  obtain ⟨fp, rfl, hp⟩ := hp
  obtain ⟨fv, bv, iv, ov, rfl, hfr, hbl, hin, hout⟩ := hm
  have HBL := Lib.hid hbl
  have HFR := Lib.hid hfr
  have HI := Lib.hid hin
  have HO := Lib.hid hout
  have HP := Lib.hid hp
  have HFIT := Lib.hid hfit
  obtain ⟨fo, fc, rfl, f1, f2, f3⟩ := hfr.open
  obtain ⟨bo, bc, rfl, b1, b2, b3⟩ := hbl.open
  obtain ⟨io, ic, rfl, i1, i2, i3⟩ := hin.open
  obtain ⟨oo, oc, rfl, o1, o2, o3⟩ := hout.open
  obtain ⟨po, pc, rfl, p1, p2, p3⟩ := hp.open
  unfold maxLen at f2 b2 i2 o2 p2
  have HB2 := Lib.hid (show Below w.heap.size w ((w.alloc (.cells #[.slice po p.length pc] 24)).alloc (.cells #[.slice fo m.frames.length fc, .slice bo m.blocks.length bc, .slice io m.inp.length ic, .slice oo m.out.length oc, .int .i64 m.status, .int .i64 m.trap] 29)) from ((Below.refl _ _).alloc (Nat.le_refl _) _).alloc (by simp) _)
  have HBX2 := Lib.hid (Boxes2.made w fo bo io oo po fc bc ic oc pc p m)
  have HNB : Hid (m.blocks.length ≤ 8) := (Mz.checkBlocks_zero.1 h3).1
  have H1 := Lib.hid h1
  have H2 := Lib.hid h2
  have H3 := Lib.hid h3
  have d4 : (Mz.checkBlocks m.blocks != 0) = false := by simpa using h3
  have hv : ((m.status == 3) = true ∧ (m.status != 3) = false ∧ Mz.btw m.trap 1 5 = true) ∨ ((m.status == 3) = false ∧ (m.status != 3) = true ∧ (m.trap != 0) = false) := by
    by_cases c : m.status = 3
    · left; rw [trap_is3 c] at h2; exact ⟨by simpa using c, by simpa using c, h2⟩
    · right; rw [trap_not3 c] at h2; exact ⟨by simpa using c, by simpa using c, by simpa using h2⟩
  clear hfr hbl hin hout hp hfit h2 h3
  rcases hv with ⟨d3, d3', d5⟩ | ⟨d3, d3', d5⟩
  all_goals
    go_enter Tryz.func19, Tryz.ntmps19
    go_wp2_with fail
    refine (between_any _ _ _ _).mono ?_
    rintro e w' ⟨rfl, rfl⟩
    go_wp2_with fail
    try (go_at_call 68; refine (between_any _ _ _ _).mono ?_; rintro e w' ⟨rfl, rfl⟩; go_wp2_with fail)
    clear h1 d3' d5
    refine (refCheckBlocks_any _ m.blocks B _ (HBL.out.frame (HB2.out.mono hB)) (by simp; omega)).mono ?_
    rintro e w' ⟨rfl, rfl⟩
    obtain ⟨w2, hw2⟩ : ∃ w2, w2 = ((w.alloc (.cells #[.slice po p.length pc] 24)).alloc (.cells #[.slice fo m.frames.length fc, .slice bo m.blocks.length bc, .slice io m.inp.length ic, .slice oo m.out.length oc, .int .i64 m.status, .int .i64 m.trap] 29)) := ⟨_, rfl⟩
    rw [← hw2] at HB2 HBX2 ⊢
    clear hw2
    have m2 := HBX2.out.m2
    have m3 := HBX2.out.m3
    have hs2 := HBX2.out.size
    by_cases h10 : 10 < m.inp.length
    · have H4 := Lib.hid (box_many (m := m) (.inl h10))
      go_wp2_with fail
      go_ret
      exact ⟨ret_int (by rw [parts_box H1.out H2.out H3.out (by rw [H4.out]; decide), H4.out]), HB2.out⟩
    have e10 : decide ((10 : Int) < (m.inp.length : Int)) = false := by rw [decide_eq_false_iff_not]; omega
    by_cases k10 : 10 < m.out.length
    · have H4 := Lib.hid (box_many (m := m) (.inr k10))
      go_wp2_with fail
      go_ret
      exact ⟨ret_int (by rw [parts_box H1.out H2.out H3.out (by rw [H4.out]; decide), H4.out]), HB2.out⟩
    have l10 : decide ((10 : Int) < (m.out.length : Int)) = false := by rw [decide_eq_false_iff_not]; omega
    have HN : Hid (¬ (10 < m.inp.length ∨ 10 < m.out.length)) := fun h => h.elim h10 k10
    have hb0 : Below w2.heap.size w2 (w2.alloc (.cells #[] 3)).drew := ((Below.refl _ _).alloc (Nat.le_refl _) _).drew
    have OW0 := Lib.hid (owns_drew (owns_empty w2 3 1 w2.heap.size (Nat.le_refl _)))
    have HB0 := Lib.hid hb0
    have RI1 := Lib.hid ((HI.out.frame (HB2.out.mono hB)).frame (hb0.mono (Nat.le_trans hB HB2.out.size)))
    have RO1 := Lib.hid ((HO.out.frame (HB2.out.mono hB)).frame (hb0.mono (Nat.le_trans hB HB2.out.size)))
    have HBS := Lib.hid (Nat.le_trans hB HB2.out.size)
    have HBY : Hid ((0 + m.inp.length) * 8 ≤ 140737488355328 ∧ (0 + m.inp.length + m.out.length) * 8 ≤ 140737488355328) := by unfold Hid; omega
    have hgs : w.heap.size + 1 < w2.heap.size := by omega
    have tok1 : True := trivial
    clear hb0
    go_wp2_with fail
    go_region_held3 (fun w' => w'.cell? ⟨w.heap.size + 1, 2, none⟩ = some (.slice io m.inp.length ic) ∧ w'.cell? ⟨w.heap.size + 1, 3, none⟩ = some (.slice oo m.out.length oc)) (first | go_keep | exact kk)
      (first
        | (have _t := tok1; refine step_push_ints (l := m.inp) (by rfl) (by rfl) (by rfl) OW0.out (by rfl) RI1.out HBY.out.1 (by simp) ?_; intro v1 w4 hown1 hgr1 hb1; have kk : w4.cell? ⟨w.heap.size + 1, 2, none⟩ = some (.slice io m.inp.length ic) ∧ w4.cell? ⟨w.heap.size + 1, 3, none⟩ = some (.slice oo m.out.length oc) := ⟨((bcell (HB0.out.trans hb1)).1 _ _ hgs).trans m2, ((bcell (HB0.out.trans hb1)).1 _ _ hgs).trans m3⟩; clear tok1)
        | (refine step_push_ints (l := m.out) (by rfl) (by rfl) (by rfl) hown1 (by rfl) (RO1.out.frame (hb1.mono HBS.out)) HBY.out.2 (Nat.le_trans (Nat.le_refl _) (HB0.out.trans hb1).size) ?_; intro v2 w5 hown2 hgr2 hb2; have kk : w5.cell? ⟨w.heap.size + 1, 2, none⟩ = some (.slice io m.inp.length ic) ∧ w5.cell? ⟨w.heap.size + 1, 3, none⟩ = some (.slice oo m.out.length oc) := ⟨((bcell ((HB0.out.trans hb1).trans hb2)).1 _ _ hgs).trans m2, ((bcell ((HB0.out.trans hb1).trans hb2)).1 _ _ hgs).trans m3⟩))
    have hb5 : Below w2.heap.size w2 w5 := (HB0.out.trans hb1).trans hb2
    obtain ⟨L, hL⟩ : ∃ L, L = m.inp ++ m.out := ⟨_, rfl⟩
    have hLl : L.length ≤ 20 := by rw [hL, List.length_append]; omega
    have hri : RInts w5 w5.heap.size v2 L := by
      refine RInts.of_owns (base := w2.heap.size) (e := 3) (n := L.length) ?_ (by omega)
      have e : L.length = 0 + m.inp.length + m.out.length := by rw [hL, List.length_append]; omega
      rw [e, hL, List.map_append]; simpa using hown2
    have HL := Lib.hid hL
    have HRI := Lib.hid hri
    obtain ⟨ro, rc, rfl, r1, r2, r3⟩ := hri.open
    unfold maxLen at r2
    have HBX5 := Lib.hid (HBX2.out.frame hb5)
    have HB5 := Lib.hid (HB2.out.trans (hb5.mono HB2.out.size))
    have m0 := HBX5.out.m0
    have hs5 := HBX5.out.size
    clear hown1 hown2 hgr1 hgr2 hb1 hb2 hb5 kk m2 m3 hs2 HBX2 RI1 RO1 OW0 HB0 HBS HBY hgs hL hri HB2
    go_wp2_with fail
    go_loop [7] (fun i => ∃ j : Nat, j ≤ L.length ∧ i = .int .i64 j ∧ AllTo Mz.isInt L j) (fun i => L.length - (intOf i).toNat)
    case atStart => exact ⟨0, Nat.zero_le _, rfl, fun i hi => by omega⟩
    case round =>
      obtain ⟨j, hj, rfl, hall⟩ := hrel
      by_cases hlt : j < L.length
      · obtain ⟨rb, rx, rfl, hrb, cr⟩ := HRI.out.at hlt
        have hlo : (0 : Int) ≤ (j : Int) := by omega
        have hlf : (j : Int) < (L.length : Int) := by omega
        go_wp2_with fail
        refine (refIsInt_any _ _).mono ?_
        rintro e w' ⟨rfl, rfl⟩
        cases hx : Mz.isInt (nth L j) with
        | true =>
          have HX := Lib.hid hx
          clear hx
          go_wp2_with fail
          go_round
          case rel => exact ⟨j + 1, by omega, by go_num, hall.succ HX.out⟩
          case measure => simp [intOf]; omega
        | false =>
          have HX := Lib.hid hx
          clear hx
          have H4 : Hid (Mz.boxErr m = 3) := by
            unfold Hid
            have hlt' := hlt
            have hx' := HX.out
            rw [HL.out] at hlt' hx'
            exact box_int HN.out (sent_stop hlt' hx')
          go_wp2_with fail
          go_ret
          exact ⟨ret_int (by rw [parts_box H1.out H2.out H3.out (by rw [H4.out]; decide), H4.out]), HB5.out⟩
      · have hall' := hall.end hlt
        rw [HL.out] at hall'
        have H4 := Lib.hid (box_ok HN.out (sent_all hall').1 (sent_all hall').2)
        obtain rfl : j = L.length := by omega
        clear hall hall' HRI
        by_cases h6 : 6 < m.frames.length
        · have H5 := Lib.hid (Mz.framesErr_many (p := p) h6)
          go_wp2_with fail
          go_ret
          exact ⟨ret_int (by rw [parts_frames H1.out H2.out H3.out H4.out (by rw [H5.out]; decide), H5.out]), HB5.out⟩
        have d6 : decide ((6 : Int) < (m.frames.length : Int)) = false := by rw [decide_eq_false_iff_not]; omega
        have m4 := HBX5.out.m4
        by_cases hn : m.frames.length = 0
        · have dn : ((m.frames.length : Int) == 0) = true := by rw [beq_iff_eq]; omega
          have dp : decide ((0 : Int) < (m.frames.length : Int)) = false := by rw [decide_eq_false_iff_not]; omega
          have dp' : decide (0 < m.frames.length) = false := by rw [decide_eq_false_iff_not]; omega
          by_cases hs : m.status = 2
          · have ds : (m.status != 2) = false := by simpa using hs
            have ds1 : (m.status == 1) = false := by simp [hs]
            have H5 : Hid (Mz.framesErr p m = 0) := by unfold Hid; rw [Mz.framesErr_none hn, if_pos hs]
            have H6 : Hid (Mz.waitErr p m = 0) := by unfold Hid Mz.waitErr; rw [if_neg (fun h => by omega)]
            clear hn hs
            go_wp2_with fail
            go_loop [9] (fun i => i = .int .i64 0) (fun i => 0)
            case atStart => rfl
            case round =>
              obtain rfl := hrel
              go_wp2_with fail
              go_loop [10] (fun i => i = .int .i64 0) (fun i => 0)
              case atStart => rfl
              case round =>
                obtain rfl := hrel
                go_wp2_with fail
                go_quiet (fail)
                go_wp2_with fail
                go_ret
                exact ⟨ret_int (by rw [parts_wait H1.out H2.out H3.out H4.out H5.out, H6.out]), HB5.out.trans (below_drewN _ _ _)⟩
          · have ds : (m.status != 2) = true := by simpa using hs
            have H5 : Hid (Mz.framesErr p m = 5) := by unfold Hid; rw [Mz.framesErr_none hn, if_neg hs]
            clear hn hs
            go_wp2_with fail
            go_ret
            exact ⟨ret_int (by rw [parts_frames H1.out H2.out H3.out H4.out (by rw [H5.out]; decide), H5.out]), HB5.out⟩
        have dn : ((m.frames.length : Int) == 0) = false := by rw [beq_eq_false_iff_ne]; omega
        have dp : decide ((0 : Int) < (m.frames.length : Int)) = true := by rw [decide_eq_true_iff]; omega
        have dp' : decide (0 < m.frames.length) = true := by rw [decide_eq_true_iff]; omega
        by_cases hs : m.status = 2
        · have ds : (m.status == 2) = true := by simpa using hs
          have H5 := Lib.hid (Mz.framesErr_done (p := p) (m := m) (by omega) (by omega) hs)
          clear hs
          go_wp2_with fail
          go_ret
          exact ⟨ret_int (by rw [parts_frames H1.out H2.out H3.out H4.out (by rw [H5.out]; decide), H5.out]), HB5.out⟩
        have ds : (m.status == 2) = false := by simpa using hs
        have HS := Lib.hid hs
        clear hs
        have eP : IntKind.i64.wrap ((p.length : Int) - 1) = p.length - 1 := IntWalk.i64_in _ (by omega)
        go_wp2_with fail
        go_loopw [9] (fun i wr => ∃ j : Nat, j ≤ m.frames.length ∧ i = .int .i64 j ∧ AllTo (Mz.fnIn p) m.frames j ∧ Below w5.heap.size w5 wr) (fun i _ => m.frames.length - (intOf i).toNat)
        case atStart => exact ⟨0, Nat.zero_le _, rfl, fun i hi => by omega, Below.refl _ _⟩
        case round =>
          obtain ⟨j, hj, rfl, hall, hbw⟩ := hrel
          have hsw := hbw.size
          have HBW := Lib.hid hbw
          have HBR := Lib.hid (HB5.out.trans (hbw.mono HB5.out.size))
          have BX := HBX5.out.frame hbw
          by_cases hlt : j < m.frames.length
          · obtain ⟨b, o, lv, sv, rfl, hbB, q0, q1, q2, q3, rl, rs⟩ := (HFR.out.frame (HBR.out.mono hB)).at hlt
            have m0' := BX.m0
            have p0 := BX.p0
            have hbs : b < wr.heap.size := by omega
            have hlo : (0 : Int) ≤ (j : Int) := by omega
            have hlf : (j : Int) < (m.frames.length : Int) := by omega
            have HBN := fun nq => HBW.out.trans (below_drewN wr w5.heap.size nq)
            clear hbw rl rs q1 q2 q3 BX m0 m4
            cases hx : Mz.btw (nth m.frames j).fn 0 ((p.length : Int) - 1) with
            | true =>
              have HX : Hid (Mz.fnIn p (nth m.frames j) = true) := hx
              go_wp2_with fail
              go_quiet ((go_at_call 68; exact Calls.quiet_of_same ((between_any _ _ _ _).mono fun _ _ ⟨h, h'⟩ => ⟨h, h'.symm⟩)))
              have HB6 := Lib.hid (HBN nq)
              clear HBN
              go_wp2_with fail
              go_roundw
              case rel => exact ⟨j + 1, by omega, by go_num, hall.succ HX.out, HB6.out⟩
              case measure => simp [intOf]; omega
            | false =>
              have HX : Hid (Mz.fnIn p (nth m.frames j) = false) := hx
              have H5 := Lib.hid (Mz.framesErr_fn (p := p) (m := m) (by omega) (by omega) HS.out (all_stop hlt HX.out))
              go_wp2_with fail
              go_quiet ((go_at_call 68; exact Calls.quiet_of_same ((between_any _ _ _ _).mono fun _ _ ⟨h, h'⟩ => ⟨h, h'.symm⟩)))
              have HB6 := Lib.hid (HBN nq)
              clear HBN
              go_wp2_with fail
              go_ret
              exact ⟨ret_int (by rw [parts_frames H1.out H2.out H3.out H4.out (by rw [H5.out]; decide), H5.out]), HB5.out.trans (HB6.out.mono HB5.out.size)⟩
          · obtain rfl : j = m.frames.length := by omega
            have HF := Lib.hid (hall.end hlt)
            have HFN : Hid (FnsIn p m) := by
              intro j hj
              have := Mz.all_btw (p := p) (l := m.frames) HF.out j hj
              exact this
            obtain ⟨w6, rfl⟩ : ∃ w6 : World, w6 = wr := ⟨_, rfl⟩
            have HBX6 := Lib.hid BX
            have hn0 : 0 < m.frames.length := by omega
            obtain ⟨b, o, lv, sv, rfl, hbB, q0, q1, q2, q3, rl, rs⟩ := (HFR.out.frame (HBR.out.mono hB)).at hn0
            have m0' := BX.m0
            have hbs : b < w6.heap.size := by omega
            have hl0 : (0 : Int) < (m.frames.length : Int) := by omega
            have e0 : o + 0 * 4 = o := by omega
            rw [e0] at q0
            clear hbw HBW hall rl rs q1 q2 q3 BX m0 m4 e0
            by_cases hf0 : (nth m.frames 0).fn = 0
            · have df : ((nth m.frames 0).fn != 0) = false := by simpa using hf0
              have HF0 := Lib.hid hf0
              clear hf0
              go_wp2_with fail
              go_loopw [10] (fun i wr => ∃ j : Nat, j ≤ m.frames.length ∧ i = .int .i64 j ∧ Hid (∀ i, i < j → Mz.checkFrame p m i = 0) ∧ Below w.heap.size w wr ∧ Below w6.heap.size w6 wr) (fun i _ => m.frames.length - (intOf i).toNat)
              case atStart => exact ⟨0, Nat.zero_le _, rfl, fun i hi => by omega, HBR.out, Below.refl _ _⟩
              case round =>
                obtain ⟨j, hj, rfl, hall, hbw, hbw6⟩ := hrel
                have hsw := hbw6.size
                have HBW := Lib.hid hbw
                have HBW6 := Lib.hid hbw6
                have HBX7 := Lib.hid (HBX6.out.frame hbw6)
                have u0 := HBX7.out.m0
                have u1 := HBX7.out.m1
                have u2 := HBX7.out.m2
                have u3 := HBX7.out.m3
                have u4 := HBX7.out.m4
                have u5 := HBX7.out.m5
                have up := HBX7.out.p0
                clear hbw hbw6
                by_cases hlt : j < m.frames.length
                · have FRAME := Lib.hid (refFrame_any _ _ p m j B wr (Nat.le_trans hB HBW.out.size) (HPR.out.frame (HBW.out.mono hB)) (HMR.out.frame (HBW.out.mono hB)) HFIT.out hlt (by omega) HFN.out HNB.out)
                  go_wp2_with fail
                  refine FRAME.out.mono ?_
                  rintro e w8 ⟨rfl, hb8⟩
                  have HB8 := Lib.hid (via0 HBW.out HBW.out.size hb8)
                  have HB86 := Lib.hid (via0 HBW6.out HBW6.out.size hb8)
                  clear hb8 FRAME
                  by_cases hx : Mz.checkFrame p m j = 0
                  · have dx : (Mz.checkFrame p m j != 0) = false := by simpa using hx
                    have HX := Lib.hid hx
                    clear hx
                    go_wp2_with fail
                    go_roundw
                    case rel => exact ⟨j + 1, by omega, by go_num, fun i hi => by
                      by_cases c : i = j
                      · rw [c]; exact HX.out
                      · exact hall.out i (by omega), HB8.out, HB86.out⟩
                    case measure => simp [intOf]; omega
                  · have dx : (Mz.checkFrame p m j != 0) = true := by simpa using hx
                    have H5 : Hid (Mz.framesErr p m = Mz.checkFrame p m j) := by
                      unfold Hid; rw [Mz.framesErr_each (by omega) (by omega) HS.out HF.out HF0.out, firstErr_range hlt hall.out hx]
                    have HX := Lib.hid hx
                    clear hx
                    go_wp2_with fail
                    go_ret
                    exact ⟨ret_int (by rw [parts_frames H1.out H2.out H3.out H4.out (by rw [H5.out]; exact HX.out), H5.out]), HB8.out⟩
                · obtain rfl : j = m.frames.length := by omega
                  have H5 : Hid (Mz.framesErr p m = 0) := by
                    unfold Hid; rw [Mz.framesErr_each (by omega) (by omega) HS.out HF.out HF0.out, firstErr_range0 hall.out]
                  obtain ⟨w7, rfl⟩ : ∃ w7 : World, w7 = wr := ⟨_, rfl⟩
                  have HBN := Lib.hid (fun nq => HBW.out.trans (below_drewN w7 w.heap.size nq))
                  clear hall
                  by_cases hs1 : m.status = 1
                  · have ds1 : (m.status == 1) = true := by simpa using hs1
                    have HS1 := Lib.hid hs1
                    obtain ⟨jj, k, q, hj2, hk, hkl, hq, hql, hop⟩ := Mz.wait_at HFIT.out H5.out (by omega)
                    have HOP : Hid (Mz.opAt p m = nth (nth p k).code q) := hop
                    have hk' : (nth m.frames jj).fn = (k : Int) := hk
                    have hq' : (nth m.frames jj).pc = (q : Int) := hq
                    have hql' : q < (nth p k).code.length := hql
                    obtain ⟨b', o', lv', sv', he', hbB', z0, z1, z2, z3, rl, rs⟩ := (HFR.out.frame (HBW.out.mono hB)).at (i := jj) (by omega)
                    simp only [Option.some.injEq, Addr.mk.injEq, and_true] at he'
                    obtain ⟨rfl, rfl⟩ := he'
                    obtain ⟨fb, fx, gl, gc, rfl, fB, f0, f1', f2', f3', rgl, rgc⟩ := (HP.out.frame (HBW.out.mono hB)).at hkl
                    obtain ⟨gco, gcc, rfl, gc1, gc2, gc3⟩ := rgc.open
                    obtain ⟨ob, ox, rfl, oB, r0, r1⟩ := rgc.at hql'
                    rw [hk'] at z0
                    rw [hq'] at z1
                    have eW : IntKind.i64.wrap ((m.frames.length : Int) - 1) = (jj : Int) := by rw [IntWalk.i64_in _ (by omega)]; omega
                    have j0 : (0 : Int) ≤ (jj : Int) := by omega
                    have j1 : (jj : Int) < (m.frames.length : Int) := by omega
                    have k0 : (0 : Int) ≤ (k : Int) := by omega
                    have k1 : (k : Int) < (p.length : Int) := by omega
                    have n0 : (0 : Int) ≤ (q : Int) := by omega
                    have n1 : (q : Int) < ((nth p k).code.length : Int) := by omega
                    have HJ := Lib.hid hj2
                    clear hs1 hop hk hk' hq hq' hql rl rs rgl rgc hj2 u1 u3 u4 u5 f0 f1' f2' z2 z3 r1 q0 m0'
                    have u4 := HBX7.out.m4
                    by_cases hin : 0 < m.inp.length
                    · have HW : Hid (Mz.waitErr p m = 4) := by
                        unfold Hid; rw [Mz.waitErr_at HS1.out, if_pos (.inl (List.length_pos_iff.1 hin))]
                      have di : decide ((0 : Int) < (m.inp.length : Int)) = true := by rw [decide_eq_true_iff]; omega
                      have di' : decide (0 < m.inp.length) = true := by rw [decide_eq_true_iff]; omega
                      clear hin
                      go_wp2_with fail
                      go_quiet (fail)
                      go_wp2_with fail
                      go_ret
                      exact ⟨ret_int (by rw [parts_wait H1.out H2.out H3.out H4.out H5.out, HW.out]), HBN.out _⟩
                    · have di : decide ((0 : Int) < (m.inp.length : Int)) = false := by rw [decide_eq_false_iff_not]; omega
                      have di' : decide (0 < m.inp.length) = false := by rw [decide_eq_false_iff_not]; omega
                      have HI0 : Hid (m.inp = []) := List.eq_nil_of_length_eq_zero (by omega)
                      clear hin
                      by_cases hc : (nth (nth p k).code q).code = 21
                      · have HW : Hid (Mz.waitErr p m = 0) := by
                          unfold Hid; rw [Mz.waitErr_at HS1.out, if_neg]
                          rintro (h | h)
                          · exact h HI0.out
                          · rw [HOP.out] at h; exact h hc
                        have dc : ((nth (nth p k).code q).code != 21) = false := by simpa using hc
                        clear hc
                        go_wp2_with fail
                        go_quiet (fail)
                        go_wp2_with fail
                        go_ret
                        exact ⟨ret_int (by rw [parts_wait H1.out H2.out H3.out H4.out H5.out, HW.out]), HBN.out _⟩
                      · have HW : Hid (Mz.waitErr p m = 4) := by
                          unfold Hid; rw [Mz.waitErr_at HS1.out, if_pos (.inr (by rw [HOP.out]; exact hc))]
                        have dc : ((nth (nth p k).code q).code != 21) = true := by simpa using hc
                        clear hc
                        go_wp2_with fail
                        go_quiet (fail)
                        go_wp2_with fail
                        go_ret
                        exact ⟨ret_int (by rw [parts_wait H1.out H2.out H3.out H4.out H5.out, HW.out]), HBN.out _⟩
                  · have ds1 : (m.status == 1) = false := by simpa using hs1
                    have HW : Hid (Mz.waitErr p m = 0) := by unfold Hid Mz.waitErr; rw [if_neg (fun h => hs1 h.1)]
                    clear hs1
                    go_wp2_with fail
                    go_quiet (fail)
                    go_wp2_with fail
                    go_ret
                    exact ⟨ret_int (by rw [parts_wait H1.out H2.out H3.out H4.out H5.out, HW.out]), HBN.out _⟩
            · have df : ((nth m.frames 0).fn != 0) = true := by simpa using hf0
              have H5 := Lib.hid (Mz.framesErr_first (p := p) (m := m) (by omega) (by omega) HS.out HF.out hf0)
              clear hf0
              go_wp2_with fail
              go_ret
              exact ⟨ret_int (by rw [parts_frames H1.out H2.out H3.out H4.out (by rw [H5.out]; decide), H5.out]), HBR.out⟩
end Go.Proofs.YthdomhejkbpabaaGreat
