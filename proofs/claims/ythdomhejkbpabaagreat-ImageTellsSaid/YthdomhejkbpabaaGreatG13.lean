/- Lemmas: Ents, Progs, Progs2. -/
import Derived.Test.YthdomhejkbpabaaGreatG12
import Derived.Deep.DeepCutAuto
import Derived.Test.YthdomhejkbpabaaGreatG05
import Derived.Test.YthdomhejkbpabaaGreatG02
set_option linter.unusedVariables false
set_option linter.unusedSimpArgs false
/- Entries of a function, as the program finds them: Entries of verify. -/
namespace Go.Proofs.YthdomhejkbpabaaGreat
open Go.RowKit

theorem Fit.start {w : World} {lo xb ab mb : Nat} {fv lv cv : Value} {f : Mz.Fun} (hx : xb < lo) (ha : ab < lo) (hm : mb < lo) (hne : ab ≠ mb) (hlo : lo ≤ w.heap.size)
    (h1 : w.rowIs ab 27 f.code.length (fun _ => .slice none 0 0)) (h2 : w.rowIs mb 4 f.code.length (fun _ => .bool false)) (h3 : w.rowIs xb 178 8 (fitCells fv lv cv f f.code.length ab mb (.slice none 0 0))) :
    Fit w lo xb ab mb fv lv cv f (List.replicate f.code.length none) [] (.slice none 0 0) := by
  have hg : ∀ i, i < f.code.length → nth (List.replicate f.code.length (none : Option (List Int))) i = none := fun i hi => by rw [nth_lt (by simpa using hi)]; simp
  refine ⟨hx, by simp, h3, ⟨ha, hm, hne, hlo, ?_, _, by rw [List.length_replicate]; exact h1, fun i hi => ?_⟩, World.ownsRow_nil _ _ _ _, fun i hi v hv => ?_⟩
  · rw [List.length_replicate]
    exact h2.congr fun i hi => by rw [hg i hi]; rfl
  · rw [List.length_replicate] at hi
    rw [hg i hi]
    exact ⟨RInts.nil _ _, fun b o n c e => by cases e⟩
  · rw [List.length_replicate] at hi
    rw [h1.cell hi] at hv
    cases hv
    intro b o n c e
    cases e
theorem fit_row (w : World) (fv lv cv : Value) (f : Mz.Fun) (n ab mb : Nat) : (w.alloc (.cells #[fv, .int .i64 f.params, lv, .int .i64 f.result, cv, .slice (some ⟨ab, 0, none⟩) n n, .slice (some ⟨mb, 0, none⟩) n n, .slice none 0 0] 178)).rowIs w.heap.size 178 8 (fitCells fv lv cv f n ab mb (.slice none 0 0)) := by
  refine World.rowIs_alloc w #[fv, .int .i64 f.params, lv, .int .i64 f.result, cv, .slice (some ⟨ab, 0, none⟩) n n, .slice (some ⟨mb, 0, none⟩) n n, .slice none 0 0] 178 _ (fun i hi => ?_)
  have hi' : i < 8 := by simpa using hi
  match i, hi' with
  | 0, _ => rfl
  | 1, _ => rfl
  | 2, _ => rfl
  | 3, _ => rfl
  | 4, _ => rfl
  | 5, _ => rfl
  | 6, _ => rfl
  | 7, _ => rfl

set_option maxHeartbeats 4000000 in
set_option maxRecDepth 100000 in
theorem entries_any (pv : Value) (p : List Mz.Fun) (k : Nat) (B : Nat) (w : World) (hB : B ≤ w.heap.size) (h : RProg w B pv p) (hk : k < p.length) (hr : Mz.Ready p (nth p k)) :
    Calls Tryz.prog 103 #[pv, .int .i64 k] w fun e w' => EntsRes w' e (Mz.entriesSt p (nth p k)) ∧ Below w.heap.size w w' := by
  have hcode := hr.prog.code (nth p k) (by rw [nth_lt hk]; exact List.getElem_mem _)
  obtain ⟨hcne, hc40, hl6, hops⟩ := hcode
  have HR : Hid (Mz.Ready p (nth p k)) := hr
  have HCNE := Lib.hid hcne
  clear hr hops
  obtain ⟨fv, rfl, hfs⟩ := h
  obtain ⟨ao, c, rfl, h1, h2, h3⟩ := hfs.open
  unfold maxLen at h2
  obtain ⟨fb, fo, lv, cv, rfl, fB, q0, q1, q2, q3, hl, hcd⟩ := hfs.at hk
  obtain ⟨lo', lc, rfl, l1, l2, l3⟩ := hl.open
  obtain ⟨co, cc, rfl, c1, c2, c3⟩ := hcd.open
  unfold maxLen at l2 c2
  have hn : 0 < (nth p k).code.length := List.length_pos_iff.2 hcne
  clear hcne
  have g1 : fb < w.heap.size := by omega
  have g2 : fb < w.heap.size + 1 := by omega
  have g3 : fb < w.heap.size + 1 + 1 := by omega
  have hm1 := run_make_row' (P := Tryz.prog) 26 27 (.slice none 0 0) 24 Tryz.underlying26 info_ints rfl .i64 .i64 (nth p k).code.length (by omega) (by omega)
  have hm2 := run_make_row' (P := Tryz.prog) 150 4 (.bool false) 1 Tryz.underlying150 info_bool rfl .i64 .i64 (nth p k).code.length (by omega) (by omega)
  go_enter Tryz.func103, Tryz.ntmps103
  go_upto_region 2 with fail
  go_cut [7] (fun xv wx => ∃ xb ab mb lo : Nat, xv = .pointer (some ⟨xb, 0, none⟩) ∧ Hid (Fit wx lo xb ab mb (.slice (some ⟨fb, fo, none⟩) p.length c) (.slice lo' (nth p k).locals.length lc) (.slice co (nth p k).code.length cc) (nth p k) (List.replicate (nth p k).code.length none) [] (.slice none 0 0)) ∧ Below w.heap.size w wx ∧ (w.heap.size ≤ xb ∧ w.heap.size ≤ ab ∧ w.heap.size ≤ mb ∧ w.heap.size ≤ lo))
  case first =>
    go_region
    all_goals (try go_wp2_with fail)
    · go_meet
      case rel =>
        refine ⟨_, w.heap.size + 1, w.heap.size + 1 + 1, w.heap.size + 1 + 1 + 1 + 1, rfl, ?_, ((((Below.refl _ _).alloc (Nat.le_refl _) _).alloc (by simp) _).alloc (by simp; omega) _).alloc (by simp; omega) _ |>.drew, by omega, by omega, by omega, by omega⟩
        refine Fit.start (by omega) (by omega) (by omega) (by omega) (by simp) ?_ ?_ ?_
        · have := (((World.rowIs_made (w.alloc (.cells #[.slice (some ⟨fb, fo, none⟩) p.length c] 24)) (.slice none 0 0) (nth p k).code.length 27).alloc (.cells (madeCells #[.bool false] (nth p k).code.length) 4)).alloc (.cells #[.slice (some ⟨fb, fo, none⟩) p.length c, .int .i64 (nth p k).params, .slice lo' (nth p k).locals.length lc, .int .i64 (nth p k).result, .slice co (nth p k).code.length cc, .slice (some ⟨w.heap.size + 1, 0, none⟩) (nth p k).code.length (nth p k).code.length, .slice (some ⟨w.heap.size + 1 + 1, 0, none⟩) (nth p k).code.length (nth p k).code.length, .slice none 0 0] 178)).drew
          simpa using this
        · have := ((World.rowIs_made ((w.alloc (.cells #[.slice (some ⟨fb, fo, none⟩) p.length c] 24)).alloc (.cells (madeCells #[.slice none 0 0] (nth p k).code.length) 27)) (.bool false) (nth p k).code.length 4).alloc (.cells #[.slice (some ⟨fb, fo, none⟩) p.length c, .int .i64 (nth p k).params, .slice lo' (nth p k).locals.length lc, .int .i64 (nth p k).result, .slice co (nth p k).code.length cc, .slice (some ⟨w.heap.size + 1, 0, none⟩) (nth p k).code.length (nth p k).code.length, .slice (some ⟨w.heap.size + 1 + 1, 0, none⟩) (nth p k).code.length (nth p k).code.length, .slice none 0 0] 178)).drew
          simpa using this
        · have := (fit_row (((w.alloc (.cells #[.slice (some ⟨fb, fo, none⟩) p.length c] 24)).alloc (.cells (madeCells #[.slice none 0 0] (nth p k).code.length) 27)).alloc (.cells (madeCells #[.bool false] (nth p k).code.length) 4)) (.slice (some ⟨fb, fo, none⟩) p.length c) (.slice lo' (nth p k).locals.length lc) (.slice co (nth p k).code.length cc) (nth p k) (nth p k).code.length (w.heap.size + 1) (w.heap.size + 1 + 1)).drew
          simpa using this
    · go_meet
      case rel =>
        refine ⟨_, w.heap.size + 1 + 1, w.heap.size + 1, w.heap.size + 1 + 1 + 1 + 1, rfl, ?_, ((((Below.refl _ _).alloc (Nat.le_refl _) _).alloc (by simp) _).alloc (by simp; omega) _).alloc (by simp; omega) _ |>.drew, by omega, by omega, by omega, by omega⟩
        refine Fit.start (by omega) (by omega) (by omega) (by omega) (by simp) ?_ ?_ ?_
        · have := ((World.rowIs_made ((w.alloc (.cells #[.slice (some ⟨fb, fo, none⟩) p.length c] 24)).alloc (.cells (madeCells #[.bool false] (nth p k).code.length) 4)) (.slice none 0 0) (nth p k).code.length 27).alloc (.cells #[.slice (some ⟨fb, fo, none⟩) p.length c, .int .i64 (nth p k).params, .slice lo' (nth p k).locals.length lc, .int .i64 (nth p k).result, .slice co (nth p k).code.length cc, .slice (some ⟨w.heap.size + 1 + 1, 0, none⟩) (nth p k).code.length (nth p k).code.length, .slice (some ⟨w.heap.size + 1, 0, none⟩) (nth p k).code.length (nth p k).code.length, .slice none 0 0] 178)).drew
          simpa using this
        · have := (((World.rowIs_made (w.alloc (.cells #[.slice (some ⟨fb, fo, none⟩) p.length c] 24)) (.bool false) (nth p k).code.length 4).alloc (.cells (madeCells #[.slice none 0 0] (nth p k).code.length) 27)).alloc (.cells #[.slice (some ⟨fb, fo, none⟩) p.length c, .int .i64 (nth p k).params, .slice lo' (nth p k).locals.length lc, .int .i64 (nth p k).result, .slice co (nth p k).code.length cc, .slice (some ⟨w.heap.size + 1 + 1, 0, none⟩) (nth p k).code.length (nth p k).code.length, .slice (some ⟨w.heap.size + 1, 0, none⟩) (nth p k).code.length (nth p k).code.length, .slice none 0 0] 178)).drew
          simpa using this
        · have := (fit_row (((w.alloc (.cells #[.slice (some ⟨fb, fo, none⟩) p.length c] 24)).alloc (.cells (madeCells #[.bool false] (nth p k).code.length) 4)).alloc (.cells (madeCells #[.slice none 0 0] (nth p k).code.length) 27)) (.slice (some ⟨fb, fo, none⟩) p.length c) (.slice lo' (nth p k).locals.length lc) (.slice co (nth p k).code.length cc) (nth p k) (nth p k).code.length (w.heap.size + 1 + 1) (w.heap.size + 1)).drew
          simpa using this
  case rest =>
    obtain ⟨xb, ab, mb, lo, rfl, hFit, hbl, hx1, hx2, hx3, hx4⟩ := hcut
    have hlr : (List.replicate (nth p k).code.length (none : Option (List Int))).length = (nth p k).code.length := by simp
    have hc0 : Hid (Mz.come (List.replicate (nth p k).code.length none) 0 [] = some (Mz.stStart (nth p k).code.length, true)) := come_new (by simpa using hn) (by rw [nth_lt (by simpa using hn)]; simp)
    have COME := Lib.hid (come_any wc lo xb ab mb (.slice (some ⟨fb, fo, none⟩) p.length c) (.slice lo' (nth p k).locals.length lc) co cc (nth p k) (List.replicate (nth p k).code.length none) [] (.slice none 0 0) hFit.out 0 (Nat.zero_le _) hc40 (by simp) (.slice none 0 0) [] (FInts.nil _ _) (fun b o n c e => by cases e) (by simp) (fun i hi t ht => by
      rw [nth_lt hi] at ht; simp at ht))
    have hTD : Hid (Mz.Todo p (nth p k) (Mz.stStart (nth p k).code.length) [0]) := Mz.todo_start HCNE.out
    have hlst := Lib.hid (Mz.left_start hn)
    clear hm1 hm2 q0 q1 q2 q3 hlr
    go_wp2_with fail
    refine COME.out.mono ?_
    rintro e w1 ⟨hcame, hm⟩
    rw [hc0.out] at hm
    obtain ⟨rfl, tv1, hF1, _⟩ := hm
    have HF1 := Lib.hid hF1
    have hb1 := hbl.trans (hcame.below (B := w.heap.size) hbl.size hx1 hx2 hx3 (fun k e => by cases e))
    clear hcame hF1 COME hFit hbl
    go_wp2_with fail
    go_loopg [] (20 * (nth p k).code.length + 1) (fun gk wr => ∃ st todo tv, Hid (Fit wr lo xb ab mb (.slice (some ⟨fb, fo, none⟩) p.length c) (.slice lo' (nth p k).locals.length lc) (.slice co (nth p k).code.length cc) (nth p k) st todo tv) ∧ Hid (Mz.Todo p (nth p k) st todo) ∧ Hid (2 * Mz.left st + todo.length < gk ∧ Mz.workLoop p (nth p k) gk (st, todo) = Mz.workSt p (nth p k)) ∧ gk ≤ 801 ∧ Below w.heap.size w wr)
    case atStart => exact ⟨_, _, _, HF1, hTD, ⟨by have := hlst.out; simp; omega, rfl⟩, by omega, hb1⟩
    case round =>
      obtain ⟨st, todo, tv, hF, hT, hW, hgk, hb⟩ := hrel
      clear HF1 hTD hb1 hlst hc0
      obtain ⟨to', tc, rfl⟩ := owned_open hF.out.own
      have x7 : wr.cell? ⟨xb, 7, none⟩ = some (.slice to' todo.length tc) := hF.out.row.cell (i := 7) (by decide)
      by_cases h0 : todo.length = 0
      · have HNIL : Hid (todo = []) := List.eq_nil_of_length_eq_zero h0
        rw [h0] at x7
        have HRES : Hid (Mz.entriesSt p (nth p k) = some st) := by
          unfold Hid
          rw [← Mz.workSt_eq HR.out, ← hW.out.2, HNIL.out]
          have := hW.out.1
          rw [show gk = (gk - 1) + 1 by omega, Mz.workLoop]; rfl
        have hsl := hF.out.len
        have gsz := hF.out.am.size
        have gx := hF.out.xbl
        have ga := hF.out.am.abl
        have gm := hF.out.am.mbl
        have HA := Lib.hid hF.out.am
        have HLEN := Lib.hid hsl
        have x5 : wr.cell? ⟨xb, 5, none⟩ = some (.slice (some ⟨ab, 0, none⟩) (nth p k).code.length (nth p k).code.length) := hF.out.row.cell (i := 5) (by decide)
        have x6 : wr.cell? ⟨xb, 6, none⟩ = some (.slice (some ⟨mb, 0, none⟩) (nth p k).code.length (nth p k).code.length) := hF.out.row.cell (i := 6) (by decide)
        have HX5 := Lib.hid x5
        have HX6 := Lib.hid x6
        clear hsl x5 x6 hT hW HNIL hF
        go_wp2_with fail
        clear x7
        obtain ⟨wo, hwo⟩ : ∃ wo : World, wo = wr := ⟨_, rfl⟩
        rw [← hwo] at HA HX5 HX6 hb gsz ⊢
        clear hwo
        go_loopw [8, 43] (fun ov j wz => ∃ (i : Nat) (ps : List ((Nat × List Int) × Value)), i ≤ (nth p k).code.length ∧ j = .int .i64 i ∧ Hid (ps.map (·.1) = entsTo st i) ∧ Hid (wz.ownsRow wo.heap.size 155 2 ov ps.length (ps.flatMap entCells)) ∧ Hid (∀ x ∈ ps, RInts wo wo.heap.size x.2 x.1.2) ∧ Below wo.heap.size wo wz) (fun _ j _ => (nth p k).code.length - (intOf j).toNat)
        case atStart => exact ⟨0, [], Nat.zero_le _, rfl, rfl, World.ownsRow_nil _ _ _ _, (fun x hx => by cases hx), Below.refl _ _⟩
        case round =>
          obtain ⟨i, ps, hi, rfl, hps, hown, hrd, hbz⟩ := hrel
          have hsz2 := hbz.size
          have hpl : ps.length = (entsTo st i).length := by rw [← hps.out, List.length_map]
          have hpn := entsTo_len st i
          have hB2 : Below w.heap.size w wr := hb.trans (hbz.mono hb.size)
          by_cases hin : i < (nth p k).code.length
          · have hil : i < st.length := by rw [HLEN.out]; exact hin
            obtain ⟨mc, av, ac, aF⟩ := HA.out.cells hil
            have mc' := ((bcell hbz).1 mb i (by omega)).trans mc
            have ac' := ((bcell hbz).1 ab i (by omega)).trans ac
            have z5 := ((bcell hbz).1 xb 5 (by omega)).trans HX5.out
            have z6 := ((bcell hbz).1 xb 6 (by omega)).trans HX6.out
            have AF := Lib.hid aF
            clear aF mc ac
            cases hst : nth st i with
            | none =>
              rw [hst] at mc'
              have HST := Lib.hid hst
              clear hst
              go_wp2_with fail
              go_roundw
              case rel => exact ⟨i + 1, ps, by omega, by go_num, by rw [Hid, entsTo_succ, HST.out, hps.out]; simp, hown, hrd, hbz⟩
              case measure => simp [intOf]; omega
            | some s =>
              rw [hst] at mc' AF
              have HST := Lib.hid hst
              clear hst
              have hsF : RInts wo wo.heap.size av s := AF.out.1
              obtain ⟨so, sc, rfl, _, _, _⟩ := hsF.open
              have HSF := Lib.hid hsF
              clear hsF
              go_wp2_with (at_builtin; refine push_gen (P := Tryz.prog) (cells := [.int .i64 i, .slice so s.length sc]) Tryz.underlying90 info_entry rfl (by decide) (by decide) rfl rfl rfl hown.out rfl rfl (by intro u hu; simp at hu; rcases hu with rfl | rfl <;> rfl) (by omega) (by omega) ?_; intro v' w' hown' hgr hb')
              go_roundw
              case rel =>
                refine ⟨i + 1, ps ++ [((i, s), .slice so s.length sc)], by omega, by go_num, by rw [Hid, entsTo_succ, HST.out, List.map_append, hps.out]; rfl, by rw [List.length_append, List.flatMap_append]; exact hown', ?_, hbz.trans hb'⟩
                intro x hx
                rcases List.mem_append.1 hx with hx | hx
                · exact hrd.out x hx
                · rw [List.mem_singleton] at hx; subst hx; exact HSF.out
              case measure => simp [intOf]; omega
          · obtain rfl : i = (nth p k).code.length := by omega
            go_wp2_with fail
            go_ret2
            refine ⟨.some rfl HRES.out ?_, hB2⟩
            rw [HLEN.out, ← hps.out]
            exact REnts.of_owns hown.out (by omega) (fun x hx => ((hrd.out x hx).frame hbz).mono (by omega))
      · have hto : 0 < todo.length := by omega
        have hgk1 := hW.out.1
        obtain ⟨s, hs⟩ := hT.out.met (nth todo (todo.length - 1)) (nth_mem (by omega))
        have hlen := hF.out.len
        have hpl : nth todo (todo.length - 1) < (nth p k).code.length := by
          rw [← hlen]; exact (List.getElem?_eq_some_iff.1 hs).1
        have STEP := Lib.hid (step_any w.heap.size B wr lo xb ab mb (.slice (some ⟨fb, fo, none⟩) p.length c) (.slice lo' (nth p k).locals.length lc) co cc p (nth p k) st todo _ hF.out (Good.of_mid hT.out.mid) ⟨hx1, hx2, hx3, hx4⟩ hB (hfs.frame (hb.mono hB)) (hl.frame (hb.mono hB)) (hcd.frame (hb.mono hB)) HR.out hc40 hto (by omega) _ rfl hpl s (by
          rw [nth_get? (by omega)] at hs; simpa using hs))
        have hwt := Mz.workStep_todo HR.out hT.out (by intro e; rw [e] at hto; simp at hto)
        have hne : Hid (todo ≠ []) := by intro e; rw [e] at hto; simp at hto
        clear hs hlen hpl
        cases hws : Mz.workStep p (nth p k) (st, todo) with
        | none =>
          have HWS := Lib.hid hws
          clear hws hwt
          go_wp2_with fail
          refine STEP.out.mono ?_
          rintro e w2 ⟨hb2, hm⟩
          rw [HWS.out] at hm
          subst hm
          go_wp2_with fail
          go_ret2
          refine ⟨.none rfl ?_, hb.trans hb2⟩
          rw [← Mz.workSt_eq HR.out, ← hW.out.2, show gk = (gk - 1) + 1 by omega, Mz.workLoop, if_neg hne.out, HWS.out]
        | some y =>
          obtain ⟨st', todo'⟩ := y
          have HWS := Lib.hid hws
          rw [hws] at hwt
          have HWT := Lib.hid hwt
          clear hws hwt
          go_wp2_with fail
          refine STEP.out.mono ?_
          rintro e w2 ⟨hb2, hm⟩
          rw [HWS.out] at hm
          obtain ⟨rfl, tv', hF2⟩ := hm
          have HF2 := Lib.hid hF2
          clear hF2
          go_wp2_with fail
          go_roundg (gk - 1)
          case measure => omega
          case rel =>
            refine ⟨st', todo', tv', HF2, HWT.out.1, ⟨by have := HWT.out.2; omega, ?_⟩, by omega, hb.trans hb2⟩
            rw [← hW.out.2]
            conv => rhs; rw [show gk = (gk - 1) + 1 by omega, Mz.workLoop, if_neg hne.out, HWS.out]
end Go.Proofs.YthdomhejkbpabaaGreat

/- What the check of a program answers, of the program itself. -/
namespace Go.Proofs.YthdomhejkbpabaaGreat
open Go.RowKit

set_option maxHeartbeats 400000 in
theorem fits_any (pv lv cv : Value) (p : List Mz.Fun) (f : Mz.Fun) (o : Mz.Op) (B : Nat) (w : World) (h : RProg w B pv p) (hl : RInts w B lv f.locals) (hcd : ROps w B cv f.code) :
    Calls Tryz.prog 164 #[pv, .agg #[.int .i64 f.params, lv, .int .i64 f.result, cv], .agg #[.int .i64 o.code, .int .i64 o.a]] w fun e w' => e = .returned (.bool (Mz.opFits p f o)) ∧ Below w.heap.size w w' := by
  obtain ⟨fv, rfl, hfs⟩ := h
  obtain ⟨ao, c, rfl, h1, h2, h3⟩ := hfs.open
  obtain ⟨lo, lc, rfl, l1, l2, l3⟩ := hl.open
  obtain ⟨co, cc, rfl, c1, c2, c3⟩ := hcd.open
  unfold maxLen at h2 l2 c2
  clear hfs hl hcd
  go_enter Tryz.func164, Tryz.ntmps164
  go_wp2_with (first | (go_at_call 158; refine (pwithin_any _ _ _ _).mono ?_; rintro e w' ⟨rfl, rfl⟩))
  all_goals go_ret
  all_goals exact ⟨ret_bool (by simp_all [Mz.opFits]), (((Below.refl _ _).alloc (Nat.le_refl _) _).alloc (by simp) _).alloc (by simp; omega) _⟩

set_option maxHeartbeats 400000 in
theorem one1_any (x : Int) (w : World) :
    Calls Tryz.prog 160 #[.int .i64 x] w fun e w' => e = .returned (.bool (!Mz.btw x 1 2)) ∧ w = w' := by
  go_enter Tryz.func160, Tryz.ntmps160
  go_wp2_with fail
  refine (pwithin_any _ _ _ _).mono ?_
  rintro e w' ⟨rfl, rfl⟩
  go_wp2_with fail
  go_ret
  exact ⟨rfl, rfl⟩
set_option maxHeartbeats 400000 in
theorem one2_any (x : Mz.Op) (pa fa : Nat) (fv lv cv : Value) (p : List Mz.Fun) (f : Mz.Fun) (B : Nat) (w : World) (hp : w.cell? ⟨pa, 0, none⟩ = some fv) (hpa : pa < w.heap.size) (hfa : fa < w.heap.size)
    (h0 : w.cell? ⟨fa, 0, none⟩ = some (.int .i64 f.params)) (h1 : w.cell? ⟨fa, 1, none⟩ = some lv) (h2 : w.cell? ⟨fa, 2, none⟩ = some (.int .i64 f.result)) (h3 : w.cell? ⟨fa, 3, none⟩ = some cv)
    (h : RFuns w B fv p) (hl : RInts w B lv f.locals) (hcd : ROps w B cv f.code) (hB : B ≤ w.heap.size) :
    Calls Tryz.prog 163 #[.agg #[.int .i64 x.code, .int .i64 x.a], .pointer (some ⟨pa, 0, none⟩), .pointer (some ⟨fa, 0, none⟩)] w fun e w' => e = .returned (.bool (!Mz.opFits p f x)) ∧ Below w.heap.size w w' := by
  go_enter Tryz.func163, Tryz.ntmps163
  go_wp2_with fail
  have hb : Below w.heap.size w (w.alloc (.cells #[.int .i64 x.code, .int .i64 x.a] 49)) := (Below.refl _ _).alloc (Nat.le_refl _) _
  refine (fits_any _ _ _ p f x B _ ⟨fv, rfl, h.frame (hb.mono hB)⟩ (hl.frame (hb.mono hB)) (hcd.frame (hb.mono hB))).mono ?_
  rintro e w' ⟨rfl, hb2⟩
  have hB2 := via1 (Below.refl _ _) (Nat.le_refl _) hb2
  clear hb2 hb
  go_wp2_with fail
  go_ret
  exact ⟨rfl, hB2⟩
theorem asks_one1 (w : World) : Asks 160 #[] (fun x : Int => Value.int .i64 x) (fun x => !Mz.btw x 1 2) w := by
  intro x w1 _
  have e : (#[Value.int .i64 x] ++ #[] : Array Value) = #[Value.int .i64 x] := by simp
  show Calls _ _ (#[Value.int .i64 x] ++ #[]) _ _
  rw [e]
  exact (one1_any x w1).mono fun e w2 ⟨he, hw⟩ => ⟨he, hw ▸ Below.refl _ _⟩
theorem enters_one2 : Enters 163 := enters_of Tryz.func163 (by kernel_rfl) (by kernel_rfl)

theorem asks_one2 (pa fa : Nat) (fv lv cv : Value) (p : List Mz.Fun) (f : Mz.Fun) (B : Nat) (w : World) (hp : w.cell? ⟨pa, 0, none⟩ = some fv) (hpa : pa < w.heap.size) (hfa : fa < w.heap.size)
    (h0 : w.cell? ⟨fa, 0, none⟩ = some (.int .i64 f.params)) (h1 : w.cell? ⟨fa, 1, none⟩ = some lv) (h2 : w.cell? ⟨fa, 2, none⟩ = some (.int .i64 f.result)) (h3 : w.cell? ⟨fa, 3, none⟩ = some cv)
    (h : RFuns w B fv p) (hl : RInts w B lv f.locals) (hcd : ROps w B cv f.code) (hB : B ≤ w.heap.size) :
    Asks 163 #[.pointer (some ⟨pa, 0, none⟩), .pointer (some ⟨fa, 0, none⟩)] (fun x : Mz.Op => Value.agg #[.int .i64 x.code, .int .i64 x.a]) (fun x => !Mz.opFits p f x) w := by
  intro x w1 hb
  have hs := hb.size
  obtain ⟨hc, _⟩ := bcell hb
  have e0 := (hc pa 0 hpa).trans hp
  have e1 := (hc fa 0 hfa).trans h0
  have e2 := (hc fa 1 hfa).trans h1
  have e3 := (hc fa 2 hfa).trans h2
  have e4 := (hc fa 3 hfa).trans h3
  have g1 : pa < w1.heap.size := by omega
  have g2 : fa < w1.heap.size := by omega
  have g3 : B ≤ w1.heap.size := by omega
  have k1 := h.frame (hb.mono hB)
  have k2 := hl.frame (hb.mono hB)
  have k3 := hcd.frame (hb.mono hB)
  have key := one2_any x pa fa fv lv cv p f B w1 e0 g1 g2 e1 e2 e3 e4 k1 k2 k3 g3
  simpa using key
set_option maxHeartbeats 400000 in
theorem one_any (pv lv cv : Value) (p : List Mz.Fun) (f : Mz.Fun) (B : Nat) (w : World) (hB : B ≤ w.heap.size) (h : RProg w B pv p) (hl : RInts w B lv f.locals) (hcd : ROps w B cv f.code) :
    Calls Tryz.prog 130 #[pv, .agg #[.int .i64 f.params, lv, .int .i64 f.result, cv]] w fun e w' => e = .returned (.int .i64 (Mz.checkFun p f)) ∧ Below w.heap.size w w' := by
  obtain ⟨fv, rfl, hfs⟩ := h
  obtain ⟨ao, c, rfl, h1, h2, h3⟩ := hfs.open
  obtain ⟨lo, lc, rfl, l1, l2, l3⟩ := hl.open
  obtain ⟨co, cc, rfl, c1, c2, c3⟩ := hcd.open
  unfold maxLen at h2 l2 c2
  go_enter Tryz.func130, Tryz.ntmps130
  have hb0 : Below w.heap.size w ((w.alloc (.cells #[.slice ao p.length c] 24)).alloc (.cells #[.int .i64 f.params, .slice lo f.locals.length lc, .int .i64 f.result, .slice co f.code.length cc] 110)) := ((Below.refl _ _).alloc (Nat.le_refl _) _).alloc (by simp) _
  by_cases k1 : 6 < f.locals.length
  · go_wp2_with fail
    go_ret
    exact ⟨ret_int (by simp [Mz.checkFun, k1]), hb0⟩
  go_wp2_with fail
  refine (pwithin_any _ _ _ _).mono ?_
  rintro e w' ⟨rfl, rfl⟩
  by_cases k2 : Mz.btw f.params 0 f.locals.length = false
  · go_wp2_with fail
    go_ret
    exact ⟨ret_int (by simp [Mz.checkFun, k1, k2]), hb0⟩
  have k2' : Mz.btw f.params 0 f.locals.length = true := by simpa using k2
  have K2 := Lib.hid k2
  clear k2
  go_wp2_with fail
  refine (pwithin_any _ _ _ _).mono ?_
  rintro e w' ⟨rfl, rfl⟩
  by_cases k3 : Mz.btw f.result 0 2 = false
  · go_wp2_with fail
    go_ret
    exact ⟨ret_int (by simp [Mz.checkFun, k1, k2', k3]), hb0⟩
  have k3' : Mz.btw f.result 0 2 = true := by simpa using k3
  have K3 := Lib.hid k3
  clear k3
  go_wp2_with fail
  refine (containsFunc_ints _ _ _ _ _ B _ (hl.frame (hb0.mono hB)) (by simp only [World.size_alloc]; omega) enters_one1 (asks_one1 _)).mono ?_
  rintro e w1 ⟨rfl, hL1⟩
  simp only [World.size_alloc] at hL1
  have hs1 := hL1.size
  simp only [World.size_alloc] at hs1
  obtain ⟨hc, hfz⟩ := bcell hL1
  have hB1 := hb0.trans (hL1.mono (by omega))
  by_cases hk : f.locals.all (fun t => Mz.btw t 1 2) = true
  · have hk' : f.locals.any (fun x => !Mz.btw x 1 2) = false := by
      rw [List.any_eq_false]; rw [List.all_eq_true] at hk; intro x hx; simp [hk x hx]
    have Hk := Lib.hid hk
    clear hk
    by_cases k4 : f.code = []
    · have k4' : ((f.code.length : Int) == 0) = true := by simp [k4]
      have K4 := Lib.hid k4
      clear k4
      go_wp2_with fail
      go_ret
      exact ⟨ret_int (by have h4 := K4.out; have hk := Hk.out; unfold Mz.checkFun; rw [if_neg k1, if_neg K2.out, if_neg (by simp [k3', hk]), if_pos h4]), hB1⟩
    have k4' : ((f.code.length : Int) == 0) = false := by
      rw [beq_eq_false_iff_ne]; intro h0; exact k4 (List.eq_nil_of_length_eq_zero (by omega))
    have K4 := Lib.hid k4
    clear k4
    go_wp2_with fail
    refine (opCode_any _ f.code B _ (hcd.frame (hB1.mono hB)) (by omega)).mono ?_
    rintro e w2 ⟨rfl, hb2⟩
    have hL2 := via0 hL1 (by omega) hb2
    have hs2 := hb2.size
    have hB2 := hb0.trans (hL2.mono (by omega))
    clear hb2 hc hfz hL1
    obtain ⟨hc, hfz⟩ := bcell hL2
    by_cases k5 : Mz.checkCode f.code = 0
    · have k5' : (Mz.checkCode f.code != 0) = false := by simp [k5]
      have K5 := Lib.hid k5
      clear k5
      go_wp2_with fail
      have q0 : w2.cell? ⟨w.heap.size, 0, none⟩ = some (.slice ao p.length c) := by rw [hc _ _ (by omega)]; simp
      have q1 : w2.cell? ⟨w.heap.size + 1, 0, none⟩ = some (.int .i64 f.params) := by rw [hc _ _ (by omega)]; simp
      have q2 : w2.cell? ⟨w.heap.size + 1, 1, none⟩ = some (.slice lo f.locals.length lc) := by rw [hc _ _ (by omega)]; simp
      have q3 : w2.cell? ⟨w.heap.size + 1, 2, none⟩ = some (.int .i64 f.result) := by rw [hc _ _ (by omega)]; simp
      have q4 : w2.cell? ⟨w.heap.size + 1, 3, none⟩ = some (.slice co f.code.length cc) := by rw [hc _ _ (by omega)]; simp
      have hB2' := hB2.mono hB
      refine (containsFunc_ops _ _ _ _ _ B _ (hcd.frame hB2') (by omega) enters_one2 (asks_one2 w.heap.size (w.heap.size + 1) _ _ _ p f B w2 q0 (by omega) (by omega) q1 q2 q3 q4 (hfs.frame hB2') (hl.frame hB2') (hcd.frame hB2') (by omega))).mono ?_
      rintro e w3 ⟨rfl, hb3⟩
      have hB3 := via0 hB2 (by omega) hb3
      clear hb3
      by_cases k6 : f.code.all (Mz.opFits p f) = true
      · have k6' : f.code.any (fun x => !Mz.opFits p f x) = false := by
          rw [List.any_eq_false]; rw [List.all_eq_true] at k6; intro x hx; simp [k6 x hx]
        have K6 := Lib.hid k6
        clear k6
        go_wp2_with fail
        go_ret
        exact ⟨ret_int (by have hk := Hk.out; unfold Mz.checkFun; rw [if_neg k1, if_neg K2.out, if_neg (by simp [k3', hk]), if_neg K4.out, if_neg (by simp [K5.out]), if_neg (by simp [K6.out])]), hB3⟩
      · have k6' : f.code.any (fun x => !Mz.opFits p f x) = true := by
          rw [List.any_eq_true]; rw [List.all_eq_true] at k6; simpa using k6
        have K6 := Lib.hid k6
        clear k6
        go_wp2_with fail
        go_ret
        exact ⟨ret_int (by have hk := Hk.out; unfold Mz.checkFun; rw [if_neg k1, if_neg K2.out, if_neg (by simp [k3', hk]), if_neg K4.out, if_neg (by simp [K5.out]), if_pos (by simpa using K6.out)]), hB3⟩
    · have k5' : (Mz.checkCode f.code != 0) = true := by simp [k5]
      have K5 := Lib.hid k5
      clear k5
      go_wp2_with fail
      go_ret
      exact ⟨ret_int (by have hk := Hk.out; unfold Mz.checkFun; rw [if_neg k1, if_neg K2.out, if_neg (by simp [k3', hk]), if_neg K4.out, if_pos K5.out]), hB2⟩
  · have hk' : f.locals.any (fun x => !Mz.btw x 1 2) = true := by
      rw [List.any_eq_true]; rw [List.all_eq_true] at hk; simpa using hk
    have Hk := Lib.hid hk
    clear hk
    go_wp2
    go_ret
    exact ⟨ret_int (by have hk := Hk.out; unfold Mz.checkFun; rw [if_neg k1, if_neg K2.out, if_pos (.inr (by simpa using hk))]), hB1⟩
end Go.Proofs.YthdomhejkbpabaaGreat

/- The check of a program answers what is said of it: prog.Check. -/
namespace Go.Proofs.YthdomhejkbpabaaGreat
open Go.RowKit

theorem head_nth {p : List Mz.Fun} (h : p ≠ []) : p.head! = nth p 0 := by
  cases p with
  | nil => exact absurd rfl h
  | cons a l => rfl
set_option maxHeartbeats 800000 in
theorem progCheck_any (pv : Value) (p : List Mz.Fun) (B : Nat) (w : World) (hB : B ≤ w.heap.size) (h : RProg w B pv p) :
    Calls Tryz.prog 102 #[pv] w fun e w' => e = .returned (.int .i64 (Mz.checkProg p)) ∧ Below w.heap.size w w' := by
  obtain ⟨fv, rfl, hfs⟩ := h
  obtain ⟨ao, c, rfl, h1, h2, h3⟩ := hfs.open
  unfold maxLen at h2
  have hb0 : Below w.heap.size w (w.alloc (.cells #[.slice ao p.length c] 24)) := (Below.refl _ _).alloc (Nat.le_refl _) _
  by_cases k0 : p.length = 0
  · have k0' : ((p.length : Int) == 0) = true := by simp [k0]
    have K0 := Lib.hid k0
    clear k0
    go_enter Tryz.func102, Tryz.ntmps102
    go_wp2_with fail
    go_ret
    exact ⟨ret_int (by rw [Mz.checkProg, if_pos (List.eq_nil_of_length_eq_zero K0.out)]), hb0⟩
  have k0' : ((p.length : Int) == 0) = false := by rw [beq_eq_false_iff_ne]; omega
  have hne : Hid (p ≠ []) := fun e => k0 (by simp [e])
  by_cases k1 : 5 < p.length
  · go_enter Tryz.func102, Tryz.ntmps102
    go_wp2_with fail
    go_ret
    exact ⟨ret_int (by rw [Mz.checkProg, if_neg hne.out, if_pos k1]), hb0⟩
  have hpos : 0 < p.length := by omega
  have K0 := Lib.hid k0
  clear k0
  go_enter Tryz.func102, Tryz.ntmps102
  go_wp2_with fail
  go_loopw [20] (fun i wr => ∃ k : Nat, k ≤ p.length ∧ i = .int .i64 k ∧ Clean (Mz.checkFun p) p k ∧ Below (w.heap.size + 1) (w.alloc (.cells #[.slice ao p.length c] 24)) wr ∧ w.heap.size + 1 ≤ wr.heap.size) (fun i _ => p.length - (intOf i).toNat)
  case atStart => exact ⟨0, Nat.zero_le _, rfl, .zero, Below.refl _ _, by simp⟩
  case round =>
    obtain ⟨k, hk, rfl, hall, hL, hs⟩ := hrel
    have hb := hb0.trans (hL.mono (by omega))
    obtain ⟨hc, hfz⟩ := bcell hL
    by_cases hlt : k < p.length
    · obtain ⟨b, o, lv, cv, rfl, hbB, q0, q1, q2, q3, hl, hcd⟩ := hfs.at hlt
      obtain ⟨lo, lc, rfl, l1, l2, l3⟩ := hl.open
      obtain ⟨co, cc, rfl, c1, c2, c3⟩ := hcd.open
      have g1 : b < w.heap.size := by omega
      have g2 : b < w.heap.size + 1 := by omega
      have g3 : b < wr.heap.size := by omega
      have g4 : w.heap.size < wr.heap.size := by omega
      go_wp2_with fail
      have hb' := (hb.alloc (by omega) (.cells #[.int .i64 (nth p k).params, .slice lo (nth p k).locals.length lc, .int .i64 (nth p k).result, .slice co (nth p k).code.length cc] 110)).mono hB
      refine (one_any _ _ _ p (nth p k) B _ (by simp only [World.size_alloc]; omega) ⟨_, rfl, hfs.frame hb'⟩ (hl.frame hb') (hcd.frame hb')).mono ?_
      rintro e w2 ⟨rfl, h2'⟩
      have hL2 := via1 hL hs h2'
      have hs2 := h2'.size
      simp only [World.size_alloc] at hs2
      clear h2' hb' hc hfz
      by_cases he : Mz.checkFun p (nth p k) = 0
      · have he' : (Mz.checkFun p (nth p k) != 0) = false := by simp [he]
        have He := Lib.hid he
        clear he
        go_wp2_with fail
        go_roundw
        case rel => exact ⟨k + 1, by omega, by go_num, hall.succ He.out, hL2, by omega⟩
        case measure => simp [intOf]; omega
      · have he' : (Mz.checkFun p (nth p k) != 0) = true := by simp [he]
        clear he
        go_wp2_with fail
        go_ret
        exact ⟨ret_int (by
          have e := hall.stop hlt (by simpa using he')
          rw [Mz.checkProg, if_neg hne.out, if_neg k1, if_pos (by rw [e]; simpa using he'), e]), hb0.trans (hL2.mono (by omega))⟩
    · obtain ⟨b, o, lv, cv, rfl, hbB, q0, q1, q2, q3, hl, hcd⟩ := hfs.at hpos
      obtain ⟨lo, lc, rfl, l1, l2, l3⟩ := hl.open
      obtain ⟨co, cc, rfl, c1, c2, c3⟩ := hcd.open
      have g1 : b < w.heap.size := by omega
      have g2 : b < w.heap.size + 1 := by omega
      have g3 : b < wr.heap.size := by omega
      have g4 : w.heap.size < wr.heap.size := by omega
      simp only [Nat.zero_mul, Nat.add_zero] at q0 q1 q2 q3
      have e0 := Lib.hid (hall.end hlt)
      have hh : Hid (p.head! = nth p 0) := head_nth hne.out
      have hr := (Mz.checkFun_zero (hall 0 (by omega))).result
      go_wp2_with fail
      all_goals go_ret
      all_goals refine ⟨ret_int ?_, hb.alloc (by omega) _⟩
      all_goals rw [Mz.checkProg, if_neg hne.out, if_neg k1, if_neg (by rw [e0.out]; decide), hh.out]
      all_goals split
      all_goals first | rfl | (exfalso; simp_all; done) | (exfalso; simp_all; omega)
end Go.Proofs.YthdomhejkbpabaaGreat
