/- Lemmas: RefEnts. -/
import Derived.Test.YthdomhejkbpabaaGreatG06
import Derived.Test.YthdomhejkbpabaaGreatG08
import Derived.Deep.LoopGhost
import Derived.Deep.RegionHeld3
set_option linter.unusedVariables false
set_option linter.unusedSimpArgs false
/- Entries of a function, by rounds: EntriesOf of the reference. -/
namespace Go.Proofs.YthdomhejkbpabaaGreat
open Go.RowKit

theorem info_ints : (Tryz.prog.info? 27).map (fun i => (i.zero, i.size, i.bytes)) = some (some (.slice none 0 0), 1, 24) := by kernel_rfl
theorem info_bool : (Tryz.prog.info? 4).map (fun i => (i.zero, i.size, i.bytes)) = some (some (.bool false), 1, 1) := by kernel_rfl
theorem info_entry : (Tryz.prog.info? 155).map (fun i => (i.zero, i.size, i.bytes)) = some (some (.agg #[.int .i64 0, .slice none 0 0]), 2, 32) := by kernel_rfl

theorem atMet_start (w : World) (n : Nat) (hn : 0 < n) : AtMet ((w.alloc (.cells (madeCells #[.slice none 0 0] n) 27)).alloc (.cells ((madeCells #[.bool false] n).setIfInBounds 0 (.bool true)) 4)) (w.heap.size + 1 + 1) w.heap.size (w.heap.size + 1) 27 4 (Mz.stStart n) := by
  have hl : (Mz.stStart n).length = n := by simp [Mz.stStart]
  have hget : ∀ i, i < n → nth (Mz.stStart n) i = if i = 0 then some [] else none := by
    intro i hi
    unfold Mz.stStart
    by_cases c : i = 0
    · subst c; rw [nth_set_same (by simpa using hn)]; rfl
    · rw [nth_set_other (by simpa using hi) (by omega), nth_lt (by simpa using hi), if_neg c]; simp
  have h1 := World.rowIs_made w (.slice none 0 0) n 27
  have h2 := World.rowIs_alloc (w.alloc (.cells (madeCells #[.slice none 0 0] n) 27)) ((madeCells #[.bool false] n).setIfInBounds 0 (.bool true)) 4 (fun i => .bool (nth (Mz.stStart n) i).isSome) (by
    intro i hi
    simp only [Array.size_setIfInBounds, size_madeCells] at hi
    rw [hget i hi, Array.getElem?_setIfInBounds]
    by_cases c : i = 0
    · subst c; simp [size_madeCells, hn]
    · rw [if_neg (by omega), if_neg c, ← Array.getElem?_toList, toList_madeCells_one, List.getElem?_replicate, if_pos hi]; rfl)
  simp only [World.size_alloc, Array.size_setIfInBounds, size_madeCells] at h2
  refine ⟨by omega, by omega, by omega, by simp, by rw [hl]; exact h2, _, by rw [hl]; exact h1.alloc _, fun i hi => ?_⟩
  rw [hl] at hi
  rw [hget i hi]
  have : (if i = 0 then some ([] : List Int) else none).getD [] = [] := by split <;> rfl
  rw [this]
  exact ⟨RInts.nil _ _, fun b o n c e => by cases e⟩

theorem rounds_none {p : List Mz.Fun} {f : Mz.Fun} {gk : Nat} {st : Mz.St} {x : Option Mz.St} (h : Mz.left st < gk ∧ Mz.roundsOf p f gk st = x) (hx : Mz.roundFrom p f f.code.length 0 (st, false) = none) : x = none := by
  obtain ⟨h1, h2⟩ := h
  rw [← h2, show gk = (gk - 1) + 1 by omega, Mz.roundsOf, hx]
theorem rounds_some {p : List Mz.Fun} {f : Mz.Fun} {gk : Nat} {st st' : Mz.St} {b : Bool} {x : Option Mz.St} (hr : Mz.Ready p f) (hm : Mz.Mid p f st) (h : Mz.left st < gk ∧ Mz.roundsOf p f gk st = x) (hx : Mz.roundFrom p f f.code.length 0 (st, false) = some (st', b)) :
    Mz.Mid p f st' ∧ (b = true → Mz.left st' < gk - 1 ∧ Mz.roundsOf p f (gk - 1) st' = x) ∧ (b = false → x = some st') := by
  obtain ⟨h1, h2⟩ := h
  have hk := Mz.roundFrom_mid hr f.code.length 0 st false hm
  rw [hx] at hk; simp only at hk
  obtain ⟨k1, k2, k3, k4, k5⟩ := hk
  rw [show gk = (gk - 1) + 1 by omega, Mz.roundsOf, hx] at h2
  simp only at h2
  refine ⟨k1, fun hb => ⟨by have := k4 trivial hb; omega, ?_⟩, fun hb => ?_⟩
  · rw [hb] at h2; simpa using h2
  · rw [hb] at h2; simpa using h2.symm
theorem nth_map {α β : Type} [Inhabited α] [Inhabited β] (f : α → β) {l : List α} {i : Nat} (h : i < l.length) : nth (l.map f) i = f (nth l i) := by
  rw [nth_lt (by simpa using h), nth_lt h]; simp
theorem nth_mem {α : Type} [Inhabited α] {l : List α} {i : Nat} (h : i < l.length) : nth l i ∈ l := by rw [nth_lt h]; exact List.getElem_mem _
def EntsRes (w' : World) (e : Ending) (x : Option Mz.St) : Prop :=
  ∃ r, e = .returned (.tuple #[r, .bool x.isSome]) ∧ ∀ st, x = some st → REnts w' w'.heap.size r (entsTo st st.length)
theorem EntsRes.some {w' : World} {e : Ending} {x : Option Mz.St} {st : Mz.St} {r : Value} (h : e = .returned (.tuple #[r, .bool true])) (hx : x = Option.some st) (hr : REnts w' w'.heap.size r (entsTo st st.length)) : EntsRes w' e x := by
  subst hx; exact ⟨r, h, fun l hl => by cases hl; exact hr⟩
theorem EntsRes.none {w' : World} {e : Ending} {x : Option Mz.St} {r : Value} (h : e = .returned (.tuple #[r, .bool false])) (hx : x = Option.none) : EntsRes w' e x := by
  subst hx; exact ⟨r, h, fun l hl => by cases hl⟩

set_option maxHeartbeats 4000000 in
set_option maxRecDepth 100000 in
theorem refEntries_any (pv : Value) (p : List Mz.Fun) (k : Nat) (B : Nat) (w : World) (hB : B ≤ w.heap.size) (h : RProg w B pv p) (hk : k < p.length) (hr : Mz.Ready p (nth p k)) :
    Calls Tryz.prog 59 #[pv, .int .i64 k] w fun e w' => EntsRes w' e (Mz.entriesSt p (nth p k)) ∧ Below w.heap.size w w' := by
  have hcode := hr.prog.code (nth p k) (by rw [nth_lt hk]; exact List.getElem_mem _)
  obtain ⟨hcne, hc40, hl6, hops⟩ := hcode
  have HR : Hid (Mz.Ready p (nth p k)) := hr
  have HOPS := Lib.hid hops
  clear hr hops
  obtain ⟨fv, rfl, hfs⟩ := h
  obtain ⟨ao, c, rfl, h1, h2, h3⟩ := hfs.open
  unfold maxLen at h2
  obtain ⟨fb, fo, lv, cv, rfl, fB, q0, q1, q2, q3, hl, hcd⟩ := hfs.at hk
  obtain ⟨lo', lc, rfl, l1, l2, l3⟩ := hl.open
  obtain ⟨co, cc, rfl, c1, c2, c3⟩ := hcd.open
  unfold maxLen at l2 c2
  have hn : 0 < (nth p k).code.length := List.length_pos_iff.2 hcne
  clear hcne
  obtain ⟨cb, cx, rfl, cB, _, _⟩ := hcd.at hn
  have g1 : fb < w.heap.size := by omega
  have hm1 := run_make_row' (P := Tryz.prog) 26 27 (.slice none 0 0) 24 Tryz.underlying26 info_ints rfl .i64 .i64 (nth p k).code.length (by omega) (by omega)
  have hm2 := run_make_row' (P := Tryz.prog) 150 4 (.bool false) 1 Tryz.underlying150 info_bool rfl .i64 .i64 (nth p k).code.length (by omega) (by omega)
  have hA0 := atMet_start (w.alloc (.cells #[.slice (some ⟨fb, fo, none⟩) p.length c] 24)) (nth p k).code.length hn
  simp only [World.size_alloc] at hA0
  have hb0 : Below w.heap.size w (((((w.alloc (.cells #[.slice (some ⟨fb, fo, none⟩) p.length c] 24)).alloc (.cells (madeCells #[.slice none 0 0] (nth p k).code.length) 27)).alloc (.cells ((madeCells #[.bool false] (nth p k).code.length).setIfInBounds 0 (.bool true)) 4)))) :=
    (((Below.refl _ _).alloc (Nat.le_refl _) _).alloc (by simp) _).alloc (by simp; omega) _
  have mcell : (madeCells #[.bool false] (nth p k).code.length)[0]? = some (.bool false) := by
    rw [← Array.getElem?_toList, toList_madeCells_one, List.getElem?_replicate, if_pos hn]
  go_enter Tryz.func59, Tryz.ntmps59
  go_wp2_with fail
  obtain ⟨w3, hw3⟩ : ∃ w3, w3 = (((((w.alloc (.cells #[.slice (some ⟨fb, fo, none⟩) p.length c] 24)).alloc (.cells (madeCells #[.slice none 0 0] (nth p k).code.length) 27)).alloc (.cells ((madeCells #[.bool false] (nth p k).code.length).setIfInBounds 0 (.bool true)) 4)))) := ⟨_, rfl⟩
  rw [← hw3] at hA0 hb0 ⊢
  have box3 : w3.cell? ⟨w.heap.size, 0, none⟩ = some (.slice (some ⟨fb, fo, none⟩) p.length c) := by
    have hbx : Below (w.heap.size + 1) (w.alloc (.cells #[.slice (some ⟨fb, fo, none⟩) p.length c] 24)) w3 := by
      rw [hw3]; exact ((Below.refl _ _).alloc (by simp) _).alloc (by simp) _
    rw [(bcell hbx).1 _ _ (by omega)]; simp
  clear hw3 hm1 hm2 mcell
  have hsz := hA0.size
  have HMid : Hid (Mz.Mid p (nth p k) (Mz.stStart (nth p k).code.length)) := Mz.mid_start HR.out.code
  have hlst := Mz.left_start hn
  have HLST := Lib.hid hlst
  clear hlst
  go_loopg [9] (10 * (nth p k).code.length + 1) (fun gk more wr => ∃ st b, more = .bool b ∧ AtMet wr (w.heap.size + 1 + 1 + 1) (w.heap.size + 1) (w.heap.size + 1 + 1) 27 4 st ∧ Mz.Mid p (nth p k) st ∧ (b = true → Mz.left st < gk ∧ Mz.roundsOf p (nth p k) gk st = Mz.entriesSt p (nth p k)) ∧ (b = false → Mz.entriesSt p (nth p k) = some st) ∧ Below (w.heap.size + 1) w3 wr)
  case atStart => exact ⟨_, true, rfl, hA0, HMid.out, fun _ => ⟨by have := HLST.out; omega, rfl⟩, (fun h => by cases h), Below.refl _ _⟩
  case round =>
    obtain ⟨st, b, rfl, hAM, hMid, ht, hf, hbl⟩ := hrel
    have HM := Lib.hid hMid
    clear hMid HMid HLST hA0
    cases b with
    | true =>
      have HT := Lib.hid (ht rfl)
      clear ht hf
      have hX : Hid (Mz.roundFrom p (nth p k) ((nth p k).code.length - 0) 0 (st, false) = Mz.roundFrom p (nth p k) (nth p k).code.length 0 (st, false)) := rfl
      have HA := Lib.hid hAM
      clear hAM
      have HG : Hid (Good (nth p k).code.length st) := Good.of_mid HM.out
      go_wp2_with fail
      go_loopw [9, 10] (fun more j wx => ∃ (i : Nat) (st1 : Mz.St) (b1 : Bool), i ≤ (nth p k).code.length ∧ j = .int .i64 i ∧ more = .bool b1 ∧ Hid (Mz.roundFrom p (nth p k) ((nth p k).code.length - i) i (st1, b1) = Mz.roundFrom p (nth p k) (nth p k).code.length 0 (st, false)) ∧ Hid (Good (nth p k).code.length st1) ∧ Hid (AtMet wx (w.heap.size + 1 + 1 + 1) (w.heap.size + 1) (w.heap.size + 1 + 1) 27 4 st1) ∧ Below (w.heap.size + 1) w3 wx) (fun _ j _ => (nth p k).code.length - (intOf j).toNat)
      case atStart => exact ⟨0, st, false, Nat.zero_le _, rfl, rfl, hX, HG, HA, hbl⟩
      case round =>
        obtain ⟨i, st1, b1, hi, rfl, rfl, hX1, HG1, HA1, hb1⟩ := hrel
        clear hX HG HA hbl
        by_cases hin : i < (nth p k).code.length
        · have hil : i < st1.length := by rw [HG1.out.len]; exact hin
          obtain ⟨mc, av, ac, aF⟩ := HA1.out.cells hil
          have AF := Lib.hid aF
          clear aF
          cases hst : nth st1 i with
          | none =>
            rw [hst] at mc
            have HST := Lib.hid hst
            clear hst
            go_wp2_with fail
            go_roundw
            case rel => exact ⟨i + 1, st1, b1, by omega, by go_num, rfl, by rw [Hid, ← roundFrom_next hin (visit_not hil HST.out)]; exact hX1.out, HG1, HA1, hb1⟩
            case measure => simp [intOf]; omega
          | some s =>
            rw [hst] at mc AF
            have HST := Lib.hid hst
            clear hst
            obtain ⟨ob, oo, he, oB, o0, o1⟩ := hcd.at hin
            simp only [Option.some.injEq, Addr.mk.injEq, and_true] at he
            obtain ⟨rfl, rfl⟩ := he
            have hbw : Below w.heap.size w wr := hb0.trans (hb1.mono (by omega))
            obtain ⟨hc, hfz⟩ := bcell hbw
            have x0 : wr.cell? ⟨w.heap.size, 0, none⟩ = some (.slice (some ⟨fb, fo, none⟩) p.length c) := by rw [(bcell hb1).1 _ _ (by omega)]; exact box3
            have x1 := (hc fb (fo + k * 4) g1).trans q0
            have x2 := (hc fb (fo + k * 4 + 1) g1).trans q1
            have x3 := (hc fb (fo + k * 4 + 2) g1).trans q2
            have x4 := (hc fb (fo + k * 4 + 3) g1).trans q3
            have x5 := (hc cb (cx + i * 2) (by omega)).trans o0
            have x6 := (hc cb (cx + i * 2 + 1) (by omega)).trans o1
            clear hc hfz
            have g5 : w.heap.size + 1 + 1 + 1 ≤ wr.heap.size := HA1.out.size
            have AF2 : Hid (RInts wr wr.heap.size av s) := AF.out.1
            obtain ⟨hst, hs8⟩ := HG1.out.ty i hin s HST.out
            have hopk := HOPS.out (nth (nth p k).code i) (nth_mem hin)
            have hbd : Below wr.heap.size wr wr.drew := (Below.refl _ _).drew
            have hbwd := (hbw.trans (hbd.mono (by omega)))
            have TRY := Lib.hid (refTry_any (.agg #[.slice (some ⟨fb, fo, none⟩) p.length c]) (.slice lo' (nth p k).locals.length lc) (.slice (some ⟨cb, cx, none⟩) (nth p k).code.length cc) av p (nth p k) (nth (nth p k).code i) s wr.heap.size wr.drew (Nat.le_refl _) ⟨_, rfl, (hfs.frame (hbwd.mono hB)).mono (by omega)⟩ ((hl.frame (hbwd.mono hB)).mono (by omega)) ((hcd.frame (hbwd.mono hB)).mono (by omega)) (AF2.out.frame hbd) HR.out.prog hopk (by omega))
            have HOPK := Lib.hid hopk
            clear hst hopk hbd hbwd AF2
            cases hto : Mz.tryOp p (nth p k) (nth (nth p k).code i) s with
            | none =>
              rw [hto] at TRY
              have HTO := Lib.hid hto
              clear hto
              go_wp2_with fail
              go_region_held3 (fun w' => w'.cell? ⟨w.heap.size, 0, none⟩ = some (.slice (some ⟨fb, fo, none⟩) p.length c) ∧ w'.cell? ⟨fb, fo + k * 4, none⟩ = some (.int .i64 (nth p k).params) ∧ w'.cell? ⟨fb, fo + k * 4 + 1, none⟩ = some (.slice lo' (nth p k).locals.length lc) ∧ w'.cell? ⟨fb, fo + k * 4 + 2, none⟩ = some (.int .i64 (nth p k).result) ∧ w'.cell? ⟨fb, fo + k * 4 + 3, none⟩ = some (.slice (some ⟨cb, cx, none⟩) (nth p k).code.length cc) ∧ w'.cell? ⟨cb, cx + i * 2, none⟩ = some (.int .i64 (nth (nth p k).code i).code) ∧ w'.cell? ⟨cb, cx + i * 2 + 1, none⟩ = some (.int .i64 (nth (nth p k).code i).a) ∧ w'.cell? ⟨w.heap.size + 1, i, none⟩ = some av)
                (first | go_keep | (have hbc := (bcell hbb).1; refine ⟨?_, ?_, ?_, ?_, ?_, ?_, ?_, ?_⟩ <;> (rw [hbc _ _ (by simp; omega)]; assumption))) (first | (go_at_call 108; refine TRY.out.mono ?_; rintro e w' ⟨⟨rv, rfl, _⟩, hbb⟩))
              go_wp2_with fail
              go_ret2
              exact ⟨.none rfl (rounds_none HT.out (by rw [← hX1.out]; exact roundFrom_none hin (visit_bad hil HST.out HTO.out))), hbw.trans ((((Below.refl _ _).drew).trans hbb).mono (by simp; omega))⟩
            | some out =>
              rw [hto] at TRY
              have HTO := Lib.hid hto
              clear hto
              go_wp2_with fail
              go_region_held3 (fun w' => w'.cell? ⟨w.heap.size, 0, none⟩ = some (.slice (some ⟨fb, fo, none⟩) p.length c) ∧ w'.cell? ⟨fb, fo + k * 4, none⟩ = some (.int .i64 (nth p k).params) ∧ w'.cell? ⟨fb, fo + k * 4 + 1, none⟩ = some (.slice lo' (nth p k).locals.length lc) ∧ w'.cell? ⟨fb, fo + k * 4 + 2, none⟩ = some (.int .i64 (nth p k).result) ∧ w'.cell? ⟨fb, fo + k * 4 + 3, none⟩ = some (.slice (some ⟨cb, cx, none⟩) (nth p k).code.length cc) ∧ w'.cell? ⟨cb, cx + i * 2, none⟩ = some (.int .i64 (nth (nth p k).code i).code) ∧ w'.cell? ⟨cb, cx + i * 2 + 1, none⟩ = some (.int .i64 (nth (nth p k).code i).a) ∧ w'.cell? ⟨w.heap.size + 1, i, none⟩ = some av)
                (first | go_keep | (have hbc := (bcell hbb).1; refine ⟨?_, ?_, ?_, ?_, ?_, ?_, ?_, ?_⟩ <;> (rw [hbc _ _ (by simp; omega)]; assumption))) (first | (go_at_call 108; refine TRY.out.mono ?_; rintro e w' ⟨⟨rv, rfl, hrv⟩, hbb⟩))
              obtain ⟨ro, rc, rfl, _, _, _⟩ := (hrv out rfl).1.open
              have hbb' : Below wr.heap.size wr w' := ((Below.refl _ _).drew).trans hbb
              have hs4 := hbb'.size
              have hb4 : Below (w.heap.size + 1) w3 w' := hb1.trans (hbb'.mono (by omega))
              have HA4 : Hid (AtMet w' (w.heap.size + 1 + 1 + 1) (w.heap.size + 1) (w.heap.size + 1 + 1) 27 4 st1) := HA1.out.frame hbb'
              have HRV : Hid (FInts w' (w.heap.size + 1 + 1 + 1) (.slice ro out.length rc) out) := (hrv out rfl).mono (by simpa using g5)
              have HTY : Hid (Mz.TyL out) := Mz.tryOp_ty HR.out.prog HR.out.fn HOPK.out (HG1.out.ty i hin s HST.out).1 HTO.out
              have hl8 := Mz.tryOp_len HTO.out
              have HV : Hid (Mz.visit p (nth p k) i (st1, b1) = Mz.comeAll out (Mz.nexts (nth (nth p k).code i) i) (st1, b1)) := visit_come hil HST.out HTO.out
              have HNX : Hid (goesList (nth (nth p k).code i) i ((nth p k).code.length + 1) = (Mz.nexts (nth (nth p k).code i) i).map (fun (m : Nat) => (m : Int))) := goesList_eq _ _ _ HOPK.out.jump hin
              have HLE : Hid (∀ t ∈ Mz.nexts (nth (nth p k).code i) i, t ≤ (nth p k).code.length) := nexts_le HOPK.out.jump hin
              have hln := goesList_len (nth (nth p k).code i) i ((nth p k).code.length + 1)
              clear TRY hbb hbb' hrv HA1 hb1 x0 x1 x2 x3 x4 x5 x6 ac mc AF
              go_wp2_with fail
              refine (nextOf_any _ (nth p k).code i B _ (hcd.frame ((hb0.trans (hb4.mono (by omega))).mono hB)) (by omega) hin hc40).mono ?_
              rintro e w5 ⟨nv, rfl, hnv, hnlo, hb5⟩
              rw [HNX.out] at hnv hln
              have hs5 := hb5.size
              have hb5' : Below (w.heap.size + 1) w3 w5 := hb4.trans (hb5.mono (by omega))
              have HA5 : Hid (AtMet w5 (w.heap.size + 1 + 1 + 1) (w.heap.size + 1) (w.heap.size + 1 + 1) 27 4 st1) := HA4.out.frame hb5
              have HRV5 : Hid (FInts w5 (w.heap.size + 1 + 1 + 1) (.slice ro out.length rc) out) := HRV.out.frame hb5
              have HNV : Hid (FInts w5 (w.heap.size + 1 + 1 + 1) nv ((Mz.nexts (nth (nth p k).code i) i).map (fun (m : Nat) => (m : Int)))) := ⟨hnv, fun b o n c e => by have := hnlo b o n c e; omega⟩
              obtain ⟨no, nc, rfl, n1, n2, n3⟩ := hnv.open
              unfold maxLen at n2
              clear hnv hnlo hb5 HA4 HRV HNX hb4
              obtain ⟨nx, hnx⟩ : ∃ nx, nx = Mz.nexts (nth (nth p k).code i) i := ⟨_, rfl⟩
              rw [← hnx] at HV HLE HNV n1 n3 hln ⊢
              clear hnx
              rw [List.length_map] at n1 n3 hln HNV ⊢
              go_wp2_with fail
              go_loopw [9, 14] (fun more j wy => ∃ (t : Nat) (st2 : Mz.St) (b2 : Bool), t ≤ nx.length ∧ j = .int .i64 t ∧ more = .bool b2 ∧ Hid (Mz.comeAll out (nx.drop t) (st2, b2) = Mz.comeAll out nx (st1, b1)) ∧ Hid (Good (nth p k).code.length st2) ∧ Hid (AtMet wy (w.heap.size + 1 + 1 + 1) (w.heap.size + 1) (w.heap.size + 1 + 1) 27 4 st2) ∧ Below (w.heap.size + 1) w3 wy ∧ Hid (FInts wy (w.heap.size + 1 + 1 + 1) (.slice ro out.length rc) out) ∧ Hid (FInts wy (w.heap.size + 1 + 1 + 1) (.slice no nx.length nc) (nx.map (fun (m : Nat) => (m : Int))))) (fun _ j _ => nx.length - (intOf j).toNat)
              case atStart => exact ⟨0, st1, b1, Nat.zero_le _, rfl, rfl, rfl, HG1, HA5, hb5', HRV5, HNV⟩
              case round =>
                obtain ⟨t, st2, b2, ht, rfl, rfl, hY, HG2, HA2, hb2, HRV2, HNV2⟩ := hrel
                clear HA5 hb5' HRV5 HNV
                have hs2 := HA2.out.size
                by_cases htn : t < nx.length
                · obtain ⟨nb, no', rfl, nB, ncell⟩ := RInts.at HNV2.out.1 (i := t) (by simpa using htn)
                  rw [nth_map _ htn] at ncell
                  have hle := HLE.out _ (nth_mem htn)
                  by_cases hend : nth nx t = (nth p k).code.length
                  · have hend' : (((nth nx t : Nat) : Int) == ((nth p k).code.length : Int)) = true := by simp [hend]
                    have HEND := Lib.hid hend
                    clear hend
                    go_wp2_with fail
                    go_ret2
                    refine ⟨.none rfl (rounds_none HT.out ?_), hb0.trans (hb2.mono (by omega))⟩
                    rw [← hX1.out]
                    refine roundFrom_none hin ?_
                    rw [HV.out, ← hY.out]
                    exact comeAll_none htn (come_end (by rw [HG2.out.len, HEND.out]; exact Nat.le_refl _))
                  · have hend' : (((nth nx t : Nat) : Int) == ((nth p k).code.length : Int)) = false := by rw [beq_eq_false_iff_ne]; omega
                    have hlt : nth nx t < (nth p k).code.length := by omega
                    have hlt2 : nth nx t < st2.length := by rw [HG2.out.len]; exact hlt
                    clear hend
                    obtain ⟨mc, av2, ac, aF⟩ := HA2.out.cells hlt2
                    obtain ⟨fz1, fz2⟩ := HA2.out.frozen (nth nx t)
                    have AF := Lib.hid aF
                    clear aF
                    cases hst2 : nth st2 (nth nx t) with
                    | none =>
                      rw [hst2] at mc
                      have HST2 := Lib.hid hst2
                      clear hst2
                      go_wp2_with fail
                      go_roundw
                      case rel =>
                        exact ⟨t + 1, _, true, by omega, by go_num, rfl, by rw [Hid, ← hY.out, comeAll_some htn (come_new hlt2 HST2.out), Bool.or_true], HG2.out.set hlt ⟨HTY.out, hl8⟩, HA2.out.new hlt2 HRV2.out, (hb2.setCell (by simp) _).setCell (by simp) _, (HRV2.out.setCell (by simp) _).setCell (by simp) _, (HNV2.out.setCell (by simp) _).setCell (by simp) _⟩
                      case measure => simp [intOf]; omega
                    | some tt =>
                      rw [hst2] at mc AF
                      have HST2 := Lib.hid hst2
                      clear hst2
                      obtain ⟨htt, htt8⟩ := HG2.out.ty _ hlt tt HST2.out
                      have HTT := Lib.hid htt
                      clear htt
                      go_wp2_with fail
                      refine (refJoin_any _ _ tt out wr.heap.size _ AF.out.1 HRV2.out.1 (Nat.le_refl _) (by omega) HTT.out HTY.out).mono ?_
                      rintro e w6 ⟨⟨jv, rfl, hjv⟩, hb6⟩
                      have hs6 := hb6.size
                      have hb6' := hb2.trans (hb6.mono (by omega))
                      have g6 : w.heap.size + 1 < wr.heap.size := by omega
                      have ac6 := ((bcell hb6).1 (w.heap.size + 1) (nth nx t) g6).trans ac
                      have hAF6 : Hid (RInts w6 w6.heap.size av2 tt) := (AF.out.1.frame hb6).mono hs6
                      have fz6 := ((bcell hb6).2 (w.heap.size + 1) (nth nx t) g6).trans fz1
                      have HA6 : Hid (AtMet w6 (w.heap.size + 1 + 1 + 1) (w.heap.size + 1) (w.heap.size + 1 + 1) 27 4 st2) := HA2.out.frame hb6
                      have HRV6 : Hid (FInts w6 (w.heap.size + 1 + 1 + 1) (.slice ro out.length rc) out) := HRV2.out.frame hb6
                      have HNV6 : Hid (FInts w6 (w.heap.size + 1 + 1 + 1) (.slice (some ⟨nb, no', none⟩) nx.length nc) (nx.map (fun (m : Nat) => (m : Int)))) := HNV2.out.frame hb6
                      clear hb6 HA2 HRV2 HNV2 ac fz1 fz2 mc hb2
                      cases hjn : Mz.joinL tt out with
                      | none =>
                        have HJN := Lib.hid hjn
                        clear hjn hjv
                        go_wp2_with fail
                        go_ret2
                        refine ⟨.none rfl (rounds_none HT.out ?_), hb0.trans (hb6'.mono (by omega))⟩
                        rw [← hX1.out]
                        refine roundFrom_none hin ?_
                        rw [HV.out, ← hY.out]
                        exact comeAll_none htn (come_bad hlt2 HST2.out HJN.out)
                      | some jj =>
                        rw [hjn] at hjv
                        have HJN := Lib.hid hjn
                        clear hjn
                        have hjl : jj.length ≤ 8 := by rw [(Mz.joinL_len HJN.out).1]; omega
                        obtain ⟨jo, jc, rfl, _, _, _⟩ := RInts.open (l := jj) hjv.1
                        have HJV : Hid (FInts w6 (w.heap.size + 1 + 1 + 1) (.slice jo jj.length jc) jj) := FInts.mono hjv (by omega)
                        have HJT : Hid (Mz.TyL jj) := Mz.joinL_ty HJN.out HTT.out HTY.out
                        clear hjv
                        go_wp2_with fail
                        refine (sameInts_any _ _ jj tt w6.heap.size _ HJV.out.1 hAF6.out (Nat.le_refl _)).mono ?_
                        rintro e w7 ⟨rfl, nn, rfl⟩
                        have hb7 : Below w6.heap.size w6 (w6.drewN nn) := below_drewN _ _ _
                        have HA7 : Hid (AtMet (w6.drewN nn) (w.heap.size + 1 + 1 + 1) (w.heap.size + 1) (w.heap.size + 1 + 1) 27 4 st2) := HA6.out.frame hb7
                        have HRV7 : Hid (FInts (w6.drewN nn) (w.heap.size + 1 + 1 + 1) (.slice ro out.length rc) out) := HRV6.out.frame hb7
                        have HNV7 : Hid (FInts (w6.drewN nn) (w.heap.size + 1 + 1 + 1) (.slice (some ⟨nb, no', none⟩) nx.length nc) (nx.map (fun (m : Nat) => (m : Int)))) := HNV6.out.frame hb7
                        have HJV7 : Hid (FInts (w6.drewN nn) (w.heap.size + 1 + 1 + 1) (.slice jo jj.length jc) jj) := HJV.out.frame hb7
                        have hb7' := hb6'.trans (hb7.mono (by omega))
                        have fz7 := ((bcell hb7).2 (w.heap.size + 1) (nth nx t) (by omega)).trans fz6
                        have ac7 := ((bcell hb7).1 (w.heap.size + 1) (nth nx t) (by omega)).trans ac6
                        clear HA6 HRV6 HNV6 HJV hb6' hb7 ac6 fz6 hAF6
                        obtain ⟨w8, hw8⟩ : ∃ w8, w8 = w6.drewN nn := ⟨_, rfl⟩
                        rw [← hw8] at HA7 HRV7 HNV7 HJV7 hb7' fz7 ac7 ⊢
                        clear hw8
                        by_cases hje : jj = tt
                        · have hjd : decide (jj = tt) = true := by simp [hje]
                          have HJE := Lib.hid hje
                          clear hje
                          go_wp2_with fail
                          go_roundw
                          case rel =>
                            exact ⟨t + 1, st2, b2, by omega, by go_num, rfl, by rw [Hid, ← hY.out, comeAll_some htn (come_same hlt2 HST2.out (by rw [HJN.out, HJE.out])), Bool.or_false], HG2, HA7, hb7', HRV7, HNV7⟩
                          case measure => simp [intOf]; omega
                        · have hjd : decide (jj = tt) = false := by simp [hje]
                          have HJE := Lib.hid hje
                          clear hje
                          go_wp2_with fail
                          go_roundw
                          case rel =>
                            exact ⟨t + 1, _, true, by omega, by go_num, rfl, by rw [Hid, ← hY.out, comeAll_some htn (come_join hlt2 HST2.out HJN.out HJE.out), Bool.or_true], HG2.out.set hlt ⟨HJT.out, hjl⟩, HA7.out.join hlt2 (by rw [HST2.out]; rfl) HJV7.out, hb7'.setCell (by simp) _, HRV7.out.setCell (by simp) _, HNV7.out.setCell (by simp) _⟩
                          case measure => simp [intOf]; omega
                · obtain rfl : t = nx.length := by omega
                  go_wp2_with fail
                  go_roundw
                  case rel =>
                    have hv2 : Mz.visit p (nth p k) i (st1, b1) = some (st2, b2) := by rw [HV.out, ← hY.out]; exact comeAll_end htn
                    exact ⟨i + 1, st2, b2, by omega, by go_num, rfl, by rw [Hid, ← roundFrom_next hin hv2]; exact hX1.out, HG2, HA2, hb2⟩
                  case measure => simp [intOf]; omega
        · obtain rfl : i = (nth p k).code.length := by omega
          have hX2 := hX1.out
          rw [Nat.sub_self, Mz.roundFrom] at hX2
          have HS := Lib.hid (rounds_some HR.out HM.out HT.out hX2.symm)
          have hgk := HT.out.1
          clear hX2
          go_wp2_with fail
          go_roundg (gk - 1)
          case measure => omega
          case rel => exact ⟨st1, b1, rfl, HA1.out, HS.out.1, HS.out.2.1, HS.out.2.2, hb1⟩
    | false =>
      have HF := Lib.hid (hf rfl)
      clear ht hf
      have HA := Lib.hid hAM
      clear hAM
      have hsl := HM.out.len
      have HLEN := Lib.hid hsl
      clear hsl
      have gsz := HA.out.size
      go_wp2_with fail
      obtain ⟨wo, hwo⟩ : ∃ wo : World, wo = wr := ⟨_, rfl⟩
      rw [← hwo] at HA hbl gsz ⊢
      clear hwo
      go_loopw [18, 19] (fun ov j wz => ∃ (i : Nat) (ps : List ((Nat × List Int) × Value)), i ≤ (nth p k).code.length ∧ j = .int .i64 i ∧ Hid (ps.map (·.1) = entsTo st i) ∧ Hid (wz.ownsRow wo.heap.size 155 2 ov ps.length (ps.flatMap entCells)) ∧ Hid (∀ x ∈ ps, RInts wo wo.heap.size x.2 x.1.2) ∧ Below wo.heap.size wo wz) (fun _ j _ => (nth p k).code.length - (intOf j).toNat)
      case atStart => exact ⟨0, [], Nat.zero_le _, rfl, rfl, World.ownsRow_nil _ _ _ _, (fun x hx => by cases hx), Below.refl _ _⟩
      case round =>
        obtain ⟨i, ps, hi, rfl, hps, hown, hrd, hbz⟩ := hrel
        have hsz2 := hbz.size
        have hpl : ps.length = (entsTo st i).length := by rw [← hps.out, List.length_map]
        have hpn := entsTo_len st i
        have hB2 : Below w.heap.size w wr := (hb0.trans (hbl.mono (by omega))).trans (hbz.mono (by omega))
        by_cases hin : i < (nth p k).code.length
        · have hil : i < st.length := by rw [HLEN.out]; exact hin
          obtain ⟨mc, av, ac, aF⟩ := HA.out.cells hil
          have mc' := ((bcell hbz).1 (w.heap.size + 1 + 1) i (by omega)).trans mc
          have ac' := ((bcell hbz).1 (w.heap.size + 1) i (by omega)).trans ac
          have AF := Lib.hid aF
          clear aF mc ac
          cases hst : nth st i with
          | none =>
            rw [hst] at mc'
            have HST := Lib.hid hst
            clear hst
            go_wp2_with fail
            go_roundw
            case rel => exact ⟨i + 1, ps, by omega, by go_num, by rw [Hid, entsTo_succ, HST.out, hps.out]; simp, hown, hrd, hbz⟩
            case measure => simp [intOf]; omega
          | some s =>
            rw [hst] at mc' AF
            have HST := Lib.hid hst
            clear hst
            have hsF : RInts wo wo.heap.size av s := AF.out.1
            obtain ⟨so, sc, rfl, _, _, _⟩ := hsF.open
            have HSF := Lib.hid hsF
            clear hsF
            go_wp2_with (at_builtin; refine push_gen (P := Tryz.prog) (cells := [.int .i64 i, .slice so s.length sc]) Tryz.underlying90 info_entry rfl (by decide) (by decide) rfl rfl rfl hown.out rfl rfl (by intro u hu; simp at hu; rcases hu with rfl | rfl <;> rfl) (by omega) (by omega) ?_; intro v' w' hown' hgr hb')
            go_roundw
            case rel =>
              refine ⟨i + 1, ps ++ [((i, s), .slice so s.length sc)], by omega, by go_num, by rw [Hid, entsTo_succ, HST.out, List.map_append, hps.out]; rfl, by rw [List.length_append, List.flatMap_append]; exact hown', ?_, hbz.trans hb'⟩
              intro x hx
              rcases List.mem_append.1 hx with hx | hx
              · exact hrd.out x hx
              · rw [List.mem_singleton] at hx; subst hx; exact HSF.out
            case measure => simp [intOf]; omega
        · obtain rfl : i = (nth p k).code.length := by omega
          go_wp2_with fail
          go_ret2
          refine ⟨.some rfl HF.out ?_, hB2⟩
          rw [HLEN.out, ← hps.out]
          exact REnts.of_owns hown.out (by omega) (fun x hx => ((hrd.out x hx).frame hbz).mono (by omega))
end Go.Proofs.YthdomhejkbpabaaGreat
