/- Lemmas: RefProg. -/
import Derived.Test.YthdomhejkbpabaaGreatG13
import Derived.Test.YthdomhejkbpabaaGreatG06
set_option linter.unusedVariables false
set_option linter.unusedSimpArgs false
/- The check of a program answers what is said of it: CheckProgram of the reference. -/
namespace Go.Proofs.YthdomhejkbpabaaGreat
open Go.RowKit

/-- all of the first k are so -/
def AllTo {α : Type} [Inhabited α] (g : α → Bool) (l : List α) (k : Nat) : Prop := ∀ i, i < k → g (nth l i) = true
theorem AllTo.succ {α : Type} [Inhabited α] {g : α → Bool} {l : List α} {k : Nat} (h : AllTo g l k) (hk : g (nth l k) = true) : AllTo g l (k + 1) := fun i hi => by
  by_cases c : i = k
  · rw [c]; exact hk
  · exact h i (by omega)
theorem AllTo.end {α : Type} [Inhabited α] {g : α → Bool} {l : List α} {k : Nat} (h : AllTo g l k) (hk : ¬ k < l.length) : l.all g = true := by
  rw [List.all_eq_true]
  intro x hx
  obtain ⟨i, hi, rfl⟩ := List.mem_iff_getElem.1 hx
  have := h i (by omega)
  rwa [nth_lt hi] at this
theorem all_stop {α : Type} [Inhabited α] {g : α → Bool} {l : List α} {k : Nat} (hk : k < l.length) (h : g (nth l k) = false) : l.all g = false := by
  rw [List.all_eq_false]
  exact ⟨_, List.getElem_mem hk, by rw [← nth_lt hk, h]; simp⟩
/-- the first k, as the loop has them -/
def kindsTo (r : Bool) (l : List Int) (k : Nat) : Bool := r && (l.take k).all (fun t => Mz.btw t 1 2)
theorem kindsTo_succ {r : Bool} {l : List Int} {k : Nat} (hk : k < l.length) : kindsTo r l (k + 1) = (kindsTo r l k && Mz.btw (nth l k) 1 2) := by
  unfold kindsTo; rw [take_snoc hk]; simp [Bool.and_assoc]

theorem checkFun_params {p : List Mz.Fun} {f : Mz.Fun} (k1 : ¬ 6 < f.locals.length) (h : Mz.btw f.params 0 f.locals.length = false) : Mz.checkFun p f = 3 := by
  rw [Mz.checkFun, if_neg k1, if_pos h]
theorem checkFun_kinds {p : List Mz.Fun} {f : Mz.Fun} (k1 : ¬ 6 < f.locals.length) (k2 : Mz.btw f.params 0 f.locals.length = true) (h : kindsTo (Mz.btw f.result 0 2) f.locals f.locals.length = false) : Mz.checkFun p f = 6 := by
  unfold kindsTo at h
  rw [List.take_of_length_le (Nat.le_refl _)] at h
  rw [Mz.checkFun, if_neg k1, if_neg (by simp [k2]), if_pos]
  cases hr : Mz.btw f.result 0 2 with
  | false => exact .inl rfl
  | true => rw [hr, Bool.true_and] at h; exact .inr h
theorem checkFun_none {p : List Mz.Fun} {f : Mz.Fun} (k1 : ¬ 6 < f.locals.length) (k2 : Mz.btw f.params 0 f.locals.length = true) (h : kindsTo (Mz.btw f.result 0 2) f.locals f.locals.length = true) (h5 : f.code = []) : Mz.checkFun p f = 5 := by
  unfold kindsTo at h
  rw [List.take_of_length_le (Nat.le_refl _)] at h
  simp only [Bool.and_eq_true] at h
  rw [Mz.checkFun, if_neg k1, if_neg (by simp [k2]), if_neg (by simp [h.1, h.2]), if_pos h5]
theorem checkFun_code {p : List Mz.Fun} {f : Mz.Fun} (k1 : ¬ 6 < f.locals.length) (k2 : Mz.btw f.params 0 f.locals.length = true) (h : kindsTo (Mz.btw f.result 0 2) f.locals f.locals.length = true) (h5 : f.code ≠ []) :
    Mz.checkFun p f = if Mz.checkCode f.code ≠ 0 then Mz.checkCode f.code else if f.code.all (Mz.opFits p f) = false then 3 else 0 := by
  unfold kindsTo at h
  rw [List.take_of_length_le (Nat.le_refl _)] at h
  simp only [Bool.and_eq_true] at h
  rw [Mz.checkFun, if_neg k1, if_neg (by simp [k2]), if_neg (by simp [h.1, h.2]), if_neg h5]

set_option maxHeartbeats 4000000 in
set_option maxRecDepth 100000 in
theorem refCheckProg_any (pv : Value) (p : List Mz.Fun) (B : Nat) (w : World) (hB : B ≤ w.heap.size) (h : RProg w B pv p) :
    Calls Tryz.prog 58 #[pv] w fun e w' => e = .returned (.int .i64 (Mz.checkProg p)) ∧ Below w.heap.size w w' := by
  obtain ⟨fv, rfl, hfs⟩ := h
  obtain ⟨ao, c, rfl, h1, h2, h3⟩ := hfs.open
  unfold maxLen at h2
  have hb0 : Below w.heap.size w (w.alloc (.cells #[.slice ao p.length c] 24)) := (Below.refl _ _).alloc (Nat.le_refl _) _
  by_cases k0 : p.length = 0
  · have k0' : ((p.length : Int) == 0) = true := by simp [k0]
    have K0 := Lib.hid k0
    clear k0
    go_enter Tryz.func58, Tryz.ntmps58
    go_wp2_with fail
    go_ret
    exact ⟨ret_int (by rw [Mz.checkProg, if_pos (List.eq_nil_of_length_eq_zero K0.out)]), hb0⟩
  have k0' : ((p.length : Int) == 0) = false := by rw [beq_eq_false_iff_ne]; omega
  have hne : Hid (p ≠ []) := fun e => k0 (by simp [e])
  by_cases k1 : 5 < p.length
  · go_enter Tryz.func58, Tryz.ntmps58
    go_wp2_with fail
    go_ret
    exact ⟨ret_int (by rw [Mz.checkProg, if_neg hne.out, if_pos k1]), hb0⟩
  have hpos : 0 < p.length := by omega
  have K0 := Lib.hid k0
  clear k0
  have finish : ∀ k, k < p.length → Clean (Mz.checkFun p) p k → ∀ e, Mz.checkFun p (nth p k) = e → e ≠ 0 → Mz.checkProg p = e := by
    intro k hk hall e he hne'
    have hs := hall.stop hk (by rw [he]; exact hne')
    rw [Mz.checkProg, if_neg hne.out, if_neg k1, if_pos (by rw [hs, he]; exact hne'), hs, he]
  have FIN := Lib.hid finish
  clear finish
  go_enter Tryz.func58, Tryz.ntmps58
  go_wp2_with fail
  go_loopw [3] (fun i wr => ∃ k : Nat, k ≤ p.length ∧ i = .int .i64 k ∧ Clean (Mz.checkFun p) p k ∧ Below (w.heap.size + 1) (w.alloc (.cells #[.slice ao p.length c] 24)) wr ∧ w.heap.size + 1 ≤ wr.heap.size) (fun i _ => p.length - (intOf i).toNat)
  case atStart => exact ⟨0, Nat.zero_le _, rfl, .zero, Below.refl _ _, by simp⟩
  case round =>
    obtain ⟨k, hk, rfl, hall, hL, hs⟩ := hrel
    have hb := hb0.trans (hL.mono (by omega))
    obtain ⟨hc, hfz⟩ := bcell hL
    by_cases hlt : k < p.length
    · obtain ⟨b, o, lv, cv, rfl, hbB, q0, q1, q2, q3, hl, hcd⟩ := hfs.at hlt
      obtain ⟨lo, lc, rfl, l1, l2, l3⟩ := hl.open
      obtain ⟨co, cc, rfl, c1, c2, c3⟩ := hcd.open
      unfold maxLen at l2 c2
      have g1 : b < w.heap.size := by omega
      have g2 : b < w.heap.size + 1 := by omega
      have g3 : b < wr.heap.size := by omega
      have g4 : w.heap.size < wr.heap.size := by omega
      have hBf : Below w.heap.size w (wr.alloc (.cells #[.int .i64 (nth p k).params, .slice lo (nth p k).locals.length lc, .int .i64 (nth p k).result, .slice co (nth p k).code.length cc] 110)) := hb.alloc (by omega) _
      have F := FIN.out k hlt hall
      have FF := Lib.hid F
      clear F
      by_cases d1 : 6 < (nth p k).locals.length
      · go_wp2_with fail
        go_ret
        exact ⟨ret_int (by rw [FF.out 2 (by rw [Mz.checkFun, if_pos d1]) (by decide)]), hBf⟩
      go_wp2_with fail
      refine (between_any _ _ _ _).mono ?_
      rintro e w' ⟨rfl, rfl⟩
      cases d2 : Mz.btw (nth p k).params 0 (nth p k).locals.length with
      | false =>
        go_wp2_with fail
        go_ret
        exact ⟨ret_int (by rw [FF.out 3 (checkFun_params d1 d2) (by decide)]), hBf⟩
      | true =>
      have D2 := Lib.hid d2
      clear d2
      go_wp2_with fail
      refine (between_any _ _ _ _).mono ?_
      rintro e w' ⟨rfl, rfl⟩
      go_wp2_with fail
      obtain ⟨wo, hwo⟩ : ∃ wo : World, wo = wr.alloc (.cells #[.int .i64 (nth p k).params, .slice lo (nth p k).locals.length lc, .int .i64 (nth p k).result, .slice co (nth p k).code.length cc] 110) := ⟨_, rfl⟩
      rw [← hwo]
      have w0 : wo.cell? ⟨wr.heap.size, 0, none⟩ = some (.int .i64 (nth p k).params) := by rw [hwo]; simp
      have w1 : wo.cell? ⟨wr.heap.size, 1, none⟩ = some (.slice lo (nth p k).locals.length lc) := by rw [hwo]; simp
      have w2 : wo.cell? ⟨wr.heap.size, 2, none⟩ = some (.int .i64 (nth p k).result) := by rw [hwo]; simp
      have w3 : wo.cell? ⟨wr.heap.size, 3, none⟩ = some (.slice co (nth p k).code.length cc) := by rw [hwo]; simp
      have ws : wr.heap.size < wo.heap.size := by rw [hwo]; simp
      have hLo : Below (w.heap.size + 1) (w.alloc (.cells #[.slice (some ⟨b, o, none⟩) p.length c] 24)) wo := by rw [hwo]; exact hL.alloc hs _
      have wp0 : wo.cell? ⟨w.heap.size, 0, none⟩ = some (.slice (some ⟨b, o, none⟩) p.length c) := by rw [(bcell hLo).1 _ _ (by omega)]; simp
      have hBwo : Below w.heap.size w wo := by rw [hwo]; exact hBf
      clear hwo hL hb hc hfz hBf q0 q1 q2 q3
      have hlw := hl.frame (hBwo.mono hB)
      have hcw := hcd.frame (hBwo.mono hB)
      go_loop [5, 6] (fun kb i => ∃ j : Nat, j ≤ (nth p k).locals.length ∧ i = .int .i64 j ∧ kb = .bool (kindsTo (Mz.btw (nth p k).result 0 2) (nth p k).locals j)) (fun _ i => (nth p k).locals.length - (intOf i).toNat)
      case atStart => exact ⟨0, Nat.zero_le _, rfl, by simp [kindsTo]⟩
      case round =>
        obtain ⟨j, hj, rfl, rfl⟩ := hrel
        by_cases hjl : j < (nth p k).locals.length
        · obtain ⟨lb, lx, rfl, lB, lcell⟩ := hlw.at hjl
          have hks := Lib.hid (kindsTo_succ (r := Mz.btw (nth p k).result 0 2) hjl)
          cases hkk : kindsTo (Mz.btw (nth p k).result 0 2) (nth p k).locals j with
          | false =>
            rw [hkk] at hks
            go_wp2_with fail
            go_round
            case rel => exact ⟨j + 1, by omega, by go_num, by rw [hks.out]; rfl⟩
            case measure => simp [intOf]; omega
          | true =>
            rw [hkk] at hks
            go_wp2_with fail
            refine (between_any _ _ _ _).mono ?_
            rintro e w' ⟨rfl, rfl⟩
            go_wp2_with fail
            go_round
            case rel => exact ⟨j + 1, by omega, by go_num, by rw [hks.out]; rfl⟩
            case measure => simp [intOf]; omega
        · obtain rfl : j = (nth p k).locals.length := by omega
          cases hkk : kindsTo (Mz.btw (nth p k).result 0 2) (nth p k).locals (nth p k).locals.length with
          | false =>
            go_wp2_with fail
            go_ret
            exact ⟨ret_int (by rw [FF.out 6 (checkFun_kinds d1 D2.out hkk) (by decide)]), hBwo⟩
          | true =>
          have HKK := Lib.hid hkk
          clear hkk
          by_cases d5 : (nth p k).code = []
          · have d5' : (((nth p k).code.length : Int) == 0) = true := by simp [d5]
            have D5 := Lib.hid d5
            clear d5
            go_wp2_with fail
            go_ret
            exact ⟨ret_int (by rw [FF.out 5 (checkFun_none d1 D2.out HKK.out D5.out) (by decide)]), hBwo⟩
          have d5' : (((nth p k).code.length : Int) == 0) = false := by
            rw [beq_eq_false_iff_ne]; intro h0; exact d5 (List.eq_nil_of_length_eq_zero (by omega))
          have HC := Lib.hid (checkFun_code (p := p) d1 D2.out HKK.out d5)
          clear d5
          go_wp2_with fail
          refine (refCheckCode_any _ (nth p k).code B _ hcw (by omega)).mono ?_
          rintro e w4 ⟨rfl, hb4⟩
          by_cases d6 : Mz.checkCode (nth p k).code = 0
          · have d6' : (Mz.checkCode (nth p k).code != 0) = false := by simp [d6]
            have D6 := Lib.hid d6
            clear d6
            go_wp2_with fail
            go_loopw [8] (fun i wx => ∃ j : Nat, j ≤ (nth p k).code.length ∧ i = .int .i64 j ∧ AllTo (Mz.opFits p (nth p k)) (nth p k).code j ∧ Below wo.heap.size wo wx) (fun i _ => (nth p k).code.length - (intOf i).toNat)
            case atStart => exact ⟨0, Nat.zero_le _, rfl, fun i hi => by omega, hb4⟩
            case round =>
              obtain ⟨j, hj, rfl, hall2, hL2⟩ := hrel
              obtain ⟨hc2, hfz2⟩ := bcell hL2
              have hs2 := hL2.size
              have ws2 := Nat.lt_of_lt_of_le ws hs2
              by_cases hjl : j < (nth p k).code.length
              · obtain ⟨ob, oo, rfl, oB, q0, q1⟩ := hcw.at hjl
                have y1 : ob < wr.heap.size := by omega
                have y2 : ob < wo.heap.size := by omega
                have y3 : w.heap.size < wo.heap.size := by omega
                have y4 : w.heap.size < wr.heap.size := by omega
                have hL3 := hL2.alloc (by omega) (.cells #[.int .i64 (nth (nth p k).code j).code, .int .i64 (nth (nth p k).code j).a] 49)
                have hE3 := hBwo.trans (hL3.mono (by omega))
                by_cases x8 : (nth (nth p k).code j).code = 8
                · have e8 : ((nth (nth p k).code j).code == 8) = true := by simp [x8]
                  have e9 : ((nth (nth p k).code j).code == 9) = false := by simp [x8]
                  have e10 : ((nth (nth p k).code j).code == 10) = false := by simp [x8]
                  have e11 : ((nth (nth p k).code j).code == 11) = false := by simp [x8]
                  have e12 : ((nth (nth p k).code j).code == 12) = false := by simp [x8]
                  go_wp2_with fail
                  refine (between_any _ _ _ _).mono ?_
                  rintro e w9 ⟨rfl, rfl⟩
                  cases hf : Mz.btw (nth (nth p k).code j).a 0 (((nth p k).locals.length : Int) - 1) with
                  | false =>
                    have OF : Mz.opFits p (nth p k) (nth (nth p k).code j) = false := by rw [Mz.opFits]; simp [x8, hf]
                    go_wp2_with fail
                    go_ret
                    exact ⟨ret_int (by rw [FF.out 3 (by rw [HC.out, if_neg (by simp [D6.out]), if_pos (all_stop hjl OF)]) (by decide)]), by rw [x8] at hE3; exact hE3⟩
                  | true =>
                    have OF : Mz.opFits p (nth p k) (nth (nth p k).code j) = true := by rw [Mz.opFits]; simp [x8, hf]
                    go_wp2_with fail
                    go_roundw
                    case rel => exact ⟨j + 1, by omega, by go_num, hall2.succ OF, by rw [x8] at hL3; exact hL3⟩
                    case measure => simp [intOf]; omega
                have e8 : ((nth (nth p k).code j).code == 8) = false := by simp [x8]
                by_cases x9 : (nth (nth p k).code j).code = 9
                · have e9 : ((nth (nth p k).code j).code == 9) = true := by simp [x9]
                  have e10 : ((nth (nth p k).code j).code == 10) = false := by simp [x9]
                  have e11 : ((nth (nth p k).code j).code == 11) = false := by simp [x9]
                  have e12 : ((nth (nth p k).code j).code == 12) = false := by simp [x9]
                  go_wp2_with fail
                  refine (between_any _ _ _ _).mono ?_
                  rintro e w9 ⟨rfl, rfl⟩
                  cases hf : Mz.btw (nth (nth p k).code j).a 0 (((nth p k).locals.length : Int) - 1) with
                  | false =>
                    have OF : Mz.opFits p (nth p k) (nth (nth p k).code j) = false := by rw [Mz.opFits]; simp [x9, hf]
                    go_wp2_with fail
                    go_ret
                    exact ⟨ret_int (by rw [FF.out 3 (by rw [HC.out, if_neg (by simp [D6.out]), if_pos (all_stop hjl OF)]) (by decide)]), by rw [x9] at hE3; exact hE3⟩
                  | true =>
                    have OF : Mz.opFits p (nth p k) (nth (nth p k).code j) = true := by rw [Mz.opFits]; simp [x9, hf]
                    go_wp2_with fail
                    go_roundw
                    case rel => exact ⟨j + 1, by omega, by go_num, hall2.succ OF, by rw [x9] at hL3; exact hL3⟩
                    case measure => simp [intOf]; omega
                have e9 : ((nth (nth p k).code j).code == 9) = false := by simp [x9]
                by_cases x10 : (nth (nth p k).code j).code = 10
                · have e10 : ((nth (nth p k).code j).code == 10) = true := by simp [x10]
                  have e11 : ((nth (nth p k).code j).code == 11) = false := by simp [x10]
                  have e12 : ((nth (nth p k).code j).code == 12) = false := by simp [x10]
                  go_wp2_with fail
                  refine (between_any _ _ _ _).mono ?_
                  rintro e w9 ⟨rfl, rfl⟩
                  cases hf : Mz.btw (nth (nth p k).code j).a 0 (((nth p k).code.length : Int) - 1) with
                  | false =>
                    have OF : Mz.opFits p (nth p k) (nth (nth p k).code j) = false := by rw [Mz.opFits]; simp [x10, hf]
                    go_wp2_with fail
                    go_ret
                    exact ⟨ret_int (by rw [FF.out 3 (by rw [HC.out, if_neg (by simp [D6.out]), if_pos (all_stop hjl OF)]) (by decide)]), by rw [x10] at hE3; exact hE3⟩
                  | true =>
                    have OF : Mz.opFits p (nth p k) (nth (nth p k).code j) = true := by rw [Mz.opFits]; simp [x10, hf]
                    go_wp2_with fail
                    go_roundw
                    case rel => exact ⟨j + 1, by omega, by go_num, hall2.succ OF, by rw [x10] at hL3; exact hL3⟩
                    case measure => simp [intOf]; omega
                have e10 : ((nth (nth p k).code j).code == 10) = false := by simp [x10]
                by_cases x11 : (nth (nth p k).code j).code = 11
                · have e11 : ((nth (nth p k).code j).code == 11) = true := by simp [x11]
                  have e12 : ((nth (nth p k).code j).code == 12) = false := by simp [x11]
                  go_wp2_with fail
                  refine (between_any _ _ _ _).mono ?_
                  rintro e w9 ⟨rfl, rfl⟩
                  cases hf : Mz.btw (nth (nth p k).code j).a 0 (((nth p k).code.length : Int) - 1) with
                  | false =>
                    have OF : Mz.opFits p (nth p k) (nth (nth p k).code j) = false := by rw [Mz.opFits]; simp [x11, hf]
                    go_wp2_with fail
                    go_ret
                    exact ⟨ret_int (by rw [FF.out 3 (by rw [HC.out, if_neg (by simp [D6.out]), if_pos (all_stop hjl OF)]) (by decide)]), by rw [x11] at hE3; exact hE3⟩
                  | true =>
                    have OF : Mz.opFits p (nth p k) (nth (nth p k).code j) = true := by rw [Mz.opFits]; simp [x11, hf]
                    go_wp2_with fail
                    go_roundw
                    case rel => exact ⟨j + 1, by omega, by go_num, hall2.succ OF, by rw [x11] at hL3; exact hL3⟩
                    case measure => simp [intOf]; omega
                have e11 : ((nth (nth p k).code j).code == 11) = false := by simp [x11]
                by_cases x12 : (nth (nth p k).code j).code = 12
                · have e12 : ((nth (nth p k).code j).code == 12) = true := by simp [x12]
                  go_wp2_with fail
                  refine (between_any _ _ _ _).mono ?_
                  rintro e w9 ⟨rfl, rfl⟩
                  cases hf : Mz.btw (nth (nth p k).code j).a 0 ((p.length : Int) - 1) with
                  | false =>
                    have OF : Mz.opFits p (nth p k) (nth (nth p k).code j) = false := by rw [Mz.opFits]; simp [x12, hf]
                    go_wp2_with fail
                    go_ret
                    exact ⟨ret_int (by rw [FF.out 3 (by rw [HC.out, if_neg (by simp [D6.out]), if_pos (all_stop hjl OF)]) (by decide)]), by rw [x12] at hE3; exact hE3⟩
                  | true =>
                    have OF : Mz.opFits p (nth p k) (nth (nth p k).code j) = true := by rw [Mz.opFits]; simp [x12, hf]
                    go_wp2_with fail
                    go_roundw
                    case rel => exact ⟨j + 1, by omega, by go_num, hall2.succ OF, by rw [x12] at hL3; exact hL3⟩
                    case measure => simp [intOf]; omega
                have e12 : ((nth (nth p k).code j).code == 12) = false := by simp [x12]
                have OF : Mz.opFits p (nth p k) (nth (nth p k).code j) = true := by rw [Mz.opFits]; simp [x8, x9, x10, x11, x12]
                go_wp2_with fail
                go_roundw
                case rel => exact ⟨j + 1, by omega, by go_num, hall2.succ OF, hL3⟩
                case measure => simp [intOf]; omega
              · obtain rfl : j = (nth p k).code.length := by omega
                go_wp2_with fail
                go_roundw
                case rel => exact ⟨k + 1, by omega, by go_num, hall.succ (by rw [HC.out, if_neg (by simp [D6.out]), if_neg (by simp [hall2.end hjl])]), hLo.trans (hL2.mono (by omega)), by omega⟩
                case measure => simp [intOf]; omega
          · have d6' : (Mz.checkCode (nth p k).code != 0) = true := by simp [d6]
            have D6 := Lib.hid d6
            clear d6
            go_wp2_with fail
            go_ret
            exact ⟨ret_int (by rw [FF.out (Mz.checkCode (nth p k).code) (by rw [HC.out, if_pos D6.out]) D6.out]), hBwo.trans (hb4.mono (by omega))⟩
    · obtain ⟨b, o, lv, cv, rfl, hbB, q0, q1, q2, q3, hl, hcd⟩ := hfs.at hpos
      obtain ⟨lo, lc, rfl, l1, l2, l3⟩ := hl.open
      obtain ⟨co, cc, rfl, c1, c2, c3⟩ := hcd.open
      have g1 : b < w.heap.size := by omega
      have g2 : b < w.heap.size + 1 := by omega
      have g3 : b < wr.heap.size := by omega
      have g4 : w.heap.size < wr.heap.size := by omega
      simp only [Nat.zero_mul, Nat.add_zero] at q0 q1 q2 q3
      have e0 := Lib.hid (hall.end hlt)
      have hh : Hid (p.head! = nth p 0) := head_nth hne.out
      go_wp2_with fail
      all_goals go_ret
      all_goals refine ⟨ret_int ?_, hb⟩
      all_goals rw [Mz.checkProg, if_neg hne.out, if_neg k1, if_neg (by rw [e0.out]; decide), hh.out]
      all_goals split
      all_goals first | rfl | (exfalso; simp_all; done) | (exfalso; simp_all; omega)
end Go.Proofs.YthdomhejkbpabaaGreat
