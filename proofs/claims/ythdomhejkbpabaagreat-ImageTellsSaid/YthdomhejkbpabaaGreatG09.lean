/- Lemmas: Try, Try2. -/
import Derived.Test.YthdomhejkbpabaaGreatG07
import Derived.Test.YthdomhejkbpabaaGreatG08
import Derived.Deep.DeepCutAuto
import Derived.Deep.CutBlock
set_option linter.unusedVariables false
set_option linter.unusedSimpArgs false
/- Trying an op on a stack: the program's way, walked. -/
namespace Go.Proofs.YthdomhejkbpabaaGreat
open Go.RowKit

theorem result_any (lv cv : Value) (f : Mz.Fun) (w : World) :
    Calls Tryz.prog 209 #[.agg #[.int .i64 f.params, lv, .int .i64 f.result, cv]] w fun e w' => (∃ r, e = .returned r ∧ RInts w' w'.heap.size r (resL f)) ∧ Below w.heap.size w w' := by
  by_cases c : f.result = 0
  · have c' : (f.result == 0) = true := by simp [c]
    have C := Lib.hid c
    clear c
    go_enter Tryz.func209, Tryz.ntmps209
    go_wp2_with fail
    go_ret
    exact ⟨⟨_, rfl, by rw [resL, if_pos C.out]; exact RInts.nil _ _⟩, (Below.refl _ _).alloc (Nat.le_refl _) _⟩
  · have c' : (f.result == 0) = false := by simp [c]
    have C := Lib.hid c
    clear c
    go_enter Tryz.func209, Tryz.ntmps209
    go_wp2_with fail
    go_ret
    exact ⟨⟨_, rfl, by rw [resL, if_neg C.out]; exact (RInts.newAt _ (w.heap.size + 1) (by simp) [f.result] (by simp)).mono (by simp)⟩, ((Below.refl _ _).alloc (Nat.le_refl _) _).alloc (by simp) _⟩

def Tried (p : List Mz.Fun) (f : Mz.Fun) (o : Mz.Op) (s : List Int) (w : World) (lo sb : Nat) (e : Ending) (w' : World) : Prop := e = .returned (.tuple #[]) ∧ Stk w' lo sb (tryS p f o s).1 (tryS p f o s).2 ∧ Fr lo sb w w'

set_option maxHeartbeats 2000000 in
set_option maxRecDepth 100000 in
theorem try_2 (pv lv cv : Value) (p : List Mz.Fun) (f : Mz.Fun) (o : Mz.Op) (s : List Int) (B : Nat) (w : World) (lo sb : Nat) (h : Stk w lo sb s false) (hs : s.length ≤ 500) (hB : B ≤ lo) (hpv : RProg w B pv p) (hl : RInts w B lv f.locals) (hcd : ROps w B cv f.code) (kc : o.code = 2) :
    Calls Tryz.prog 167 #[.pointer (some ⟨sb, 0, none⟩), pv, .agg #[.int .i64 f.params, lv, .int .i64 f.result, cv], .agg #[.int .i64 o.code, .int .i64 o.a]] w (Tried p f o s w lo sb) := by
  obtain ⟨fv, rfl, hfs⟩ := hpv
  obtain ⟨ao, c, rfl, h1, h2, h3⟩ := hfs.open
  obtain ⟨lo', lc, rfl, l1, l2, l3⟩ := hl.open
  obtain ⟨co, cc, rfl, c1, c2, c3⟩ := hcd.open
  unfold maxLen at h2 l2 c2
  have hlow := h.low
  have hsb : sb < w.heap.size := by obtain ⟨_, _, _, _, _, _, _, hsb⟩ := h.cells; exact hsb
  have hb0 : Below w.heap.size w (((w.alloc (.cells #[.slice ao p.length c] 24)).alloc (.cells #[.int .i64 f.params, .slice lo' f.locals.length lc, .int .i64 f.result, .slice co f.code.length cc] 110)).alloc (.cells #[.int .i64 o.code, .int .i64 o.a] 49)) := (((Below.refl _ _).alloc (Nat.le_refl _) _).alloc (by simp) _).alloc (by simp; omega) _
  have HS := Lib.hid (h.frame hb0)
  have HLB := Lib.hid (Fr.of_below (sb := sb) hb0 (show lo ≤ w.heap.size by omega))
  clear h hb0
  have t2 : (o.code == 2) = true := by simp [kc]
  have HR : Hid (tryR p f o s = (s.dropLast, s.isEmpty)) := by unfold Hid tryR; rw [if_pos kc]
  have KC := Lib.hid kc
  clear kc
  go_enter Tryz.func167, Tryz.ntmps167
  go_wp2_with fail
  refine (pop_any _ lo sb s false HS.out (by omega)).mono ?_
  rintro e w2 ⟨rfl, hs2, ho2⟩
  have HSF := Lib.hid hs2
  have HBF := Lib.hid (HLB.out.trans (ho2.fr hlow))
  clear hs2 ho2
  rw [Bool.false_or] at HSF
  have hts : Hid (tryS p f o s = ((tryR p f o s).1, (tryR p f o s).2 || decide (8 < (tryR p f o s).1.length))) := rfl
  rw [HR.out] at hts
  obtain ⟨L, hL⟩ : ∃ L, L = (tryR p f o s).1 := ⟨_, rfl⟩
  obtain ⟨WR, hWR⟩ : ∃ L, L = (tryR p f o s).2 := ⟨_, rfl⟩
  rw [HR.out] at hL hWR
  try simp only at hL hWR hts
  rw [← hL, ← hWR] at hts HSF
  clear hL hWR HR
  obtain ⟨so, sc, x0, x1, x2, x3, _, _⟩ := HSF.out.cells
  have HF := Lib.hid (HSF.out.setW (WR || decide (8 < L.length)))
  clear HSF
  cases WR with
  | true =>
    go_wp2_with fail
    go_end0
    refine ⟨rfl, ?_, HBF.out.setCell hlow _ _⟩
    rw [hts.out]; simpa using HF.out
  | false =>
    have e8 : Hid (decide ((8 : Int) < (L.length : Int)) = decide (8 < L.length)) := by unfold Hid; rw [decide_eq_decide]; omega
    go_wp2_with fail
    go_end0
    refine ⟨rfl, ?_, HBF.out.setCell hlow _ _⟩
    have hf := HF.out
    rw [Bool.false_or, ← e8.out] at hf
    rw [hts.out, Bool.false_or, ← e8.out]; exact hf

set_option maxHeartbeats 2000000 in
set_option maxRecDepth 100000 in
theorem try_3 (pv lv cv : Value) (p : List Mz.Fun) (f : Mz.Fun) (o : Mz.Op) (s : List Int) (B : Nat) (w : World) (lo sb : Nat) (h : Stk w lo sb s false) (hs : s.length ≤ 500) (hB : B ≤ lo) (hpv : RProg w B pv p) (hl : RInts w B lv f.locals) (hcd : ROps w B cv f.code) (kc : o.code = 3) :
    Calls Tryz.prog 167 #[.pointer (some ⟨sb, 0, none⟩), pv, .agg #[.int .i64 f.params, lv, .int .i64 f.result, cv], .agg #[.int .i64 o.code, .int .i64 o.a]] w (Tried p f o s w lo sb) := by
  obtain ⟨fv, rfl, hfs⟩ := hpv
  obtain ⟨ao, c, rfl, h1, h2, h3⟩ := hfs.open
  obtain ⟨lo', lc, rfl, l1, l2, l3⟩ := hl.open
  obtain ⟨co, cc, rfl, c1, c2, c3⟩ := hcd.open
  unfold maxLen at h2 l2 c2
  have hlow := h.low
  have hsb : sb < w.heap.size := by obtain ⟨_, _, _, _, _, _, _, hsb⟩ := h.cells; exact hsb
  have hb0 : Below w.heap.size w (((w.alloc (.cells #[.slice ao p.length c] 24)).alloc (.cells #[.int .i64 f.params, .slice lo' f.locals.length lc, .int .i64 f.result, .slice co f.code.length cc] 110)).alloc (.cells #[.int .i64 o.code, .int .i64 o.a] 49)) := (((Below.refl _ _).alloc (Nat.le_refl _) _).alloc (by simp) _).alloc (by simp; omega) _
  have HS := Lib.hid (h.frame hb0)
  have HLB := Lib.hid (Fr.of_below (sb := sb) hb0 (show lo ≤ w.heap.size by omega))
  clear h hb0
  have t2 : (o.code == 2) = false := by simp [kc]
  have t3 : (o.code == 3) = true := by simp [kc]
  have HR : Hid (tryR p f o s = (s.dropLast ++ [popL s, popL s], s.isEmpty)) := by unfold Hid tryR; rw [if_neg (by rw [kc]; decide), if_pos kc]
  have KC := Lib.hid kc
  clear kc
  have POP := Lib.hid (pop_any (((w.alloc (.cells #[.slice ao p.length c] 24)).alloc (.cells #[.int .i64 f.params, .slice lo' f.locals.length lc, .int .i64 f.result, .slice co f.code.length cc] 110)).alloc (.cells #[.int .i64 o.code, .int .i64 o.a] 49)) lo sb s false HS.out (by omega))
  obtain ⟨a, ha⟩ : ∃ a, a = popL s := ⟨_, rfl⟩
  rw [← ha] at POP HR
  clear ha HS
  go_enter Tryz.func167, Tryz.ntmps167
  go_wp2_with fail
  refine POP.out.mono ?_
  rintro e w2 ⟨rfl, hs2, ho2⟩
  have hb3 : Below w2.heap.size w2 (w2.alloc (.cells #[.int .i64 (a), .int .i64 (a)] 3)) := (Below.refl _ _).alloc (Nat.le_refl _) _
  have HS3 := Lib.hid (hs2.frame hb3)
  have hz := ho2.size
  simp only [World.size_alloc] at hz
  have HB3 := Lib.hid ((HLB.out.trans (ho2.fr hlow)).trans (.of_below hb3 (by omega)))
  have HI := Lib.hid (RInts.newAt w2 (w.heap.size + 1 + 1 + 1) hz.symm [a, a] (by simp))
  clear hs2 ho2 hb3
  go_wp2_with fail
  refine (put_any _ lo sb _ _ HS3.out (by simp; omega) _ _ _ HI.out (by simp)).mono ?_
  rintro e w3 ⟨rfl, hs3, hb4⟩
  have HSF := Lib.hid hs3
  have HBF := Lib.hid (HB3.out.trans hb4)
  clear hs3 hb4 HI HS3
  rw [Bool.false_or] at HSF
  have hts : Hid (tryS p f o s = ((tryR p f o s).1, (tryR p f o s).2 || decide (8 < (tryR p f o s).1.length))) := rfl
  rw [HR.out] at hts
  obtain ⟨L, hL⟩ : ∃ L, L = (tryR p f o s).1 := ⟨_, rfl⟩
  obtain ⟨WR, hWR⟩ : ∃ L, L = (tryR p f o s).2 := ⟨_, rfl⟩
  rw [HR.out] at hL hWR
  try simp only at hL hWR hts
  rw [← hL, ← hWR] at hts HSF
  clear hL hWR HR
  obtain ⟨so, sc, x0, x1, x2, x3, _, _⟩ := HSF.out.cells
  have HF := Lib.hid (HSF.out.setW (WR || decide (8 < L.length)))
  clear HSF
  cases WR with
  | true =>
    go_wp2_with fail
    go_end0
    refine ⟨rfl, ?_, HBF.out.setCell hlow _ _⟩
    rw [hts.out]; simpa using HF.out
  | false =>
    have e8 : Hid (decide ((8 : Int) < (L.length : Int)) = decide (8 < L.length)) := by unfold Hid; rw [decide_eq_decide]; omega
    go_wp2_with fail
    go_end0
    refine ⟨rfl, ?_, HBF.out.setCell hlow _ _⟩
    have hf := HF.out
    rw [Bool.false_or, ← e8.out] at hf
    rw [hts.out, Bool.false_or, ← e8.out]; exact hf

set_option maxHeartbeats 2000000 in
set_option maxRecDepth 100000 in
theorem try_4 (pv lv cv : Value) (p : List Mz.Fun) (f : Mz.Fun) (o : Mz.Op) (s : List Int) (B : Nat) (w : World) (lo sb : Nat) (h : Stk w lo sb s false) (hs : s.length ≤ 500) (hB : B ≤ lo) (hpv : RProg w B pv p) (hl : RInts w B lv f.locals) (hcd : ROps w B cv f.code) (kc : o.code = 4) :
    Calls Tryz.prog 167 #[.pointer (some ⟨sb, 0, none⟩), pv, .agg #[.int .i64 f.params, lv, .int .i64 f.result, cv], .agg #[.int .i64 o.code, .int .i64 o.a]] w (Tried p f o s w lo sb) := by
  obtain ⟨fv, rfl, hfs⟩ := hpv
  obtain ⟨ao, c, rfl, h1, h2, h3⟩ := hfs.open
  obtain ⟨lo', lc, rfl, l1, l2, l3⟩ := hl.open
  obtain ⟨co, cc, rfl, c1, c2, c3⟩ := hcd.open
  unfold maxLen at h2 l2 c2
  have hlow := h.low
  have hsb : sb < w.heap.size := by obtain ⟨_, _, _, _, _, _, _, hsb⟩ := h.cells; exact hsb
  have hb0 : Below w.heap.size w (((w.alloc (.cells #[.slice ao p.length c] 24)).alloc (.cells #[.int .i64 f.params, .slice lo' f.locals.length lc, .int .i64 f.result, .slice co f.code.length cc] 110)).alloc (.cells #[.int .i64 o.code, .int .i64 o.a] 49)) := (((Below.refl _ _).alloc (Nat.le_refl _) _).alloc (by simp) _).alloc (by simp; omega) _
  have HS := Lib.hid (h.frame hb0)
  have HLB := Lib.hid (Fr.of_below (sb := sb) hb0 (show lo ≤ w.heap.size by omega))
  clear h hb0
  have t2 : (o.code == 2) = false := by simp [kc]
  have t3 : (o.code == 3) = false := by simp [kc]
  have t4 : (o.code == 4) = true := by simp [kc]
  have HR : Hid (tryR p f o s = (s.dropLast.dropLast ++ [popL s, popL s.dropLast], s.isEmpty || s.dropLast.isEmpty)) := by unfold Hid tryR; rw [if_neg (by rw [kc]; decide), if_neg (by rw [kc]; decide), if_pos kc]
  have KC := Lib.hid kc
  clear kc
  have POP := Lib.hid (pop_any (((w.alloc (.cells #[.slice ao p.length c] 24)).alloc (.cells #[.int .i64 f.params, .slice lo' f.locals.length lc, .int .i64 f.result, .slice co f.code.length cc] 110)).alloc (.cells #[.int .i64 o.code, .int .i64 o.a] 49)) lo sb s false HS.out (by omega))
  obtain ⟨a, ha⟩ : ∃ a, a = popL s := ⟨_, rfl⟩
  rw [← ha] at POP HR
  clear ha HS
  go_enter Tryz.func167, Tryz.ntmps167
  go_wp2_with fail
  refine POP.out.mono ?_
  rintro e w1 ⟨rfl, hs1, ho1⟩
  have HS1 := Lib.hid hs1
  have hz1 := ho1.size
  simp only [World.size_alloc] at hz1
  have HB1 := Lib.hid (HLB.out.trans (ho1.fr hlow))
  clear hs1 ho1
  have POP2 := Lib.hid (pop_any w1 lo sb _ _ HS1.out (by simp; omega))
  obtain ⟨b, hb⟩ : ∃ a, a = popL s.dropLast := ⟨_, rfl⟩
  rw [← hb] at POP2 HR
  clear hb HS1
  go_wp2_with fail
  refine POP2.out.mono ?_
  rintro e w2 ⟨rfl, hs2, ho2⟩
  have hb3 : Below w2.heap.size w2 (w2.alloc (.cells #[.int .i64 (a), .int .i64 (b)] 3)) := (Below.refl _ _).alloc (Nat.le_refl _) _
  have HS3 := Lib.hid (hs2.frame hb3)
  have hz := ho2.size
  have HB3 := Lib.hid ((HB1.out.trans (ho2.fr hlow)).trans (.of_below hb3 (by omega)))
  have HI := Lib.hid (RInts.newAt w2 (w.heap.size + 1 + 1 + 1) (hz.trans hz1).symm [a, b] (by simp))
  clear hs2 ho2 hb3
  go_wp2_with fail
  refine (put_any _ lo sb _ _ HS3.out (by simp; omega) _ _ _ HI.out (by simp)).mono ?_
  rintro e w3 ⟨rfl, hs3, hb4⟩
  have HSF := Lib.hid hs3
  have HBF := Lib.hid (HB3.out.trans hb4)
  clear hs3 hb4 HI HS3
  rw [Bool.false_or] at HSF
  have hts : Hid (tryS p f o s = ((tryR p f o s).1, (tryR p f o s).2 || decide (8 < (tryR p f o s).1.length))) := rfl
  rw [HR.out] at hts
  obtain ⟨L, hL⟩ : ∃ L, L = (tryR p f o s).1 := ⟨_, rfl⟩
  obtain ⟨WR, hWR⟩ : ∃ L, L = (tryR p f o s).2 := ⟨_, rfl⟩
  rw [HR.out] at hL hWR
  try simp only at hL hWR hts
  rw [← hL, ← hWR] at hts HSF
  clear hL hWR HR
  obtain ⟨so, sc, x0, x1, x2, x3, _, _⟩ := HSF.out.cells
  have HF := Lib.hid (HSF.out.setW (WR || decide (8 < L.length)))
  clear HSF
  cases WR with
  | true =>
    go_wp2_with fail
    go_end0
    refine ⟨rfl, ?_, HBF.out.setCell hlow _ _⟩
    rw [hts.out]; simpa using HF.out
  | false =>
    have e8 : Hid (decide ((8 : Int) < (L.length : Int)) = decide (8 < L.length)) := by unfold Hid; rw [decide_eq_decide]; omega
    go_wp2_with fail
    go_end0
    refine ⟨rfl, ?_, HBF.out.setCell hlow _ _⟩
    have hf := HF.out
    rw [Bool.false_or, ← e8.out] at hf
    rw [hts.out, Bool.false_or, ← e8.out]; exact hf

set_option maxHeartbeats 2000000 in
set_option maxRecDepth 100000 in
theorem try_8 (pv lv cv : Value) (p : List Mz.Fun) (f : Mz.Fun) (o : Mz.Op) (s : List Int) (B : Nat) (w : World) (lo sb : Nat) (h : Stk w lo sb s false) (hs : s.length ≤ 500) (hB : B ≤ lo) (hpv : RProg w B pv p) (hl : RInts w B lv f.locals) (hcd : ROps w B cv f.code) (ha0 : 0 ≤ o.a) (ha1 : o.a < f.locals.length) (kc : o.code = 8) :
    Calls Tryz.prog 167 #[.pointer (some ⟨sb, 0, none⟩), pv, .agg #[.int .i64 f.params, lv, .int .i64 f.result, cv], .agg #[.int .i64 o.code, .int .i64 o.a]] w (Tried p f o s w lo sb) := by
  obtain ⟨fv, rfl, hfs⟩ := hpv
  obtain ⟨ao, c, rfl, h1, h2, h3⟩ := hfs.open
  obtain ⟨lo', lc, rfl, l1, l2, l3⟩ := hl.open
  obtain ⟨co, cc, rfl, c1, c2, c3⟩ := hcd.open
  unfold maxLen at h2 l2 c2
  have hlow := h.low
  have hsb : sb < w.heap.size := by obtain ⟨_, _, _, _, _, _, _, hsb⟩ := h.cells; exact hsb
  have hb0 : Below w.heap.size w (((w.alloc (.cells #[.slice ao p.length c] 24)).alloc (.cells #[.int .i64 f.params, .slice lo' f.locals.length lc, .int .i64 f.result, .slice co f.code.length cc] 110)).alloc (.cells #[.int .i64 o.code, .int .i64 o.a] 49)) := (((Below.refl _ _).alloc (Nat.le_refl _) _).alloc (by simp) _).alloc (by simp; omega) _
  have HS := Lib.hid (h.frame hb0)
  have HLB := Lib.hid (Fr.of_below (sb := sb) hb0 (show lo ≤ w.heap.size by omega))
  clear h hb0
  have t2 : (o.code == 2) = false := by simp [kc]
  have t3 : (o.code == 3) = false := by simp [kc]
  have t4 : (o.code == 4) = false := by simp [kc]
  have t8 : (o.code == 8) = true := by simp [kc]
  have HR : Hid (tryR p f o s = (s ++ [nth f.locals o.a.toNat], false)) := by unfold Hid tryR; rw [if_neg (by rw [kc]; decide), if_neg (by rw [kc]; decide), if_neg (by rw [kc]; decide), if_pos kc]
  have KC := Lib.hid kc
  clear kc
  have hai : o.a.toNat < f.locals.length := by omega
  obtain ⟨lb, lx, rfl, lB, lcell⟩ := hl.at hai
  have g1 : lb < w.heap.size := by omega
  have g2 : lb < w.heap.size + 1 := by omega
  have g3 : lb < w.heap.size + 1 + 1 := by omega
  have HI := Lib.hid (RInts.newAt (((w.alloc (.cells #[.slice ao p.length c] 24)).alloc (.cells #[.int .i64 f.params, .slice (some ⟨lb, lx, none⟩) f.locals.length lc, .int .i64 f.result, .slice co f.code.length cc] 110)).alloc (.cells #[.int .i64 o.code, .int .i64 o.a] 49)) (w.heap.size + 1 + 1 + 1) (by simp) [nth f.locals o.a.toNat] (by simp))
  have hb3 : Below (((w.alloc (.cells #[.slice ao p.length c] 24)).alloc (.cells #[.int .i64 f.params, .slice (some ⟨lb, lx, none⟩) f.locals.length lc, .int .i64 f.result, .slice co f.code.length cc] 110)).alloc (.cells #[.int .i64 o.code, .int .i64 o.a] 49)).heap.size (((w.alloc (.cells #[.slice ao p.length c] 24)).alloc (.cells #[.int .i64 f.params, .slice (some ⟨lb, lx, none⟩) f.locals.length lc, .int .i64 f.result, .slice co f.code.length cc] 110)).alloc (.cells #[.int .i64 o.code, .int .i64 o.a] 49)) ((((w.alloc (.cells #[.slice ao p.length c] 24)).alloc (.cells #[.int .i64 f.params, .slice (some ⟨lb, lx, none⟩) f.locals.length lc, .int .i64 f.result, .slice co f.code.length cc] 110)).alloc (.cells #[.int .i64 o.code, .int .i64 o.a] 49)).alloc (.cells #[.int .i64 (nth f.locals o.a.toNat)] 3)) := (Below.refl _ _).alloc (Nat.le_refl _) _
  have HS3 := Lib.hid (HS.out.frame hb3)
  have HB3 := Lib.hid (HLB.out.trans (.of_below hb3 (by simp; omega)))
  clear hb3
  go_enter Tryz.func167, Tryz.ntmps167
  go_wp2_with fail
  refine (put_any _ lo sb _ _ HS3.out (by omega) _ _ _ HI.out (by simp)).mono ?_
  rintro e w3 ⟨rfl, hs3, hb4⟩
  have HSF := Lib.hid hs3
  have HBF := Lib.hid (HB3.out.trans hb4)
  clear hs3 hb4 HI HS3
  have hts : Hid (tryS p f o s = ((tryR p f o s).1, (tryR p f o s).2 || decide (8 < (tryR p f o s).1.length))) := rfl
  rw [HR.out] at hts
  obtain ⟨L, hL⟩ : ∃ L, L = (tryR p f o s).1 := ⟨_, rfl⟩
  obtain ⟨WR, hWR⟩ : ∃ L, L = (tryR p f o s).2 := ⟨_, rfl⟩
  rw [HR.out] at hL hWR
  try simp only at hL hWR hts
  rw [← hL, ← hWR] at hts HSF
  clear hL hWR HR
  obtain ⟨so, sc, x0, x1, x2, x3, _, _⟩ := HSF.out.cells
  have HF := Lib.hid (HSF.out.setW (WR || decide (8 < L.length)))
  clear HSF
  cases WR with
  | true =>
    go_wp2_with fail
    go_end0
    refine ⟨rfl, ?_, HBF.out.setCell hlow _ _⟩
    rw [hts.out]; simpa using HF.out
  | false =>
    have e8 : Hid (decide ((8 : Int) < (L.length : Int)) = decide (8 < L.length)) := by unfold Hid; rw [decide_eq_decide]; omega
    go_wp2_with fail
    go_end0
    refine ⟨rfl, ?_, HBF.out.setCell hlow _ _⟩
    have hf := HF.out
    rw [Bool.false_or, ← e8.out] at hf
    rw [hts.out, Bool.false_or, ← e8.out]; exact hf

set_option maxHeartbeats 2000000 in
set_option maxRecDepth 100000 in
theorem try_9 (pv lv cv : Value) (p : List Mz.Fun) (f : Mz.Fun) (o : Mz.Op) (s : List Int) (B : Nat) (w : World) (lo sb : Nat) (h : Stk w lo sb s false) (hs : s.length ≤ 500) (hB : B ≤ lo) (hpv : RProg w B pv p) (hl : RInts w B lv f.locals) (hcd : ROps w B cv f.code) (ha0 : 0 ≤ o.a) (ha1 : o.a < f.locals.length) (kc : o.code = 9) :
    Calls Tryz.prog 167 #[.pointer (some ⟨sb, 0, none⟩), pv, .agg #[.int .i64 f.params, lv, .int .i64 f.result, cv], .agg #[.int .i64 o.code, .int .i64 o.a]] w (Tried p f o s w lo sb) := by
  obtain ⟨fv, rfl, hfs⟩ := hpv
  obtain ⟨ao, c, rfl, h1, h2, h3⟩ := hfs.open
  obtain ⟨lo', lc, rfl, l1, l2, l3⟩ := hl.open
  obtain ⟨co, cc, rfl, c1, c2, c3⟩ := hcd.open
  unfold maxLen at h2 l2 c2
  have hlow := h.low
  have hsb : sb < w.heap.size := by obtain ⟨_, _, _, _, _, _, _, hsb⟩ := h.cells; exact hsb
  have hb0 : Below w.heap.size w (((w.alloc (.cells #[.slice ao p.length c] 24)).alloc (.cells #[.int .i64 f.params, .slice lo' f.locals.length lc, .int .i64 f.result, .slice co f.code.length cc] 110)).alloc (.cells #[.int .i64 o.code, .int .i64 o.a] 49)) := (((Below.refl _ _).alloc (Nat.le_refl _) _).alloc (by simp) _).alloc (by simp; omega) _
  have HS := Lib.hid (h.frame hb0)
  have HLB := Lib.hid (Fr.of_below (sb := sb) hb0 (show lo ≤ w.heap.size by omega))
  clear h hb0
  have t2 : (o.code == 2) = false := by simp [kc]
  have t3 : (o.code == 3) = false := by simp [kc]
  have t4 : (o.code == 4) = false := by simp [kc]
  have t8 : (o.code == 8) = false := by simp [kc]
  have t9 : (o.code == 9) = true := by simp [kc]
  have HR : Hid (tryR p f o s = takeS [nth f.locals o.a.toNat] (s, false)) := by unfold Hid tryR; rw [if_neg (by rw [kc]; decide), if_neg (by rw [kc]; decide), if_neg (by rw [kc]; decide), if_neg (by rw [kc]; decide), if_pos kc]
  have KC := Lib.hid kc
  clear kc
  have hai : o.a.toNat < f.locals.length := by omega
  obtain ⟨lb, lx, rfl, lB, lcell⟩ := hl.at hai
  have g1 : lb < w.heap.size := by omega
  have g2 : lb < w.heap.size + 1 := by omega
  have g3 : lb < w.heap.size + 1 + 1 := by omega
  have HI := Lib.hid (RInts.newAt (((w.alloc (.cells #[.slice ao p.length c] 24)).alloc (.cells #[.int .i64 f.params, .slice (some ⟨lb, lx, none⟩) f.locals.length lc, .int .i64 f.result, .slice co f.code.length cc] 110)).alloc (.cells #[.int .i64 o.code, .int .i64 o.a] 49)) (w.heap.size + 1 + 1 + 1) (by simp) [nth f.locals o.a.toNat] (by simp))
  have hb3 : Below (((w.alloc (.cells #[.slice ao p.length c] 24)).alloc (.cells #[.int .i64 f.params, .slice (some ⟨lb, lx, none⟩) f.locals.length lc, .int .i64 f.result, .slice co f.code.length cc] 110)).alloc (.cells #[.int .i64 o.code, .int .i64 o.a] 49)).heap.size (((w.alloc (.cells #[.slice ao p.length c] 24)).alloc (.cells #[.int .i64 f.params, .slice (some ⟨lb, lx, none⟩) f.locals.length lc, .int .i64 f.result, .slice co f.code.length cc] 110)).alloc (.cells #[.int .i64 o.code, .int .i64 o.a] 49)) ((((w.alloc (.cells #[.slice ao p.length c] 24)).alloc (.cells #[.int .i64 f.params, .slice (some ⟨lb, lx, none⟩) f.locals.length lc, .int .i64 f.result, .slice co f.code.length cc] 110)).alloc (.cells #[.int .i64 o.code, .int .i64 o.a] 49)).alloc (.cells #[.int .i64 (nth f.locals o.a.toNat)] 3)) := (Below.refl _ _).alloc (Nat.le_refl _) _
  have HS3 := Lib.hid (HS.out.frame hb3)
  have HB3 := Lib.hid (HLB.out.trans (.of_below hb3 (by simp; omega)))
  clear hb3
  go_enter Tryz.func167, Tryz.ntmps167
  go_wp2_with fail
  refine (take_any _ lo sb _ _ HS3.out (by omega) _ _ _ (by simp) HI.out (by simp)).mono ?_
  rintro e w3 ⟨rfl, hs3, ho3⟩
  have HSF := Lib.hid hs3
  have HBF := Lib.hid (HB3.out.trans (ho3.fr hlow))
  clear hs3 ho3 HI HS3
  have hts : Hid (tryS p f o s = ((tryR p f o s).1, (tryR p f o s).2 || decide (8 < (tryR p f o s).1.length))) := rfl
  rw [HR.out] at hts
  obtain ⟨L, hL⟩ : ∃ L, L = (tryR p f o s).1 := ⟨_, rfl⟩
  obtain ⟨WR, hWR⟩ : ∃ L, L = (tryR p f o s).2 := ⟨_, rfl⟩
  rw [HR.out] at hL hWR
  try simp only at hL hWR hts
  rw [← hL, ← hWR] at hts HSF
  clear hL hWR HR
  obtain ⟨so, sc, x0, x1, x2, x3, _, _⟩ := HSF.out.cells
  have HF := Lib.hid (HSF.out.setW (WR || decide (8 < L.length)))
  clear HSF
  cases WR with
  | true =>
    go_wp2_with fail
    go_end0
    refine ⟨rfl, ?_, HBF.out.setCell hlow _ _⟩
    rw [hts.out]; simpa using HF.out
  | false =>
    have e8 : Hid (decide ((8 : Int) < (L.length : Int)) = decide (8 < L.length)) := by unfold Hid; rw [decide_eq_decide]; omega
    go_wp2_with fail
    go_end0
    refine ⟨rfl, ?_, HBF.out.setCell hlow _ _⟩
    have hf := HF.out
    rw [Bool.false_or, ← e8.out] at hf
    rw [hts.out, Bool.false_or, ← e8.out]; exact hf
end Go.Proofs.YthdomhejkbpabaaGreat

/- Trying an op on a stack: calls, returns, plain ops; all ops. -/
namespace Go.Proofs.YthdomhejkbpabaaGreat
open Go.RowKit

theorem resL_len (f : Mz.Fun) : (resL f).length ≤ 1 := by unfold resL; split <;> simp

set_option maxHeartbeats 2000000 in
set_option maxRecDepth 100000 in
theorem try_13 (pv lv cv : Value) (p : List Mz.Fun) (f : Mz.Fun) (o : Mz.Op) (s : List Int) (B : Nat) (w : World) (lo sb : Nat) (h : Stk w lo sb s false) (hs : s.length ≤ 500) (hB : B ≤ lo) (hpv : RProg w B pv p) (hl : RInts w B lv f.locals) (hcd : ROps w B cv f.code) (kc : o.code = 13) :
    Calls Tryz.prog 167 #[.pointer (some ⟨sb, 0, none⟩), pv, .agg #[.int .i64 f.params, lv, .int .i64 f.result, cv], .agg #[.int .i64 o.code, .int .i64 o.a]] w (Tried p f o s w lo sb) := by
  obtain ⟨fv, rfl, hfs⟩ := hpv
  obtain ⟨ao, c, rfl, h1, h2, h3⟩ := hfs.open
  obtain ⟨lo', lc, rfl, l1, l2, l3⟩ := hl.open
  obtain ⟨co, cc, rfl, c1, c2, c3⟩ := hcd.open
  unfold maxLen at h2 l2 c2
  have hlow := h.low
  have hsb : sb < w.heap.size := by obtain ⟨_, _, _, _, _, _, _, hsb⟩ := h.cells; exact hsb
  have hb0 : Below w.heap.size w (((w.alloc (.cells #[.slice ao p.length c] 24)).alloc (.cells #[.int .i64 f.params, .slice lo' f.locals.length lc, .int .i64 f.result, .slice co f.code.length cc] 110)).alloc (.cells #[.int .i64 o.code, .int .i64 o.a] 49)) := (((Below.refl _ _).alloc (Nat.le_refl _) _).alloc (by simp) _).alloc (by simp; omega) _
  have HS := Lib.hid (h.frame hb0)
  have HLB := Lib.hid (Fr.of_below (sb := sb) hb0 (show lo ≤ w.heap.size by omega))
  clear h hb0
  have t2 : (o.code == 2) = false := by simp [kc]
  have t3 : (o.code == 3) = false := by simp [kc]
  have t4 : (o.code == 4) = false := by simp [kc]
  have t8 : (o.code == 8) = false := by simp [kc]
  have t9 : (o.code == 9) = false := by simp [kc]
  have t12 : (o.code == 12) = false := by simp [kc]
  have t13 : (o.code == 13) = true := by simp [kc]
  have HR : Hid (tryR p f o s = ((takeS (resL f) (s, false)).1, (takeS (resL f) (s, false)).2 || decide (0 < (takeS (resL f) (s, false)).1.length))) := by unfold Hid tryR; rw [if_neg (by rw [kc]; decide), if_neg (by rw [kc]; decide), if_neg (by rw [kc]; decide), if_neg (by rw [kc]; decide), if_neg (by rw [kc]; decide), if_neg (by rw [kc]; decide), if_pos kc]
  have KC := Lib.hid kc
  clear kc
  go_enter Tryz.func167, Tryz.ntmps167
  go_wp2_with fail
  refine (result_any _ _ f _).mono ?_
  rintro e w2 ⟨⟨r, rfl, hr⟩, hb2⟩
  have HS2 := Lib.hid (HS.out.frame hb2)
  have HB2 := Lib.hid (HLB.out.trans (.of_below hb2 (by simp; omega)))
  have hrl := resL_len f
  have HI := Lib.hid hr
  clear hb2 hr
  go_wp2_with fail
  refine (take_any _ lo sb _ _ HS2.out (by omega) _ _ _ (Nat.le_refl _) HI.out (by omega)).mono ?_
  rintro e w3 ⟨rfl, hs3, ho3⟩
  have HB3 := Lib.hid (HB2.out.trans (ho3.fr hlow))
  obtain ⟨T, hT⟩ : ∃ T, T = takeS (resL f) (s, false) := ⟨_, rfl⟩
  rw [← hT] at HR hs3
  obtain ⟨TL, TW⟩ := T
  clear hT ho3 HI HS2 HB2
  simp only at hs3 HR
  have hts : Hid (tryS p f o s = ((tryR p f o s).1, (tryR p f o s).2 || decide (8 < (tryR p f o s).1.length))) := rfl
  rw [HR.out] at hts
  simp only at hts
  clear HR
  obtain ⟨so, sc, x0, x1, x2, x3, _, _⟩ := hs3.cells
  cases TW with
  | true =>
    have HX := hs3.setW true
    obtain ⟨so', sc', y0, y1, y2, y3, _, _⟩ := HX.cells
    have HF := Lib.hid (HX.setW true)
    clear HX hs3
    go_wp2_with fail
    go_end0
    refine ⟨rfl, ?_, (HB3.out.setCell hlow _ _).setCell hlow _ _⟩
    rw [hts.out]; simpa using HF.out
  | false =>
    by_cases h0 : 0 < TL.length
    · have e0 : decide ((0 : Int) < (TL.length : Int)) = true := by rw [decide_eq_true_eq]; omega
      have HX := hs3.setW true
      obtain ⟨so', sc', y0, y1, y2, y3, _, _⟩ := HX.cells
      have HF := Lib.hid (HX.setW true)
      have H0 : Hid (decide (0 < TL.length) = true) := decide_eq_true h0
      clear HX hs3
      go_wp2_with fail
      go_end0
      refine ⟨rfl, ?_, (HB3.out.setCell hlow _ _).setCell hlow _ _⟩
      rw [hts.out, H0.out]; simpa using HF.out
    · have e0 : decide ((0 : Int) < (TL.length : Int)) = false := by rw [decide_eq_false_iff_not]; omega
      have e8 : decide ((8 : Int) < (TL.length : Int)) = false := by rw [decide_eq_false_iff_not]; omega
      have HX := hs3.setW false
      obtain ⟨so', sc', y0, y1, y2, y3, _, _⟩ := HX.cells
      have HF := Lib.hid (HX.setW false)
      have H0 : Hid (decide (0 < TL.length) = false) := decide_eq_false h0
      have H8 : Hid (decide (8 < TL.length) = false) := decide_eq_false (by omega)
      clear HX hs3
      go_wp2_with fail
      go_end0
      refine ⟨rfl, ?_, (HB3.out.setCell hlow _ _).setCell hlow _ _⟩
      rw [hts.out, H0.out, H8.out]; simpa using HF.out
theorem plain_len (c : Int) : (Mz.plainOf c 0).1.length ≤ 3 ∧ (Mz.plainOf c 0).2.length ≤ 2 := by
  unfold Mz.plainOf
  repeat' split
  all_goals simp

set_option maxHeartbeats 2000000 in
set_option maxRecDepth 100000 in
theorem try_plain (pv lv cv : Value) (p : List Mz.Fun) (f : Mz.Fun) (o : Mz.Op) (s : List Int) (B : Nat) (w : World) (lo sb : Nat) (h : Stk w lo sb s false) (hs : s.length ≤ 500) (hB : B ≤ lo) (hpv : RProg w B pv p) (hl : RInts w B lv f.locals) (hcd : ROps w B cv f.code) (kc : o.code ≠ 2 ∧ o.code ≠ 3 ∧ o.code ≠ 4 ∧ o.code ≠ 8 ∧ o.code ≠ 9 ∧ o.code ≠ 12 ∧ o.code ≠ 13) (hpl : IsPlain o.code) :
    Calls Tryz.prog 167 #[.pointer (some ⟨sb, 0, none⟩), pv, .agg #[.int .i64 f.params, lv, .int .i64 f.result, cv], .agg #[.int .i64 o.code, .int .i64 o.a]] w (Tried p f o s w lo sb) := by
  obtain ⟨fv, rfl, hfs⟩ := hpv
  obtain ⟨ao, c, rfl, h1, h2, h3⟩ := hfs.open
  obtain ⟨lo', lc, rfl, l1, l2, l3⟩ := hl.open
  obtain ⟨co, cc, rfl, c1, c2, c3⟩ := hcd.open
  unfold maxLen at h2 l2 c2
  have hlow := h.low
  have hsb : sb < w.heap.size := by obtain ⟨_, _, _, _, _, _, _, hsb⟩ := h.cells; exact hsb
  have hb0 : Below w.heap.size w (((w.alloc (.cells #[.slice ao p.length c] 24)).alloc (.cells #[.int .i64 f.params, .slice lo' f.locals.length lc, .int .i64 f.result, .slice co f.code.length cc] 110)).alloc (.cells #[.int .i64 o.code, .int .i64 o.a] 49)) := (((Below.refl _ _).alloc (Nat.le_refl _) _).alloc (by simp) _).alloc (by simp; omega) _
  have HS := Lib.hid (h.frame hb0)
  have HLB := Lib.hid (Fr.of_below (sb := sb) hb0 (show lo ≤ w.heap.size by omega))
  clear h hb0
  have t2 : (o.code == 2) = false := by simp [kc]
  have t3 : (o.code == 3) = false := by simp [kc]
  have t4 : (o.code == 4) = false := by simp [kc]
  have t8 : (o.code == 8) = false := by simp [kc]
  have t9 : (o.code == 9) = false := by simp [kc]
  have t12 : (o.code == 12) = false := by simp [kc]
  have t13 : (o.code == 13) = false := by simp [kc]
  have HR : Hid (tryR p f o s = ((takeS (Mz.plainOf o.code 0).1 (s, false)).1 ++ (Mz.plainOf o.code 0).2, (takeS (Mz.plainOf o.code 0).1 (s, false)).2)) := by unfold Hid tryR; rw [if_neg kc.1, if_neg kc.2.1, if_neg kc.2.2.1, if_neg kc.2.2.2.1, if_neg kc.2.2.2.2.1, if_neg kc.2.2.2.2.2.1, if_neg kc.2.2.2.2.2.2]
  have KC := Lib.hid kc
  clear kc
  obtain ⟨hp1, hp2⟩ := plain_len o.code
  go_enter Tryz.func167, Tryz.ntmps167
  go_wp2_with fail
  refine (plain_any o.code hpl _).mono ?_
  rintro e w2 ⟨⟨u, v, rfl, hu, hv⟩, hb2⟩
  have HS2 := Lib.hid (HS.out.frame hb2)
  have HB2 := Lib.hid (HLB.out.trans (.of_below hb2 (by simp; omega)))
  have HU := Lib.hid hu
  have HV := Lib.hid hv
  clear hb2 hu hv
  go_wp2_with fail
  refine (take_any _ lo sb _ _ HS2.out (by omega) _ _ _ (Nat.le_refl _) HU.out (by omega)).mono ?_
  rintro e w3 ⟨rfl, hs3, ho3⟩
  have HB3 := Lib.hid (HB2.out.trans (ho3.fr hlow))
  have HV3 := Lib.hid (HS2.out.apart ho3 HV.out)
  have HS3 := Lib.hid hs3
  have hln := takeS_len (Mz.plainOf o.code 0).1 (s, false)
  have HLN := Lib.hid hln
  clear hs3 ho3 hln HU HV
  go_wp2_with fail
  refine (put_any _ lo sb _ _ HS3.out (by have := HLN.out; omega) _ _ _ HV3.out (by omega)).mono ?_
  rintro e w4 ⟨rfl, hs4, hb4⟩
  have HSF := Lib.hid hs4
  have HBF := Lib.hid (HB3.out.trans hb4)
  clear hs4 hb4 HV3 HS3 HS2
  have hts : Hid (tryS p f o s = ((tryR p f o s).1, (tryR p f o s).2 || decide (8 < (tryR p f o s).1.length))) := rfl
  rw [HR.out] at hts
  obtain ⟨L, hL⟩ : ∃ L, L = (tryR p f o s).1 := ⟨_, rfl⟩
  obtain ⟨WR, hWR⟩ : ∃ L, L = (tryR p f o s).2 := ⟨_, rfl⟩
  rw [HR.out] at hL hWR
  try simp only at hL hWR hts
  rw [← hL, ← hWR] at hts HSF
  clear hL hWR HR
  obtain ⟨so, sc, x0, x1, x2, x3, _, _⟩ := HSF.out.cells
  have HF := Lib.hid (HSF.out.setW (WR || decide (8 < L.length)))
  clear HSF
  cases WR with
  | true =>
    go_wp2_with fail
    go_end0
    refine ⟨rfl, ?_, HBF.out.setCell hlow _ _⟩
    rw [hts.out]; simpa using HF.out
  | false =>
    have e8 : Hid (decide ((8 : Int) < (L.length : Int)) = decide (8 < L.length)) := by unfold Hid; rw [decide_eq_decide]; omega
    go_wp2_with fail
    go_end0
    refine ⟨rfl, ?_, HBF.out.setCell hlow _ _⟩
    have hf := HF.out
    rw [Bool.false_or, ← e8.out] at hf
    rw [hts.out, Bool.false_or, ← e8.out]; exact hf

set_option maxHeartbeats 2000000 in
set_option maxRecDepth 100000 in
theorem try_12 (pv lv cv : Value) (p : List Mz.Fun) (f : Mz.Fun) (o : Mz.Op) (s : List Int) (B : Nat) (w : World) (lo sb : Nat) (h : Stk w lo sb s false) (hs : s.length ≤ 500) (hB : B ≤ lo) (hpv : RProg w B pv p) (hl : RInts w B lv f.locals) (hcd : ROps w B cv f.code) (ha0 : 0 ≤ o.a) (ha1 : o.a < p.length) (hq0 : 0 ≤ (nth p o.a.toNat).params) (hq1 : (nth p o.a.toNat).params ≤ (nth p o.a.toNat).locals.length) (hq6 : (nth p o.a.toNat).locals.length ≤ 6) (kc : o.code = 12) :
    Calls Tryz.prog 167 #[.pointer (some ⟨sb, 0, none⟩), pv, .agg #[.int .i64 f.params, lv, .int .i64 f.result, cv], .agg #[.int .i64 o.code, .int .i64 o.a]] w (Tried p f o s w lo sb) := by
  obtain ⟨fv, rfl, hfs⟩ := hpv
  obtain ⟨ao, c, rfl, h1, h2, h3⟩ := hfs.open
  obtain ⟨lo', lc, rfl, l1, l2, l3⟩ := hl.open
  obtain ⟨co, cc, rfl, c1, c2, c3⟩ := hcd.open
  unfold maxLen at h2 l2 c2
  have hlow := h.low
  have hsb : sb < w.heap.size := by obtain ⟨_, _, _, _, _, _, _, hsb⟩ := h.cells; exact hsb
  have hb0 : Below w.heap.size w (((w.alloc (.cells #[.slice ao p.length c] 24)).alloc (.cells #[.int .i64 f.params, .slice lo' f.locals.length lc, .int .i64 f.result, .slice co f.code.length cc] 110)).alloc (.cells #[.int .i64 o.code, .int .i64 o.a] 49)) := (((Below.refl _ _).alloc (Nat.le_refl _) _).alloc (by simp) _).alloc (by simp; omega) _
  have HS := Lib.hid (h.frame hb0)
  have HLB := Lib.hid (Fr.of_below (sb := sb) hb0 (show lo ≤ w.heap.size by omega))
  clear h hb0
  have t2 : (o.code == 2) = false := by simp [kc]
  have t3 : (o.code == 3) = false := by simp [kc]
  have t4 : (o.code == 4) = false := by simp [kc]
  have t8 : (o.code == 8) = false := by simp [kc]
  have t9 : (o.code == 9) = false := by simp [kc]
  have t12 : (o.code == 12) = true := by simp [kc]
  have HR : Hid (tryR p f o s = ((takeS ((nth p o.a.toNat).locals.take (nth p o.a.toNat).params.toNat) (s, false)).1 ++ resL (nth p o.a.toNat), (takeS ((nth p o.a.toNat).locals.take (nth p o.a.toNat).params.toNat) (s, false)).2)) := by unfold Hid tryR; rw [if_neg (by rw [kc]; decide), if_neg (by rw [kc]; decide), if_neg (by rw [kc]; decide), if_neg (by rw [kc]; decide), if_neg (by rw [kc]; decide), if_pos kc]
  have KC := Lib.hid kc
  clear kc
  have hai : o.a.toNat < p.length := by omega
  obtain ⟨gb, gx, glv, gcv, rfl, gB, q0, q1, q2, q3, rgl, rgc⟩ := hfs.at hai
  obtain ⟨glo, glc, rfl, gl1, gl2, gl3⟩ := rgl.open
  obtain ⟨gco, gcc, rfl, gc1, gc2, gc3⟩ := rgc.open
  unfold maxLen at gl2 gc2
  have g1 : gb < w.heap.size := by omega
  have g2 : gb < w.heap.size + 1 := by omega
  have g3 : gb < w.heap.size + 1 + 1 := by omega
  have g4 : (nth p o.a.toNat).params ≤ glc := by omega
  have GB : Below (((w.alloc (.cells #[.slice (some ⟨gb, gx, none⟩) p.length c] 24)).alloc (.cells #[.int .i64 f.params, .slice lo' f.locals.length lc, .int .i64 f.result, .slice co f.code.length cc] 110)).alloc (.cells #[.int .i64 o.code, .int .i64 o.a] 49)).heap.size (((w.alloc (.cells #[.slice (some ⟨gb, gx, none⟩) p.length c] 24)).alloc (.cells #[.int .i64 f.params, .slice lo' f.locals.length lc, .int .i64 f.result, .slice co f.code.length cc] 110)).alloc (.cells #[.int .i64 o.code, .int .i64 o.a] 49)) ((((w.alloc (.cells #[.slice (some ⟨gb, gx, none⟩) p.length c] 24)).alloc (.cells #[.int .i64 f.params, .slice lo' f.locals.length lc, .int .i64 f.result, .slice co f.code.length cc] 110)).alloc (.cells #[.int .i64 o.code, .int .i64 o.a] 49)).alloc (.cells #[.int .i64 (nth p o.a.toNat).params, .slice glo (nth p o.a.toNat).locals.length glc, .int .i64 (nth p o.a.toNat).result, .slice gco (nth p o.a.toNat).code.length gcc] 110)) := (Below.refl _ _).alloc (Nat.le_refl _) _
  have HSG := Lib.hid (HS.out.frame GB)
  have HBG := Lib.hid (HLB.out.trans (.of_below GB (by simp; omega)))
  have GT := Lib.hid ((rgl.take (nth p o.a.toNat).params.toNat (by omega)).frame ((HLB.out.below.trans (GB.mono (by simp; omega))).mono hB))
  have z0 : ((((w.alloc (.cells #[.slice (some ⟨gb, gx, none⟩) p.length c] 24)).alloc (.cells #[.int .i64 f.params, .slice lo' f.locals.length lc, .int .i64 f.result, .slice co f.code.length cc] 110)).alloc (.cells #[.int .i64 o.code, .int .i64 o.a] 49)).alloc (.cells #[.int .i64 (nth p o.a.toNat).params, .slice glo (nth p o.a.toNat).locals.length glc, .int .i64 (nth p o.a.toNat).result, .slice gco (nth p o.a.toNat).code.length gcc] 110)).cell? ⟨w.heap.size + 1 + 1 + 1, 0, none⟩ = some (.int .i64 (nth p o.a.toNat).params) := by rw [show w.heap.size + 1 + 1 + 1 = (((w.alloc (.cells #[.slice (some ⟨gb, gx, none⟩) p.length c] 24)).alloc (.cells #[.int .i64 f.params, .slice lo' f.locals.length lc, .int .i64 f.result, .slice co f.code.length cc] 110)).alloc (.cells #[.int .i64 o.code, .int .i64 o.a] 49)).heap.size by simp, World.cell?_alloc_new]; rfl
  have z1 : ((((w.alloc (.cells #[.slice (some ⟨gb, gx, none⟩) p.length c] 24)).alloc (.cells #[.int .i64 f.params, .slice lo' f.locals.length lc, .int .i64 f.result, .slice co f.code.length cc] 110)).alloc (.cells #[.int .i64 o.code, .int .i64 o.a] 49)).alloc (.cells #[.int .i64 (nth p o.a.toNat).params, .slice glo (nth p o.a.toNat).locals.length glc, .int .i64 (nth p o.a.toNat).result, .slice gco (nth p o.a.toNat).code.length gcc] 110)).cell? ⟨w.heap.size + 1 + 1 + 1, 1, none⟩ = some (.slice glo (nth p o.a.toNat).locals.length glc) := by rw [show w.heap.size + 1 + 1 + 1 = (((w.alloc (.cells #[.slice (some ⟨gb, gx, none⟩) p.length c] 24)).alloc (.cells #[.int .i64 f.params, .slice lo' f.locals.length lc, .int .i64 f.result, .slice co f.code.length cc] 110)).alloc (.cells #[.int .i64 o.code, .int .i64 o.a] 49)).heap.size by simp, World.cell?_alloc_new]; rfl
  have z2 : ((((w.alloc (.cells #[.slice (some ⟨gb, gx, none⟩) p.length c] 24)).alloc (.cells #[.int .i64 f.params, .slice lo' f.locals.length lc, .int .i64 f.result, .slice co f.code.length cc] 110)).alloc (.cells #[.int .i64 o.code, .int .i64 o.a] 49)).alloc (.cells #[.int .i64 (nth p o.a.toNat).params, .slice glo (nth p o.a.toNat).locals.length glc, .int .i64 (nth p o.a.toNat).result, .slice gco (nth p o.a.toNat).code.length gcc] 110)).cell? ⟨w.heap.size + 1 + 1 + 1, 2, none⟩ = some (.int .i64 (nth p o.a.toNat).result) := by rw [show w.heap.size + 1 + 1 + 1 = (((w.alloc (.cells #[.slice (some ⟨gb, gx, none⟩) p.length c] 24)).alloc (.cells #[.int .i64 f.params, .slice lo' f.locals.length lc, .int .i64 f.result, .slice co f.code.length cc] 110)).alloc (.cells #[.int .i64 o.code, .int .i64 o.a] 49)).heap.size by simp, World.cell?_alloc_new]; rfl
  have z3 : ((((w.alloc (.cells #[.slice (some ⟨gb, gx, none⟩) p.length c] 24)).alloc (.cells #[.int .i64 f.params, .slice lo' f.locals.length lc, .int .i64 f.result, .slice co f.code.length cc] 110)).alloc (.cells #[.int .i64 o.code, .int .i64 o.a] 49)).alloc (.cells #[.int .i64 (nth p o.a.toNat).params, .slice glo (nth p o.a.toNat).locals.length glc, .int .i64 (nth p o.a.toNat).result, .slice gco (nth p o.a.toNat).code.length gcc] 110)).cell? ⟨w.heap.size + 1 + 1 + 1, 3, none⟩ = some (.slice gco (nth p o.a.toNat).code.length gcc) := by rw [show w.heap.size + 1 + 1 + 1 = (((w.alloc (.cells #[.slice (some ⟨gb, gx, none⟩) p.length c] 24)).alloc (.cells #[.int .i64 f.params, .slice lo' f.locals.length lc, .int .i64 f.result, .slice co f.code.length cc] 110)).alloc (.cells #[.int .i64 o.code, .int .i64 o.a] 49)).heap.size by simp, World.cell?_alloc_new]; rfl
  have Z0 := Lib.hid z0
  have Z1 := Lib.hid z1
  have Z2 := Lib.hid z2
  have Z3 := Lib.hid z3
  have hlT : ((nth p o.a.toNat).locals.take (nth p o.a.toNat).params.toNat).length ≤ 1000 := by rw [List.length_take]; omega
  clear GB z0 z1 z2 z3
  go_enter Tryz.func167, Tryz.ntmps167
  go_wp2_with fail
  refine (take_any _ lo sb _ _ HSG.out (by omega) _ _ _ (by simp; omega) GT.out hlT).mono ?_
  rintro e w3 ⟨rfl, hs3, ho3⟩
  have HB3 := Lib.hid (HBG.out.trans (ho3.fr hlow))
  have hbk := ho3.block (w.heap.size + 1 + 1 + 1) (by omega)
  have y0 := (World.cell?_of_block (a := ⟨w.heap.size + 1 + 1 + 1, 0, none⟩) hbk).trans Z0.out
  have y1 := (World.cell?_of_block (a := ⟨w.heap.size + 1 + 1 + 1, 1, none⟩) hbk).trans Z1.out
  have y2 := (World.cell?_of_block (a := ⟨w.heap.size + 1 + 1 + 1, 2, none⟩) hbk).trans Z2.out
  have y3 := (World.cell?_of_block (a := ⟨w.heap.size + 1 + 1 + 1, 3, none⟩) hbk).trans Z3.out
  have hz := ho3.size
  simp only [World.size_alloc] at hz
  have HS3 := Lib.hid hs3
  have hln := takeS_len ((nth p o.a.toNat).locals.take (nth p o.a.toNat).params.toNat) (s, false)
  have HLN := Lib.hid hln
  clear hs3 ho3 hln hbk Z0 Z1 Z2 Z3 GT HSG HBG
  go_wp2_with fail
  refine (result_any _ _ (nth p o.a.toNat) _).mono ?_
  rintro e w4 ⟨⟨r, rfl, hr⟩, hb4⟩
  have HS4 := Lib.hid (HS3.out.frame hb4)
  have HB4 := Lib.hid (HB3.out.trans (.of_below hb4 (by omega)))
  have hrl := resL_len (nth p o.a.toNat)
  have HI := Lib.hid hr
  clear hb4 hr y0 y1 y2 y3
  go_wp2_with fail
  refine (put_any _ lo sb _ _ HS4.out (by have := HLN.out; omega) _ _ _ HI.out (by omega)).mono ?_
  rintro e w5 ⟨rfl, hs5, hb5⟩
  have HSF := Lib.hid hs5
  have HBF := Lib.hid (HB4.out.trans hb5)
  clear hs5 hb5 HS4 HI HS3
  have hts : Hid (tryS p f o s = ((tryR p f o s).1, (tryR p f o s).2 || decide (8 < (tryR p f o s).1.length))) := rfl
  rw [HR.out] at hts
  obtain ⟨L, hL⟩ : ∃ L, L = (tryR p f o s).1 := ⟨_, rfl⟩
  obtain ⟨WR, hWR⟩ : ∃ L, L = (tryR p f o s).2 := ⟨_, rfl⟩
  rw [HR.out] at hL hWR
  try simp only at hL hWR hts
  rw [← hL, ← hWR] at hts HSF
  clear hL hWR HR
  obtain ⟨so, sc, x0, x1, x2, x3, _, _⟩ := HSF.out.cells
  have HF := Lib.hid (HSF.out.setW (WR || decide (8 < L.length)))
  clear HSF
  cases WR with
  | true =>
    go_wp2_with fail
    go_end0
    refine ⟨rfl, ?_, HBF.out.setCell hlow _ _⟩
    rw [hts.out]; simpa using HF.out
  | false =>
    have e8 : Hid (decide ((8 : Int) < (L.length : Int)) = decide (8 < L.length)) := by unfold Hid; rw [decide_eq_decide]; omega
    go_wp2_with fail
    go_end0
    refine ⟨rfl, ?_, HBF.out.setCell hlow _ _⟩
    have hf := HF.out
    rw [Bool.false_or, ← e8.out] at hf
    rw [hts.out, Bool.false_or, ← e8.out]; exact hf

theorem try_any (pv lv cv : Value) (p : List Mz.Fun) (f : Mz.Fun) (o : Mz.Op) (s : List Int) (B : Nat) (w : World) (lo sb : Nat) (h : Stk w lo sb s false) (hs : s.length ≤ 500) (hB : B ≤ lo) (hpv : RProg w B pv p) (hl : RInts w B lv f.locals) (hcd : ROps w B cv f.code)
    (hp : Mz.ProgTy p) (ho : Mz.OpOk p f o) :
    Calls Tryz.prog 167 #[.pointer (some ⟨sb, 0, none⟩), pv, .agg #[.int .i64 f.params, lv, .int .i64 f.result, cv], .agg #[.int .i64 o.code, .int .i64 o.a]] w (Tried p f o s w lo sb) := by
  by_cases c2 : o.code = 2
  · exact try_2 pv lv cv p f o s B w lo sb h hs hB hpv hl hcd c2
  by_cases c3 : o.code = 3
  · exact try_3 pv lv cv p f o s B w lo sb h hs hB hpv hl hcd c3
  by_cases c4 : o.code = 4
  · exact try_4 pv lv cv p f o s B w lo sb h hs hB hpv hl hcd c4
  by_cases c8 : o.code = 8
  · have := ho.load (.inl c8)
    exact try_8 pv lv cv p f o s B w lo sb h hs hB hpv hl hcd this.1 this.2 c8
  by_cases c9 : o.code = 9
  · have := ho.load (.inr c9)
    exact try_9 pv lv cv p f o s B w lo sb h hs hB hpv hl hcd this.1 this.2 c9
  by_cases c12 : o.code = 12
  · have hc := ho.call c12
    have hm : nth p o.a.toNat ∈ p := by rw [nth_lt (by omega)]; exact List.getElem_mem _
    have hq := hp.params _ hm
    exact try_12 pv lv cv p f o s B w lo sb h hs hB hpv hl hcd hc.1 hc.2 hq.1 hq.2 (hp.code _ hm).2.2.1 c12
  by_cases c13 : o.code = 13
  · exact try_13 pv lv cv p f o s B w lo sb h hs hB hpv hl hcd c13
  have hi := ho.is
  exact try_plain pv lv cv p f o s B w lo sb h hs hB hpv hl hcd ⟨c2, c3, c4, c8, c9, c12, c13⟩ (by unfold IsPlain; omega)
end Go.Proofs.YthdomhejkbpabaaGreat
