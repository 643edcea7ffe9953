/- Lemmas: RefTry. -/
import Derived.Test.YthdomhejkbpabaaGreatG07
import Derived.Test.YthdomhejkbpabaaGreatG02
import Derived.Deep.DeepCutAuto
import Derived.Deep.CutBlock
set_option linter.unusedVariables false
set_option linter.unusedSimpArgs false
/- What an op of a function leaves of a stack: TryOp of the reference. -/
namespace Go.Proofs.YthdomhejkbpabaaGreat
open Go.RowKit

def IsPlainR (c : Int) : Prop := c = 1 ∨ c = 5 ∨ c = 6 ∨ c = 7 ∨ c = 8 ∨ c = 9 ∨ c = 10 ∨ c = 11 ∨ c = 14 ∨ c = 15 ∨ c = 16 ∨ c = 17 ∨ c = 18 ∨ c = 19 ∨ c = 20 ∨ c = 21
theorem isPlainR_of {c : Int} (h : 1 ≤ c ∧ c ≤ 21) (h2 : c ≠ 2) (h3 : c ≠ 3) (h4 : c ≠ 4) (h12 : c ≠ 12) (h13 : c ≠ 13) : IsPlainR c := by unfold IsPlainR; omega
theorem refPlain_any (c loc : Int) (h : IsPlainR c) (w : World) : Calls Tryz.prog 143 #[.int .i64 c] w fun e w' =>
    (∃ a b : List UInt8, e = .returned (.tuple #[.string ⟨a.toArray⟩, .string ⟨b.toArray⟩]) ∧ letters loc a = (Mz.plainOf c loc).1 ∧ letters loc b = (Mz.plainOf c loc).2 ∧ a.length ≤ 3 ∧ b.length ≤ 2) ∧ w = w' := by
  rcases h with rfl | rfl | rfl | rfl | rfl | rfl | rfl | rfl | rfl | rfl | rfl | rfl | rfl | rfl | rfl | rfl
  · exact (plainOf_1 w).mono fun e w' ⟨he, hw⟩ => ⟨⟨[], [105], he, rfl, rfl, by decide, by decide⟩, hw⟩
  · exact (plainOf_5 w).mono fun e w' ⟨he, hw⟩ => ⟨⟨[105, 105], [105], he, rfl, rfl, by decide, by decide⟩, hw⟩
  · exact (plainOf_6 w).mono fun e w' ⟨he, hw⟩ => ⟨⟨[105, 105], [105], he, rfl, rfl, by decide, by decide⟩, hw⟩
  · exact (plainOf_7 w).mono fun e w' ⟨he, hw⟩ => ⟨⟨[105, 105], [105], he, rfl, rfl, by decide, by decide⟩, hw⟩
  · exact (plainOf_8 w).mono fun e w' ⟨he, hw⟩ => ⟨⟨[], [108], he, rfl, rfl, by decide, by decide⟩, hw⟩
  · exact (plainOf_9 w).mono fun e w' ⟨he, hw⟩ => ⟨⟨[108], [], he, rfl, rfl, by decide, by decide⟩, hw⟩
  · exact (plainOf_10 w).mono fun e w' ⟨he, hw⟩ => ⟨⟨[], [], he, rfl, rfl, by decide, by decide⟩, hw⟩
  · exact (plainOf_11 w).mono fun e w' ⟨he, hw⟩ => ⟨⟨[105], [], he, rfl, rfl, by decide, by decide⟩, hw⟩
  · exact (plainOf_14 w).mono fun e w' ⟨he, hw⟩ => ⟨⟨[105], [114], he, rfl, rfl, by decide, by decide⟩, hw⟩
  · exact (plainOf_15 w).mono fun e w' ⟨he, hw⟩ => ⟨⟨[114, 105], [105], he, rfl, rfl, by decide, by decide⟩, hw⟩
  · exact (plainOf_16 w).mono fun e w' ⟨he, hw⟩ => ⟨⟨[114, 105, 105], [], he, rfl, rfl, by decide, by decide⟩, hw⟩
  · exact (plainOf_17 w).mono fun e w' ⟨he, hw⟩ => ⟨⟨[114], [105], he, rfl, rfl, by decide, by decide⟩, hw⟩
  · exact (plainOf_18 w).mono fun e w' ⟨he, hw⟩ => ⟨⟨[], [110], he, rfl, rfl, by decide, by decide⟩, hw⟩
  · exact (plainOf_19 w).mono fun e w' ⟨he, hw⟩ => ⟨⟨[114], [105], he, rfl, rfl, by decide, by decide⟩, hw⟩
  · exact (plainOf_20 w).mono fun e w' ⟨he, hw⟩ => ⟨⟨[105], [], he, rfl, rfl, by decide, by decide⟩, hw⟩
  · exact (plainOf_21 w).mono fun e w' ⟨he, hw⟩ => ⟨⟨[], [105], he, rfl, rfl, by decide, by decide⟩, hw⟩

theorem RInts.newAt (w : World) (b : Nat) (hb : b = w.heap.size) (l : List Int) (hl : l.length * 8 ≤ 140737488351232) : RInts (w.alloc (.cells (l.map (Value.int .i64)).toArray 3)) (b + 1) (.slice (some ⟨b, 0, none⟩) l.length l.length) l := by
  subst hb; exact RInts.made w l 3 hl
theorem RInts.drew {w : World} {B : Nat} {v : Value} {l : List Int} (h : RInts w B v l) : RInts w.drew B v l := h.frame ((Below.refl _ _).drew)
theorem getLast_nth (s : List Int) : s.getLast! = nth s (s.length - 1) := Mz.getLast!_eq s

/-- what came of a try: false, or a list of numbers and true -/
def TryRes (lo : Nat) (w' : World) (e : Ending) (x : Option (List Int)) : Prop :=
  ∃ r, e = .returned (.tuple #[r, .bool x.isSome]) ∧ ∀ l, x = some l → FInts w' lo r l
theorem TryRes.none {lo : Nat} {w' : World} {e : Ending} {x : Option (List Int)} {r : Value} (h : e = .returned (.tuple #[r, .bool false])) (hx : x = Option.none) : TryRes lo w' e x := by
  subst hx; exact ⟨r, h, fun l hl => by cases hl⟩

/-- the first k of take are stood for -/
def StandsTo (s take : List Int) (k : Nat) : Prop := ∀ i, i < k → Mz.stands (nth s (s.length - take.length + i)) (nth take i) = true
theorem standsAll_of : ∀ {s t : List Int}, s.length = t.length → (∀ i, i < t.length → Mz.stands (nth s i) (nth t i) = true) → Mz.standsAll s t = true
  | [], [], _, _ => rfl
  | a :: s, b :: t, hl, h => by
    have h0 := h 0 (by simp)
    simp [nth] at h0
    simp only [Mz.standsAll, h0, Bool.true_and]
    exact standsAll_of (by simpa using hl) (fun i hi => by simpa [nth] using h (i + 1) (by simpa using hi))
  | [], _ :: _, hl, _ => by simp at hl
  | _ :: _, [], hl, _ => by simp at hl
theorem standsAll_not : ∀ {s t : List Int} {i : Nat}, i < t.length → Mz.stands (nth s i) (nth t i) = false → Mz.standsAll s t = false
  | a :: s, b :: t, 0, _, h => by simp [nth] at h; simp [Mz.standsAll, h]
  | a :: s, b :: t, i + 1, hi, h => by
    have := standsAll_not (s := s) (t := t) (i := i) (by simpa using hi) (by simpa [nth] using h)
    simp [Mz.standsAll, this]
  | [], _ :: _, _, _, _ => by simp [Mz.standsAll]
theorem nth_drop (s : List Int) (d i : Nat) (h : d + i < s.length) : nth (s.drop d) i = nth s (d + i) := by
  rw [nth_lt (by simp; omega), nth_lt h, List.getElem_drop]
theorem StandsTo.end {s take : List Int} {k : Nat} (h : StandsTo s take k) (hl : take.length ≤ s.length) (hk : ¬ k < take.length) : Mz.standsAll (s.drop (s.length - take.length)) take = true :=
  standsAll_of (by simp; omega) fun i hi => by rw [nth_drop _ _ _ (by omega)]; exact h i (by omega)
theorem StandsTo.stop {s take : List Int} {k : Nat} (hl : take.length ≤ s.length) (hk : k < take.length) (h : Mz.stands (nth s (s.length - take.length + k)) (nth take k) = false) : Mz.standsAll (s.drop (s.length - take.length)) take = false :=
  standsAll_not hk (by rw [nth_drop _ _ _ (by omega)]; exact h)

/-- part of a slice is a slice -/
theorem RInts.take {w : World} {B c : Nat} {ao : Option Addr} {l : List Int} (h : RInts w B (.slice ao l.length c) l) (k : Nat) (hk : k ≤ l.length) : RInts w B (.slice ao k c) (l.take k) := by
  obtain ⟨ao', c', e, h2, h3, h4, h5, h6, h7⟩ := h
  simp only [Value.slice.injEq] at e
  obtain ⟨rfl, _, rfl⟩ := e
  have hl : (l.take k).length = k := by simp; omega
  refine ⟨ao, c, by rw [hl], by simp, by omega, h4, by rw [hl]; omega, fun hn => by have := h6 hn; omega, fun hn => ?_⟩
  obtain ⟨b, o, e, hlt, hc⟩ := h7 (by omega)
  refine ⟨b, o, e, hlt, fun j u hu => hc j u ?_⟩
  rw [List.map_take, List.getElem?_take] at hu
  split at hu
  · exact hu
  · cases hu
theorem RInts.drop {w : World} {B c b o : Nat} {l : List Int} (h : RInts w B (.slice (some ⟨b, o, none⟩) l.length c) l) (k : Nat) (hk : k ≤ l.length) : RInts w B (.slice (some ⟨b, o + k, none⟩) (l.length - k) (c - k)) (l.drop k) := by
  obtain ⟨ao', c', e, h2, h3, h4, h5, h6, h7⟩ := h
  simp only [Value.slice.injEq] at e
  obtain ⟨rfl, _, rfl⟩ := e
  have hl : (l.drop k).length = l.length - k := by simp
  refine ⟨_, c - k, by rw [hl], by simp, by omega, by omega, by rw [hl]; omega, by simp, fun hn => ?_⟩
  obtain ⟨b', o', e, hlt, hc⟩ := h7 (by omega)
  simp only [Option.some.injEq, Addr.mk.injEq, and_true] at e
  obtain ⟨rfl, rfl⟩ := e
  refine ⟨b, o + k, rfl, hlt, fun j u hu => ?_⟩
  rw [Nat.add_assoc]
  refine hc (k + j) u ?_
  rw [List.map_drop, List.getElem?_drop] at hu
  exact hu

set_option maxHeartbeats 2000000 in
set_option maxRecDepth 100000 in
theorem refTry_any (pv lv cv sv : Value) (p : List Mz.Fun) (f : Mz.Fun) (o : Mz.Op) (s : List Int) (B : Nat) (w : World) (hB : B ≤ w.heap.size) (h : RProg w B pv p) (hl : RInts w B lv f.locals) (hcd : ROps w B cv f.code) (hsv : RInts w B sv s)
    (hp : Mz.ProgTy p) (ho : Mz.OpOk p f o) (hsn : s.length ≤ 1000) :
    Calls Tryz.prog 108 #[pv, .agg #[.int .i64 f.params, lv, .int .i64 f.result, cv], .agg #[.int .i64 o.code, .int .i64 o.a], sv] w fun e w' => TryRes w.heap.size w' e (Mz.tryOp p f o s) ∧ Below w.heap.size w w' := by
  obtain ⟨fv, rfl, hfs⟩ := h
  obtain ⟨ao, c, rfl, h1, h2, h3⟩ := hfs.open
  obtain ⟨lo, lc, rfl, l1, l2, l3⟩ := hl.open
  obtain ⟨co, cc, rfl, c1, c2, c3⟩ := hcd.open
  obtain ⟨so, sc, rfl, s1, s2, s3⟩ := hsv.open
  unfold maxLen at h2 l2 c2 s2
  go_enter Tryz.func108, Tryz.ntmps108
  go_upto_block 0 with fail
  go_cut [11, 12] (fun tv lv wx => ∃ tk lev : List Int, Hid (Mz.takeLeave p f o s = some (tk, lev)) ∧ RInts wx wx.heap.size tv tk ∧ RInts wx wx.heap.size lv lev ∧ tk.length ≤ 1000 ∧ lev.length ≤ 2 ∧ Below w.heap.size w wx)
  case first =>
    have hb0 : Below w.heap.size w (((w.alloc (.cells #[.slice ao p.length c] 24)).alloc (.cells #[.int .i64 f.params, .slice lo f.locals.length lc, .int .i64 f.result, .slice co f.code.length cc] 110)).alloc (.cells #[.int .i64 o.code, .int .i64 o.a] 49)) := (below_alloc2 w _ _).alloc (by simp; omega) _
    by_cases k2 : o.code = 2
    · have t2 : (o.code == 2) = true := by simp [k2]
      have t3 : (o.code == 3) = false := by simp [k2]
      have K2 := Lib.hid k2
      clear k2
      by_cases hs1 : s.length < 1
      · have hT : Hid (Mz.tryOp p f o s = none) := by unfold Hid Mz.tryOp Mz.takeLeave; rw [if_pos K2.out, if_pos hs1]
        go_wp2
        go_ret2
        exact ⟨.none rfl hT.out, hb0⟩
      · obtain ⟨sb, sx, rfl, sB, _⟩ := hsv.at (i := 0) (by omega)
        have hT : Hid (Mz.takeLeave p f o s = some (s.drop (s.length - 1), [])) := by unfold Hid Mz.takeLeave; rw [if_pos K2.out, if_neg hs1]
        go_wp2
        go_meet
        case rel =>
          refine ⟨_, _, hT, ?_, RInts.nil _ _, by simp; omega, by simp, hb0⟩
          exact ((hsv.drop (s.length - 1) (by omega)).frame (hb0.mono hB)).mono (by simp; omega)
    by_cases k3 : o.code = 3
    · have t2 : (o.code == 2) = false := by simp [k3]
      have t3 : (o.code == 3) = true := by simp [k3]
      have K3 := Lib.hid k3
      clear k3
      by_cases hs1 : s.length < 1
      · have hT : Hid (Mz.tryOp p f o s = none) := by unfold Hid Mz.tryOp Mz.takeLeave; rw [if_neg (by rw [K3.out]; decide), if_pos K3.out, if_pos hs1]
        go_wp2
        go_ret2
        exact ⟨.none rfl hT.out, hb0⟩
      · obtain ⟨sb, sx, rfl, sB, scell⟩ := hsv.at (i := s.length - 1) (by omega)
        have hT : Hid (Mz.takeLeave p f o s = some (s.drop (s.length - 1), [s.getLast!, s.getLast!])) := by unfold Hid Mz.takeLeave; rw [if_neg (by rw [K3.out]; decide), if_pos K3.out, if_neg hs1]
        have g1 : sb < w.heap.size := by omega
        have g2 : sb < w.heap.size + 1 := by omega
        have g3 : sb < w.heap.size + 1 + 1 := by omega
        have e1 : IntKind.i64.wrap ((s.length : Int) - 1) = s.length - 1 := IntWalk.i64_in _ (by omega)
        have e3 : ((s.length : Int) - 1).toNat = s.length - 1 := by omega
        have e4 : 0 ≤ (s.length : Int) - 1 := by omega
        have e5 : (s.length : Int) - 1 < s.length := by omega
        go_wp2
        go_region
        go_wp2
        go_meet
        case rel =>
          have hB1 := ((hb0.alloc (by simp; omega) (.cells #[.int .i64 (nth s (s.length - 1)), .int .i64 (nth s (s.length - 1))] 3)).drew)
          rw [getLast_nth] at hT
          exact ⟨_, _, hT, ((hsv.drop (s.length - 1) (by omega)).frame (hB1.mono hB)).mono (by simp; omega), (RInts.newAt _ (w.heap.size + 1 + 1 + 1) (by simp) [nth s (s.length - 1), nth s (s.length - 1)] (by simp)).drew.mono (by simp), by simp; omega, by simp, hB1⟩
    by_cases k4 : o.code = 4
    · have t2 : (o.code == 2) = false := by simp [k4]
      have t3 : (o.code == 3) = false := by simp [k4]
      have t4 : (o.code == 4) = true := by simp [k4]
      have K4 := Lib.hid k4
      clear k4
      by_cases hs1 : s.length < 2
      · have hT : Hid (Mz.tryOp p f o s = none) := by unfold Hid Mz.tryOp Mz.takeLeave; rw [if_neg k2, if_neg k3, if_pos K4.out, if_pos hs1]
        clear k2 k3
        go_wp2
        go_ret2
        exact ⟨.none rfl hT.out, hb0⟩
      · obtain ⟨sb, sx, rfl, sB, scell⟩ := hsv.at (i := s.length - 1) (by omega)
        have hT : Hid (Mz.takeLeave p f o s = some (s.drop (s.length - 2), [nth s (s.length - 1), nth s (s.length - 2)])) := by unfold Hid Mz.takeLeave; rw [if_neg k2, if_neg k3, if_pos K4.out, if_neg hs1]; rfl
        clear k2 k3
        obtain ⟨sb', sx', he, sB', scell'⟩ := hsv.at (i := s.length - 2) (by omega)
        simp only [Option.some.injEq, Addr.mk.injEq, and_true] at he
        obtain ⟨rfl, rfl⟩ := he
        have g1 : sb < w.heap.size := by omega
        have g2 : sb < w.heap.size + 1 := by omega
        have g3 : sb < w.heap.size + 1 + 1 := by omega
        have e1 : IntKind.i64.wrap ((s.length : Int) - 1) = s.length - 1 := IntWalk.i64_in _ (by omega)
        have e3 : ((s.length : Int) - 1).toNat = s.length - 1 := by omega
        have e4 : 0 ≤ (s.length : Int) - 1 := by omega
        have e5 : (s.length : Int) - 1 < s.length := by omega
        have f1 : IntKind.i64.wrap ((s.length : Int) - 2) = s.length - 2 := IntWalk.i64_in _ (by omega)
        have f3 : ((s.length : Int) - 2).toNat = s.length - 2 := by omega
        have f4 : 0 ≤ (s.length : Int) - 2 := by omega
        have f5 : (s.length : Int) - 2 < s.length := by omega
        have f6 : (s.length : Int) - 2 ≤ s.length := by omega
        have f7 : (s.length : Int) ≤ sc := by omega
        go_wp2
        go_region
        go_wp2
        go_meet
        case rel =>
          have hB1 := ((hb0.alloc (by simp; omega) (.cells #[.int .i64 (nth s (s.length - 1)), .int .i64 (nth s (s.length - 2))] 3)).drew)
          exact ⟨_, _, hT, ((hsv.drop (s.length - 2) (by omega)).frame (hB1.mono hB)).mono (by simp; omega), (RInts.newAt _ (w.heap.size + 1 + 1 + 1) (by simp) [nth s (s.length - 1), nth s (s.length - 2)] (by simp)).drew.mono (by simp), by simp; omega, by simp, hB1⟩
    by_cases k12 : o.code = 12
    · have t2 : (o.code == 2) = false := by simp [k12]
      have t3 : (o.code == 3) = false := by simp [k12]
      have t4 : (o.code == 4) = false := by simp [k12]
      have t5 : (o.code == 12) = true := by simp [k12]
      have K12 := Lib.hid k12
      obtain ⟨ha0, ha1⟩ := ho.call k12
      have hai : o.a.toNat < p.length := by omega
      obtain ⟨fb, fx, gl, gc, rfl, fB, q0, q1, q2, q3, rgl, rgc⟩ := hfs.at hai
      obtain ⟨glo, glc, rfl, gl1, gl2, gl3⟩ := rgl.open
      obtain ⟨gco, gcc, rfl, gc1, gc2, gc3⟩ := rgc.open
      unfold maxLen at gl2 gc2
      have hm : nth p o.a.toNat ∈ p := by rw [nth_lt hai]; exact List.getElem_mem _
      obtain ⟨hp0, hp1⟩ := hp.params _ hm
      have hl6 := (hp.code _ hm).2.2.1
      have hT : Hid (Mz.takeLeave p f o s = some ((nth p o.a.toNat).locals.take (nth p o.a.toNat).params.toNat, if 0 < (nth p o.a.toNat).result then [(nth p o.a.toNat).result] else [])) := by
        unfold Hid Mz.takeLeave; rw [if_neg k2, if_neg k3, if_neg k4, if_pos K12.out]; rfl
      clear k2 k3 k4 k12 hm
      have g1 : fb < w.heap.size := by omega
      have g2 : fb < w.heap.size + 1 := by omega
      have g3 : fb < w.heap.size + 1 + 1 := by omega
      have g4 : (nth p o.a.toNat).params ≤ glc := by omega
      by_cases hr : 0 < (nth p o.a.toNat).result
      · rw [if_pos hr] at hT
        go_wp2_with fail
        go_meet
        case rel =>
          have hB1 := ((hb0.alloc (by simp; omega) (.cells #[.int .i64 (nth p o.a.toNat).params, .slice glo (nth p o.a.toNat).locals.length glc, .int .i64 (nth p o.a.toNat).result, .slice gco (nth p o.a.toNat).code.length gcc] 110)).alloc (by simp; omega) (.cells #[.int .i64 (nth p o.a.toNat).result] 3))
          exact ⟨_, _, hT, ((rgl.take _ (by omega)).frame (hB1.mono hB)).mono (by simp; omega), (RInts.newAt _ (w.heap.size + 1 + 1 + 1 + 1) (by simp) [(nth p o.a.toNat).result] (by simp)).mono (by simp), by simp; omega, by simp, hB1⟩
      · rw [if_neg hr] at hT
        go_wp2_with fail
        go_meet
        case rel =>
          have hB1 := (hb0.alloc (by simp; omega) (.cells #[.int .i64 (nth p o.a.toNat).params, .slice glo (nth p o.a.toNat).locals.length glc, .int .i64 (nth p o.a.toNat).result, .slice gco (nth p o.a.toNat).code.length gcc] 110))
          exact ⟨_, _, hT, ((rgl.take _ (by omega)).frame (hB1.mono hB)).mono (by simp; omega), RInts.nil _ _, by simp; omega, by simp, hB1⟩
    by_cases k13 : o.code = 13
    · have t2 : (o.code == 2) = false := by simp [k13]
      have t3 : (o.code == 3) = false := by simp [k13]
      have t4 : (o.code == 4) = false := by simp [k13]
      have t5 : (o.code == 12) = false := by simp [k13]
      have t6 : (o.code == 13) = true := by simp [k13]
      have K13 := Lib.hid k13
      have hT : Hid (Mz.takeLeave p f o s = if s.length ≠ (if 0 < f.result then [f.result] else []).length then none else some (if 0 < f.result then [f.result] else [], [])) := by
        unfold Hid Mz.takeLeave; rw [if_neg k2, if_neg k3, if_neg k4, if_neg k12, if_pos K13.out]
      clear k2 k3 k4 k12 k13
      by_cases hr : 0 < f.result
      · rw [if_pos hr] at hT
        by_cases hs1 : s.length = 1
        · have hs1' : ((s.length : Int) != 1) = false := by simp [hs1]
          rw [if_neg (by simp [hs1])] at hT
          clear hs1
          go_wp2_with fail
          go_meet
          case rel =>
            have hB1 := (hb0.alloc (by simp; omega) (.cells #[.int .i64 f.result] 3))
            exact ⟨_, _, hT, (RInts.newAt _ (w.heap.size + 1 + 1 + 1) (by simp) [f.result] (by simp)).mono (by simp), RInts.nil _ _, by simp, by simp, hB1⟩
        · have hs1' : ((s.length : Int) != 1) = true := by rw [bne_iff_ne]; omega
          rw [if_pos (by simpa using hs1)] at hT
          have hT' : Hid (Mz.tryOp p f o s = none) := by unfold Hid Mz.tryOp; rw [hT.out]
          clear hs1
          go_wp2_with fail
          go_ret2
          exact ⟨.none rfl hT'.out, hb0.alloc (by simp; omega) _⟩
      · rw [if_neg hr] at hT
        by_cases hs1 : s.length = 0
        · have hs1' : ((s.length : Int) != 0) = false := by simp [hs1]
          rw [if_neg (by simp [hs1])] at hT
          clear hs1
          go_wp2_with fail
          go_meet
          case rel => exact ⟨_, _, hT, RInts.nil _ _, RInts.nil _ _, by simp, by simp, hb0⟩
        · have hs1' : ((s.length : Int) != 0) = true := by rw [bne_iff_ne]; omega
          rw [if_pos (by simpa using hs1)] at hT
          have hT' : Hid (Mz.tryOp p f o s = none) := by unfold Hid Mz.tryOp; rw [hT.out]
          clear hs1
          go_wp2_with fail
          go_ret2
          exact ⟨.none rfl hT'.out, hb0⟩
    have t2 : (o.code == 2) = false := by simp [k2]
    have t3 : (o.code == 3) = false := by simp [k3]
    have t4 : (o.code == 4) = false := by simp [k4]
    have t5 : (o.code == 12) = false := by simp [k12]
    have t6 : (o.code == 13) = false := by simp [k13]
    have hpl := isPlainR_of ho.is k2 k3 k4 k12 k13
    have HPL := Lib.hid hpl
    by_cases k8 : o.code = 8 ∨ o.code = 9
    · obtain ⟨ha0, ha1⟩ := ho.load k8
      have hai : o.a.toNat < f.locals.length := by omega
      obtain ⟨fb, fx, rfl, fB, q0⟩ := hl.at hai
      have hT : Hid (Mz.takeLeave p f o s = some (Mz.plainOf o.code (nth f.locals o.a.toNat))) := by
        unfold Hid Mz.takeLeave; rw [if_neg k2, if_neg k3, if_neg k4, if_neg k12, if_neg k13, if_pos k8]; rfl
      have g1 : fb < w.heap.size := by omega
      have g2 : fb < w.heap.size + 1 := by omega
      have g3 : fb < w.heap.size + 1 + 1 := by omega
      have k8' : (o.code == 8 || o.code == 9) = true := by simpa using k8
      have t8 : (o.code == 8) = true ∨ (o.code == 8) = false ∧ (o.code == 9) = true := by
        rcases k8 with k | k
        · exact .inl (by simp [k])
        · exact .inr ⟨by simp [k], by simp [k]⟩
      clear k2 k3 k4 k12 k13 k8 k8' hpl
      rcases t8 with t8 | ⟨t8, t9⟩
      all_goals
        go_wp2_with fail
        refine (refPlain_any _ (nth f.locals o.a.toNat) HPL.out _).mono ?_
        rintro e w' ⟨⟨a, b, rfl, ha, hbb, hla, hlb⟩, rfl⟩
        have HA := Lib.hid ha
        have HBB := Lib.hid hbb
        clear ha hbb
        go_wp2_with fail
        refine (typesOf_any _ _ _ (by omega)).mono ?_
        rintro e w1 ⟨r1, rfl, hr1, hB1⟩
        go_wp2_with fail
        refine (typesOf_any _ _ _ (by omega)).mono ?_
        rintro e w2 ⟨r2, rfl, hr2, hB2⟩
        go_wp2_with fail
        go_meet
        case rel =>
          refine ⟨letters (nth f.locals o.a.toNat) a, letters (nth f.locals o.a.toNat) b, by unfold Hid; rw [hT.out, HA.out, HBB.out], (hr1.frame hB2).mono hB2.size, hr2, ?_, ?_, ?_⟩
          · have := letters_len (nth f.locals o.a.toNat) a; omega
          · have := letters_len (nth f.locals o.a.toNat) b; omega
          · exact hb0.trans ((hB1.mono (by simp; omega)).trans (hB2.mono (by have := hB1.size; simp at this; omega)))
    · have hT : Hid (Mz.takeLeave p f o s = some (Mz.plainOf o.code 0)) := by
        unfold Hid Mz.takeLeave; rw [if_neg k2, if_neg k3, if_neg k4, if_neg k12, if_neg k13, if_neg k8]
      have t8 : (o.code == 8) = false := by simp; omega
      have t9 : (o.code == 9) = false := by simp; omega
      clear k2 k3 k4 k12 k13 k8 hpl
      go_wp2_with fail
      refine (refPlain_any _ 0 HPL.out _).mono ?_
      rintro e w' ⟨⟨a, b, rfl, ha, hbb, hla, hlb⟩, rfl⟩
      have HA := Lib.hid ha
      have HBB := Lib.hid hbb
      clear ha hbb
      go_wp2_with fail
      refine (typesOf_any _ _ _ (by omega)).mono ?_
      rintro e w1 ⟨r1, rfl, hr1, hB1⟩
      go_wp2_with fail
      refine (typesOf_any _ _ _ (by omega)).mono ?_
      rintro e w2 ⟨r2, rfl, hr2, hB2⟩
      go_wp2_with fail
      go_meet
      case rel =>
        refine ⟨letters 0 a, letters 0 b, by unfold Hid; rw [hT.out, HA.out, HBB.out], (hr1.frame hB2).mono hB2.size, hr2, ?_, ?_, ?_⟩
        · have := letters_len 0 a; omega
        · have := letters_len 0 b; omega
        · exact hb0.trans ((hB1.mono (by simp; omega)).trans (hB2.mono (by have := hB1.size; simp at this; omega)))
  case rest =>
    obtain ⟨tk, lev, htl, rt, rl, htk, hlev, hb⟩ := hcut
    obtain ⟨ta, tc, rfl, t1, t2, t3⟩ := rt.open
    obtain ⟨la, lc', rfl, b1, b2, b3⟩ := rl.open
    unfold maxLen at t2 b2
    have hs := hb.size
    have hsc := hsv.frame (hb.mono hB)
    by_cases hlt : s.length < tk.length
    · have hT : Hid (Mz.tryOp p f o s = none) := by unfold Hid Mz.tryOp; rw [htl.out]; simp only; rw [if_pos hlt]
      go_wp2
      go_ret2
      exact ⟨.none rfl hT.out, hb⟩
    go_wp2
    go_loopw [17] (fun i wr => ∃ k : Nat, k ≤ tk.length ∧ i = .int .i64 k ∧ StandsTo s tk k ∧ Below wc.heap.size wc wr) (fun i _ => tk.length - (intOf i).toNat)
    case atStart => exact ⟨0, Nat.zero_le _, rfl, fun i hi => by omega, Below.refl _ _⟩
    case round =>
      obtain ⟨k, hk, rfl, hst, hbr⟩ := hrel
      by_cases hkl : k < tk.length
      · obtain ⟨tb, tx, rfl, tB, tcell⟩ := rt.at hkl
        have hidx : s.length - tk.length + k < s.length := by omega
        obtain ⟨sb, sx, rfl, sB, scell⟩ := hsc.at hidx
        obtain ⟨hc, hfz⟩ := bcell hbr
        have g1 : tb < wc.heap.size := by omega
        have g2 : sb < wc.heap.size := by omega
        have e1 : IntKind.i64.wrap ((s.length : Int) - tk.length) = s.length - tk.length := IntWalk.i64_in _ (by omega)
        have e2 : IntKind.i64.wrap ((s.length : Int) - tk.length + k) = s.length - tk.length + k := IntWalk.i64_in _ (by omega)
        have e3 : ((s.length : Int) - tk.length + k).toNat = s.length - tk.length + k := by omega
        have e4 : 0 ≤ (s.length : Int) - tk.length + k := by omega
        have e5 : (s.length : Int) - tk.length + k < s.length := by omega
        cases hx : Mz.stands (nth s (s.length - tk.length + k)) (nth tk k) with
        | false =>
          have hT : Hid (Mz.tryOp p f o s = none) := by unfold Hid Mz.tryOp; rw [htl.out]; simp only; rw [if_neg hlt, if_pos (StandsTo.stop (by omega) hkl hx)]
          go_wp2_with fail
          go_quiet ((go_at_call 145; exact Calls.quiet_of_same ((refDoesStand_any _ _ _).mono fun _ _ ⟨h, h'⟩ => ⟨h, h'.symm⟩)))
          go_wp2_with fail
          go_ret2
          exact ⟨.none rfl hT.out, (hb.trans (hbr.mono hs)).trans (below_drewN _ _ _)⟩
        | true =>
          go_wp2_with fail
          go_quiet ((go_at_call 145; exact Calls.quiet_of_same ((refDoesStand_any _ _ _).mono fun _ _ ⟨h, h'⟩ => ⟨h, h'.symm⟩)))
          go_wp2_with fail
          go_roundw
          case rel => exact ⟨k + 1, by omega, by go_num, fun i hi => by
            by_cases c : i = k
            · rw [c]; exact hx
            · exact hst i (by omega), hbr.trans (below_drewN _ _ _)⟩
          case measure => simp [intOf]; omega
      · have hS := Lib.hid (hst.end (by omega) hkl)
        have hwr := hbr.size
        have hsr : Hid (RInts wr B (.slice so s.length sc) s) := hsc.frame (hbr.mono (by omega))
        have hlr : Hid (RInts wr wc.heap.size (.slice la lev.length lc') lev) := rl.frame hbr
        clear hsc rl rt
        have tok1 : True := trivial
        go_wp2_with (first
          | (at_builtin; have _t := tok1; refine push_ints (l := s.take (s.length - tk.length)) rfl rfl rfl (owns_empty wr 3 1 wr.heap.size (Nat.le_refl _)) rfl ((hsr.out.take _ (by omega)).frame ((Below.refl _ _).alloc (by omega) _)) (by simp; omega) (by simp) ?_; intro v1 w1 hown1 hgr1 hb1; clear tok1)
          | (at_builtin; refine push_ints (l := lev) rfl rfl rfl hown1 rfl (hlr.out.frame (((Below.refl _ _).alloc (by omega) _).trans (hb1.mono (by omega)))) (by simp; omega) (by have := hb1.size; simp at this; omega) ?_; intro v2 w2 hown2 hgr2 hb2; obtain ⟨va, vc, rfl⟩ := owned_open hown2))
        have hlen : (s.take (s.length - tk.length)).length = s.length - tk.length := by simp
        rw [hlen, Nat.zero_add, List.nil_append, ← List.map_append] at hown2
        have hr2 : FInts w2 w.heap.size _ _ := (FInts.of_owns hown2 (by omega)).mono (by omega)
        have hB2 : Below w.heap.size w w2 := (hb.trans (hbr.mono hs)).trans ((((Below.refl _ _).alloc (by omega) _).trans (hb1.mono (by omega))).trans (hb2.mono (by omega)))
        go_ret2
        refine ⟨?_, hB2⟩
        have hT : Mz.tryOp p f o s = if 8 < s.length - tk.length + lev.length then none else some (s.take (s.length - tk.length) ++ lev) := by
          unfold Mz.tryOp; rw [htl.out]; simp only; rw [if_neg hlt, if_neg (by rw [hS.out]; simp), List.length_append, hlen]
        by_cases h8 : 8 < s.length - tk.length + lev.length
        · rw [if_pos h8] at hT
          have hd : decide (((s.length - tk.length : Nat) : Int) + (lev.length : Int) ≤ 8) = false := by simp; omega
          exact .none (by rw [← hd]; rfl) hT
        · rw [if_neg h8] at hT
          have hd : decide (((s.length - tk.length : Nat) : Int) + (lev.length : Int) ≤ 8) = true := by simp; omega
          rw [hT]
          exact ⟨_, by rw [show (some (s.take (s.length - tk.length) ++ lev)).isSome = true from rfl, ← hd]; rfl, fun l hl' => by cases hl'; exact hr2⟩
end Go.Proofs.YthdomhejkbpabaaGreat
