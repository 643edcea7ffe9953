/- Lemmas: RefMach. -/
import Derived.Test.YthdomhejkbpabaaGreatG28
import Derived.Test.YthdomhejkbpabaaGreatG26
set_option linter.unusedVariables false
set_option linter.unusedSimpArgs false
/- The reference's reader: a machine. -/
namespace Go.Proofs.YthdomhejkbpabaaGreat
open Go.RowKit

/-- a call of a function literal without arguments at a step of a region that draws its order -/
theorem step_callc {P : Program} {f : FuncId} {cap : Array Value} {ops : Array Oper} {o : Oper} {a : Act} {K : Act → World → Prop} {Q : Exit → Act → World → Prop} {E : Prop} {c : Operand} {ts : Array TypeId}
    (hgd : o.guard = none) (ho : o.op = .call { callee := .value c, args := #[], argTypes := ts }) (hv : a.eval c = .func (.func f) #[] cap) {w : World} (he : (callFunc f cap).run P w = .ok (.enter f cap) w) {R : Ending → World → Prop} (hc : Calls P f cap w R)
    (h : ∀ e w', R e w' → ∃ u, e = .returned u ∧ K (a.put o.dst u) w') :
    if Region.wanted o (yielded ops a.tmps) = true then Oper.wp P o a w K Q else E := by
  have hw : Region.wanted o (yielded ops a.tmps) = true := by simp [Region.wanted, hgd]
  rw [if_pos hw]
  unfold Oper.wp
  simp [execOp, ho, resolve, invoke, hv, Deferred.ofValue, Sem.run_pure, he, Result.andThen, Oper.upon_enter]
  refine hc.mono fun e w' hr => ?_
  obtain ⟨u, rfl, hk⟩ := h e w' hr
  exact hk
/-- numbers that were read: a slice of some length -/
theorem mkInts'.open {lo : Nat} {l : List Int} {v : Value} {w : World} (h : mkInts' lo l v w) : ∃ ao c, v = .slice ao l.length c := owned_open h.1
theorem mkVals'.open {lo : Nat} {l : List Mz.Val} {v : Value} {w : World} (h : mkVals' lo l v w) : ∃ ao c, v = .slice ao l.length c := owned_open h.1

set_option maxHeartbeats 4000000 in
set_option maxRecDepth 100000 in
theorem machineOf_any (w : World) (s : List UInt8) (hs : s.length ≤ 9223372036854775807) :
    Calls Tryz.prog 18 #[Str s] w fun e w' => Below w.heap.size w w' ∧
      ((∃ m v, Mz.machOf s = some m ∧ e = .returned (.tuple #[v, .bool true]) ∧ mkMach w.heap.size m v w' ∧ smallMach m) ∨
       (Mz.machOf s = none ∧ e = .returned (.tuple #[.agg #[.slice none 0 0, .slice none 0 0, .slice none 0 0, .slice none 0 0, .int .i64 0, .int .i64 0], .bool false]))) := by
  have e1 := enters_refOne1
  have e4 := enters_refFour4
  have e3 := enters_refNumbers
  have e5 := enters_refValues
  unfold Enters at e1 e4 e3 e5
  have hmf : ∀ (fn : Fn) (first cap : Array Value) (w : World), (Instr.makeFunc fn first cap).run Tryz.prog w = .ok (.func fn first cap) w := fun _ _ _ _ => rfl
  unfold Str
  obtain ⟨L, hL⟩ : ∃ L, L = w.heap.size := ⟨_, rfl⟩
  go_enter Tryz.func18, Tryz.ntmps18
  rw [← hL]
  have HL := Lib.hid hL
  clear hL
  go_wp2_with fail
  clear hmf
  obtain ⟨S, hS⟩ : ∃ S, S = w.heap.size := ⟨_, rfl⟩
  obtain ⟨R, hR⟩ : ∃ R, R = w.heap.size + 1 := ⟨_, rfl⟩
  obtain ⟨A, hA⟩ : ∃ A, A = w.heap.size + 1 + 1 := ⟨_, rfl⟩
  obtain ⟨K, hK⟩ : ∃ K, K = w.heap.size + 1 + 1 + 1 := ⟨_, rfl⟩
  obtain ⟨O, hO⟩ : ∃ O, O = w.heap.size + 1 + 1 + 1 + 1 := ⟨_, rfl⟩
  obtain ⟨F, hF⟩ : ∃ F, F = w.heap.size + 1 + 1 + 1 + 1 + 1 := ⟨_, rfl⟩
  obtain ⟨M, hM⟩ : ∃ M, M = w.heap.size + 1 + 1 + 1 + 1 + 1 + 1 := ⟨_, rfl⟩
  rw [← hM, ← hF, ← hO, ← hK, ← hA, ← hR, ← hS]
  generalize hW : (((((((w.alloc (Obj.cells #[Value.string { data := s.toArray }] 9)).alloc (Obj.cells #[Value.slice none 0 0, Value.slice none 0 0, Value.slice none 0 0, Value.slice none 0 0, Value.int IntKind.i64 0, Value.int IntKind.i64 0] 29)).alloc (Obj.cells #[Value.int IntKind.i64 0] 3)).alloc (Obj.cells #[Value.bool true] 4)).alloc
      (Obj.cells #[.func (.func 63) #[] #[.pointer (some ⟨A, 0, none⟩), .pointer (some ⟨S, 0, none⟩), .pointer (some ⟨K, 0, none⟩)]] 99)).alloc (Obj.cells #[.func (.func 64) #[] #[.pointer (some ⟨S, 0, none⟩), .pointer (some ⟨A, 0, none⟩), .pointer (some ⟨K, 0, none⟩)]] 99)).alloc
      (Obj.cells #[Value.slice none 0 0, Value.slice none 0 0, Value.slice none 0 0, Value.slice none 0 0, Value.int IntKind.i64 0, Value.int IntKind.i64 0] 29)) = W
  obtain ⟨hmo, hb⟩ := mo_begin w s S R A K O F M hS hR (by omega) (by omega) (by omega) (by omega) (by omega) W hW
  rw [← HL.out] at hmo
  have HMO := Lib.hid hmo
  have HB := Lib.hid hb
  clear hmo hb hW hS hR hA hK hO hF hM
  have n1 := Lib.hid (row_ne HMO.out.box.row HMO.out.cl.one (by decide))
  have n2 := Lib.hid (row_ne HMO.out.box.row HMO.out.cl.four (by decide))
  have n3 := Lib.hid (row_ne HMO.out.box.row HMO.out.rst.ok (by decide))
  have n4 : Hid (R ≠ M ∧ L ≤ R ∧ L ≤ M) := ⟨Nat.ne_of_lt HMO.out.lt.2.1, HMO.out.low.2.1, HMO.out.low.2.2.2.2⟩
  have n5 := Lib.hid HMO.out.lt
  have hlow : Hid (w.heap.size ≤ A ∧ w.heap.size ≤ K ∧ w.heap.size ≤ M ∧ w.heap.size ≤ R) := by have := HMO.out.low; have := HL.out; exact ⟨by omega, by omega, by omega, by omega⟩
  -- the status
  refine (refOne_any W S A K s 0 true HMO.out.rst hs).mono ?_
  rintro e w1 ⟨hf1, st, v, a1, k1, rfl, ⟨rfl, -, -⟩, hst1, hg1⟩
  have HG1 := Lib.hid hg1
  have hm1 := HMO.out.read hf1 hst1
  have HB1 := Lib.hid (HB.out.trans (hf1.below HB.out.size (by have := HMO.out.low; have := HL.out; omega) (by have := HMO.out.low; have := HL.out; omega)))
  have k14 : w1.cell? ⟨M, 4, none⟩ = some (.int .i64 0) := hm1.box.row.cell (i := 4) (by decide)
  have z14 := hm1.box.row.frozen 4
  have lM := hm1.box.row.lt
  have cO := hm1.cl.one.cell (i := 0) (by decide)
  have lO := hm1.cl.one.lt
  have m1 := n1.out
  have m1' := Ne.symm n1.out
  have HM1 := Lib.hid (hm1.write 4 (.int .i64 st) (fv' := .slice none 0 0) (bv' := .slice none 0 0) (iv' := .slice none 0 0) (ov' := .slice none 0 0) (inp' := []) (out' := []) (st' := st) (tr' := 0) (by
    intro j hj
    match j, hj with
    | 0, _ => rfl | 1, _ => rfl | 2, _ => rfl | 3, _ => rfl | 4, _ => rfl | 5, _ => rfl) rfl rfl hm1.box.i hm1.box.o)
  have HC1 := Lib.hid (HB1.out.trans (((Only.refl M w1).setCell 4 (.int .i64 st)).below (by have := n4.out; have := HL.out; omega)))
  clear hf1 hst1 hg1 hm1
  go_wp2_with fail
  clear cO k14 z14 lM lO
  -- the trap
  refine (refOne_any _ S A K s a1 k1 HM1.out.rst hs).mono ?_
  rintro e w2 ⟨hf2, tr, v, a2, k2, rfl, ⟨rfl, -, -⟩, hst2, hg2⟩
  have HG2 := Lib.hid hg2
  have hm2 := HM1.out.read hf2 hst2
  have HB2 := Lib.hid (HC1.out.trans (hf2.below HC1.out.size (by have := HMO.out.low; have := HL.out; omega) (by have := HMO.out.low; have := HL.out; omega)))
  have k25 : w2.cell? ⟨M, 5, none⟩ = some (.int .i64 0) := hm2.box.row.cell (i := 5) (by decide)
  have z25 := hm2.box.row.frozen 5
  have lM := hm2.box.row.lt
  have HM2 := Lib.hid (hm2.write 5 (.int .i64 tr) (fv' := .slice none 0 0) (bv' := .slice none 0 0) (iv' := .slice none 0 0) (ov' := .slice none 0 0) (inp' := []) (out' := []) (st' := st) (tr' := tr) (by
    intro j hj
    match j, hj with
    | 0, _ => rfl | 1, _ => rfl | 2, _ => rfl | 3, _ => rfl | 4, _ => rfl | 5, _ => rfl) rfl rfl hm2.box.i hm2.box.o)
  have HC2 := Lib.hid (HB2.out.trans (((Only.refl M w2).setCell 5 (.int .i64 tr)).below (by have := n4.out; have := HL.out; omega)))
  clear hf2 hst2 hg2 hm2 m1 m1'
  go_wp2_with fail
  clear k25 z25 lM
  -- what came
  refine (refNumbers_any _ S A K O F s a2 k2 HM2.out.rst HM2.out.cl hs).mono ?_
  rintro e w3 ⟨hf3, inp, v, a3, k3, rfl, hmk3, hst3, hg3⟩
  obtain ⟨ia, ic, rfl⟩ := hmk3.open
  have HG3 := Lib.hid hg3
  have HI3 := Lib.hid hmk3.2
  have hm3 := HM2.out.read hf3 hst3
  have HB3 := Lib.hid (HC2.out.trans (hf3.below HC2.out.size (by have := HMO.out.low; have := HL.out; omega) (by have := HMO.out.low; have := HL.out; omega)))
  have k32 : w3.cell? ⟨M, 2, none⟩ = some (.slice none 0 0) := hm3.box.row.cell (i := 2) (by decide)
  have z32 := hm3.box.row.frozen 2
  have lM := hm3.box.row.lt
  have HM3 := Lib.hid (hm3.write 2 (.slice ia inp.length ic) (fv' := .slice none 0 0) (bv' := .slice none 0 0) (iv' := .slice ia inp.length ic) (ov' := .slice none 0 0) (inp' := inp) (out' := []) (st' := st) (tr' := tr) (by
    intro j hj
    match j, hj with
    | 0, _ => rfl | 1, _ => rfl | 2, _ => rfl | 3, _ => rfl | 4, _ => rfl | 5, _ => rfl) rfl rfl (owns_base hmk3.1 (Nat.le_of_lt HM2.out.box.row.lt)) hm3.box.o)
  have HC3 := Lib.hid (HB3.out.trans (((Only.refl M w3).setCell 2 (.slice ia inp.length ic)).below (by have := n4.out; have := HL.out; omega)))
  clear hf3 hst3 hg3 hm3 hmk3
  go_wp2_with fail
  clear k32 z32 lM
  -- what was sent
  refine (refNumbers_any _ S A K O F s a3 k3 HM3.out.rst HM3.out.cl hs).mono ?_
  rintro e w4 ⟨hf4, out, v, a4, k4, rfl, hmk4, hst4, hg4⟩
  obtain ⟨oa, oc, rfl⟩ := hmk4.open
  have HG4 := Lib.hid hg4
  have HI4 := Lib.hid hmk4.2
  have hm4 := HM3.out.read hf4 hst4
  have HB4 := Lib.hid (HC3.out.trans (hf4.below HC3.out.size (by have := HMO.out.low; have := HL.out; omega) (by have := HMO.out.low; have := HL.out; omega)))
  have k43 : w4.cell? ⟨M, 3, none⟩ = some (.slice none 0 0) := hm4.box.row.cell (i := 3) (by decide)
  have z43 := hm4.box.row.frozen 3
  have lM := hm4.box.row.lt
  have cO := hm4.cl.one.cell (i := 0) (by decide)
  have lO := hm4.cl.one.lt
  have m1 := n1.out
  have m1' := Ne.symm n1.out
  have HM4 := Lib.hid (hm4.write 3 (.slice oa out.length oc) (fv' := .slice none 0 0) (bv' := .slice none 0 0) (iv' := .slice ia inp.length ic) (ov' := .slice oa out.length oc) (inp' := inp) (out' := out) (st' := st) (tr' := tr) (by
    intro j hj
    match j, hj with
    | 0, _ => rfl | 1, _ => rfl | 2, _ => rfl | 3, _ => rfl | 4, _ => rfl | 5, _ => rfl) rfl rfl hm4.box.i (owns_base hmk4.1 (Nat.le_of_lt HM3.out.box.row.lt)))
  have HC4 := Lib.hid (HB4.out.trans (((Only.refl M w4).setCell 3 (.slice oa out.length oc)).below (by have := n4.out; have := HL.out; omega)))
  clear hf4 hst4 hg4 hm4 hmk4
  go_wp2_with fail
  clear cO k43 z43 lM lO m1 m1'
  -- how many blocks
  refine (refOne_any _ S A K s a4 k4 HM4.out.rst hs).mono ?_
  rintro e w5 ⟨hf5, n, v, a5, k5, rfl, ⟨rfl, hn0, hn1⟩, hst5, hg5⟩
  obtain ⟨N, rfl⟩ : ∃ N : Nat, n = (N : Int) := ⟨n.toNat, by omega⟩
  have HG5 := Lib.hid (Mz.gotL_start (f := Mz.rdSome Mz.rdFour) hg5)
  have HM5 := Lib.hid (HM4.out.read hf5 hst5)
  have HB5 := Lib.hid (HC4.out.trans (hf5.below HC4.out.size (by have := HMO.out.low; have := HL.out; omega) (by have := HMO.out.low; have := HL.out; omega)))
  clear hf5 hst5 hg5
  go_wp2_with fail
  go_loopw [12] (fun i wr => ∃ (bl : List (List Int)) (bps : List (List Int × Value)) (bv : Value) (a6 : Nat) (k6 : Bool), i = .int .i64 bl.length ∧ bl.length ≤ N ∧ Hid (bps.map (·.1) = bl) ∧ Hid (∀ b ∈ bl, b.length < 256) ∧ Hid (MO wr L S R A K O F M s a6 k6 [] bps inp out st tr (.slice none 0 0) bv (.slice ia inp.length ic) (.slice oa out.length oc)) ∧ Hid (Below w.heap.size w wr) ∧ Hid (Mz.GotL (Mz.rdSome Mz.rdFour) s a4 k4 (N : Int) bl a6 k6)) (fun i _ => N - (intOf i).toNat)
  case atStart => exact ⟨[], [], _, a5, k5, rfl, Nat.zero_le _, rfl, (fun b hb => by cases hb), HM5, HB5, HG5⟩
  case round =>
    obtain ⟨bl, bps, bv, a6, k6, rfl, hl, HBL, HB256, HM6, HB6, HG6⟩ := hrel
    have cK := HM6.out.rst.ok.cell (i := 0) (by decide)
    have lK := HM6.out.rst.ok.lt
    by_cases hgo : bl.length < N ∧ k6 = true
    · obtain ⟨hlt, rfl⟩ := hgo
      obtain ⟨ba, bc, rfl⟩ := owned_open HM6.out.box.b
      have c1 : wr.cell? ⟨M, 1, none⟩ = some (.slice ba bps.length bc) := HM6.out.box.row.cell (i := 1) (by decide)
      have z1 := HM6.out.box.row.frozen 1
      have lM := HM6.out.box.row.lt
      have hlw : M ≤ wr.heap.size := Nat.le_of_lt lM
      have hbl : bps.length ≤ 1000 := by
        have : bps.length = bl.length := by rw [← HBL.out]; simp
        omega
      go_wp2_with fail
      go_region_law ((first
        | (refine step_callc (by rfl) (by rfl) (by rfl) (enters_refNumbers _ _) (refNumbers_any _ S A K O F s a6 true (HM6.out.below ((Below.refl _ _).drew)).rst (HM6.out.below ((Below.refl _ _).drew)).cl hs) ?_; intro e w3 hres; obtain ⟨hf7, x, v0, a7, k7, rfl, hmk7, hst7, hg7⟩ := hres; obtain ⟨ua, uc, rfl⟩ := hmk7.open; refine ⟨_, rfl, ?_⟩; have HM7 := Lib.hid ((HM6.out.below ((Below.refl _ _).drew)).read hf7 hst7); have HF7 := Lib.hid (show Ra A K wr w3 from (Ra.of_below ((Below.refl _ _).drew)).trans hf7); have HU7 := Lib.hid (owns_base hmk7.1 hlw); have HX7 := Lib.hid hmk7.2; have HG7 := Lib.hid hg7; have c1' : w3.cell? ⟨M, 1, none⟩ = some (.slice ba bps.length bc) := HM7.out.box.row.cell (i := 1) (by decide); have z1' := HM7.out.box.row.frozen 1; have lM' := HM7.out.box.row.lt; clear hf7 hst7 hg7 hmk7)
        | (refine step_push_ints1 (by rfl) (by rfl) (by rfl) (HM7.out.below ((Below.refl _ _).alloc (Nat.le_refl _) (.cells #[.slice ua x.length uc] 27))).box.b (by rfl) (Sl.made w3 #[.slice ua x.length uc] 27 1 1 rfl (by omega) (by unfold maxLen; omega)) hbl (Nat.le_trans (Nat.le_of_lt lM') (by simp)) ?_; intro v' w' hown' hgr hb'; obtain ⟨va, vc', rfl⟩ := owned_open hown'; have HM8 := Lib.hid (HM7.out.below ((Below.refl _ _).alloc (Nat.le_refl _) (.cells #[.slice ua x.length uc] 27))); have HST := HM8.out.box.stayB hgr; have kk' : w'.cell? ⟨M, 1, none⟩ = some (.slice ba bps.length bc) := HST.cell (i := 1) (by decide); have z0' := HST.frozen 1; have HGR := Lib.hid hgr; have HBW := Lib.hid hb'; have HOWN := Lib.hid hown'; clear hgr hb' hown' HST)))
      all_goals
        have HU8 : (w3.alloc (.cells #[.slice ua x.length uc] 27)).ownsRow M 3 1 (.slice ua x.length uc) x.length (x.map (Value.int .i64)) :=
          owns_of_block HU7.out fun g hg => ((Below.refl _ _).alloc (Nat.le_refl _) (.cells #[.slice ua x.length uc] 27)).block g (HU7.out.lt g hg).2
        have hmo := HM8.out.pushB HGR.out HU8 HOWN.out
        have hBf : Below w.heap.size w (w'.setCell ⟨M, 1, none⟩ (.slice va (bps.length + 1) vc')) :=
          (HB6.out.trans (HF7.out.below HB6.out.size hlow.out.1 hlow.out.2.1)).trans ((((Below.refl _ _).alloc (Nat.le_trans HB6.out.size HF7.out.size) (.cells #[.slice ua x.length uc] 27)).trans (HBW.out.mono hlow.out.2.2.1)).trans (((Only.refl M w').setCell 1 _).below hlow.out.2.2.1))
        go_wp2_with fail
        go_roundw
        case rel => exact ⟨bl ++ [x], bps ++ [(x, .slice ua x.length uc)], _, a7, k7, by simp, by simp; omega, by unfold Hid; simp [HBL.out], (fun b hb => by
          rcases List.mem_append.1 hb with hb | hb
          · exact HB256.out b hb
          · obtain rfl : b = x := by simpa using hb
            exact HX7.out), Lib.hid hmo, Lib.hid hBf, Mz.gotL_step HG6.out (by omega) HG7.out⟩
        case measure => simp [intOf]; omega
    · have HG7 := Lib.hid (Mz.gotL_end HG6.out (by
        cases k6 with
        | false => exact .inr rfl
        | true => exact .inl (by have : ¬ bl.length < N := fun h => hgo ⟨h, rfl⟩; omega)))
      have hex : (bl.length < N ∧ k6 = false) ∨ ¬ bl.length < N := by
        cases k6 with
        | false =>
          by_cases h : bl.length < N
          · exact .inl ⟨h, rfl⟩
          · exact .inr h
        | true => exact .inr (fun h => hgo ⟨h, rfl⟩)
      obtain ⟨k7, hk7⟩ : ∃ k7, k7 = k6 := ⟨_, rfl⟩
      rw [← hk7] at HG7 HM6
      have HM7 := HM6
      have HK7 := Lib.hid hk7
      have cO := HM6.out.cl.one.cell (i := 0) (by decide)
      have lO := HM6.out.cl.one.lt
      clear hgo HM6 HG6 hk7
      rcases hex with ⟨hlt, rfl⟩ | hlt
      all_goals
        go_wp2_with fail
        clear cO lO
        refine (refOne_any wr S A K s a6 _ HM7.out.rst hs).mono ?_
        rintro e w5 ⟨hf5, n, v, a8, k8, rfl, ⟨rfl, hm0, hm1⟩, hst5, hg5⟩
        obtain ⟨N2, rfl⟩ : ∃ N2 : Nat, n = (N2 : Int) := ⟨n.toNat, by omega⟩
        have HG8 := Lib.hid (Mz.gotL_start (f := Mz.rdFrm) hg5)
        have HM8 := Lib.hid (HM7.out.read hf5 hst5)
        have HB8 := Lib.hid (HB6.out.trans (hf5.below HB6.out.size hlow.out.1 hlow.out.2.1))
        clear hf5 hst5 hg5
        go_wp2_with fail
        have HG8' : Hid (Mz.GotL Mz.rdFrm s a6 k7 (N2 : Int) [] a8 k8) := HG8
        go_loopw [13] (fun i wr => ∃ (fl : List Mz.Frm) (fps : List (Mz.Frm × Value × Value)) (fv : Value) (a9 : Nat) (k9 : Bool), i = .int .i64 fl.length ∧ fl.length ≤ N2 ∧ Hid (fps.map (·.1) = fl) ∧ Hid (∀ x ∈ fl, x.locals.length < 256 ∧ x.stack.length < 256) ∧ Hid (MO wr L S R A K O F M s a9 k9 fps bps inp out st tr fv bv (.slice ia inp.length ic) (.slice oa out.length oc)) ∧ Hid (Below w.heap.size w wr) ∧ Hid (Mz.GotL Mz.rdFrm s a6 k7 (N2 : Int) fl a9 k9)) (fun i _ => N2 - (intOf i).toNat)
        case atStart => exact ⟨[], [], _, a8, k8, rfl, Nat.zero_le _, rfl, (fun x hx => by cases hx), HM8, HB8, HG8'⟩
        case round =>
          obtain ⟨fl, fps, fv, a9, k9, rfl, hl2, HFL, HF256, HM9, HB9, HG9⟩ := hrel
          have cK := HM9.out.rst.ok.cell (i := 0) (by decide)
          have lK := HM9.out.rst.ok.lt
          by_cases hgo : fl.length < N2 ∧ k9 = true
          · obtain ⟨hlt2, rfl⟩ := hgo
            obtain ⟨fa, fc, rfl⟩ := owned_open HM9.out.box.f
            have hfl : fps.length ≤ 1000 := by
              have : fps.length = fl.length := by rw [← HFL.out]; simp
              omega
            have cO := HM9.out.cl.one.cell (i := 0) (by decide)
            have lO := HM9.out.cl.one.lt
            have lM := HM9.out.box.row.lt
            have HLT : Hid (S < wr.heap.size ∧ A < wr.heap.size ∧ K < wr.heap.size ∧ O < wr.heap.size ∧ M < wr.heap.size) := ⟨HM9.out.rst.str.lt, HM9.out.rst.at_.lt, HM9.out.rst.ok.lt, HM9.out.cl.one.lt, HM9.out.box.row.lt⟩
            go_wp2_with fail
            obtain ⟨X, hX⟩ : ∃ X, X = wr.heap.size := ⟨_, rfl⟩
            have hba := (Below.refl wr.heap.size wr).alloc (Nat.le_refl _) (.cells #[.int .i64 0, .int .i64 0, .slice none 0 0, .slice none 0 0] 97)
            have hm10 := HM9.out.below hba
            have hrow := row_ffld wr 0 0 none none 0 0 0 0
            rw [← hX] at hrow ⊢
            have HXX : Hid (wr.heap.size ≤ X ∧ S ≠ X ∧ A ≠ X ∧ K ≠ X ∧ O ≠ X ∧ M ≠ X) := by have := HLT.out; exact ⟨by omega, by omega, by omega, by omega, by omega, by omega⟩
            have hOX := HXX.out.2.2.2.2.1
            have hXO := Ne.symm hOX
            have hMX := HXX.out.2.2.2.2.2
            have hXM := Ne.symm hMX
            refine (refOne_any _ S A K s a9 true hm10.rst hs).mono ?_
            rintro e w10 ⟨hf10, fn, v, a10, k10, rfl, ⟨rfl, -, -⟩, hst10, hg10⟩
            have HG10 := Lib.hid hg10
            have hra10 : Ra A K wr w10 := (Ra.of_below hba).trans hf10
            have r10 := hf10.row hrow (Ne.symm HXX.out.2.2.1) (Ne.symm HXX.out.2.2.2.1)
            have k100 : w10.cell? ⟨X, 0, none⟩ = some (.int .i64 0) := r10.cell (i := 0) (by decide)
            have z100 := r10.frozen 0
            have lX := r10.lt
            have cO10 := (HM9.out.read hra10 hst10).cl.one.cell (i := 0) (by decide)
            have lO10 := (HM9.out.read hra10 hst10).cl.one.lt
            have HR10 := Lib.hid ((r10.set 0 (.int .i64 fn)).congr (g := ffld fn 0 (.slice none 0 0) (.slice none 0 0)) (fun j hj => by
              match j, hj with
              | 0, _ => rfl | 1, _ => rfl | 2, _ => rfl | 3, _ => rfl))
            have HA10 := Lib.hid (hra10.set_new HXX.out.1 0 (.int .i64 fn))
            have HS10 := Lib.hid (hst10.set_other X 0 (.int .i64 fn) HXX.out.2.1 HXX.out.2.2.1 HXX.out.2.2.2.1)
            clear hf10 hst10 hg10 hra10 r10 hrow hm10 hba cO lO lM hX
            go_wp2_with fail
            clear k100 z100 lX cO10 lO10
            -- the place
            refine (refOne_any _ S A K s a10 k10 HS10.out hs).mono ?_
            rintro e w11 ⟨hf11, pc, v, a11, k11, rfl, ⟨rfl, -, -⟩, hst11, hg11⟩
            have HG11 := Lib.hid hg11
            have hra11 : Ra A K wr w11 := HA10.out.trans hf11
            have r11 := hf11.row HR10.out (Ne.symm HXX.out.2.2.1) (Ne.symm HXX.out.2.2.2.1)
            have k111 : w11.cell? ⟨X, 1, none⟩ = some (.int .i64 0) := r11.cell (i := 1) (by decide)
            have z111 := r11.frozen 1
            have lX := r11.lt
            have HR11 := Lib.hid ((r11.set 1 (.int .i64 pc)).congr (g := ffld fn pc (.slice none 0 0) (.slice none 0 0)) (fun j hj => by
              match j, hj with
              | 0, _ => rfl | 1, _ => rfl | 2, _ => rfl | 3, _ => rfl))
            have HA11 := Lib.hid (hra11.set_new HXX.out.1 1 (.int .i64 pc))
            have HS11 := Lib.hid (hst11.set_other X 1 (.int .i64 pc) HXX.out.2.1 HXX.out.2.2.1 HXX.out.2.2.2.1)
            clear hf11 hst11 hg11 hra11 r11
            go_wp2_with fail
            clear k111 z111 lX
            -- the locals
            refine (refValues_any _ S A K O F s a11 k11 HS11.out (HM9.out.read HA11.out HS11.out).cl hs).mono ?_
            rintro e w12 ⟨hf12, ls, v, a12, k12, rfl, hmk12, hst12, hg12⟩
            obtain ⟨la, lc, rfl⟩ := hmk12.open
            have HG12 := Lib.hid hg12
            have HI12 := Lib.hid hmk12.2
            have hra12 : Ra A K wr w12 := HA11.out.trans hf12
            have r12 := hf12.row HR11.out (Ne.symm HXX.out.2.2.1) (Ne.symm HXX.out.2.2.2.1)
            have k122 : w12.cell? ⟨X, 2, none⟩ = some (.slice none 0 0) := r12.cell (i := 2) (by decide)
            have z122 := r12.frozen 2
            have lX := r12.lt
            have HR12 := Lib.hid ((r12.set 2 (.slice la ls.length lc)).congr (g := ffld fn pc (.slice la ls.length lc) (.slice none 0 0)) (fun j hj => by
              match j, hj with
              | 0, _ => rfl | 1, _ => rfl | 2, _ => rfl | 3, _ => rfl))
            have HA12 := Lib.hid (hra12.set_new HXX.out.1 2 (.slice la ls.length lc))
            have HS12 := Lib.hid (hst12.set_other X 2 (.slice la ls.length lc) HXX.out.2.1 HXX.out.2.2.1 HXX.out.2.2.2.1)
            have HL12 := Lib.hid ((Bes.of_set r12 2 (.slice la ls.length lc)).owns (owns_base (base' := M) hmk12.1 (Nat.le_trans (Nat.le_of_lt HLT.out.2.2.2.2) HA11.out.size)) (by decide))
            clear hf12 hst12 hg12 hra12 r12 hmk12
            go_wp2_with fail
            clear k122 z122 lX
            -- the stack
            refine (refValues_any _ S A K O F s a12 k12 HS12.out (HM9.out.read HA12.out HS12.out).cl hs).mono ?_
            rintro e w13 ⟨hf13, ks, v, a13, k13, rfl, hmk13, hst13, hg13⟩
            obtain ⟨ka, kc, rfl⟩ := hmk13.open
            have HG13 := Lib.hid hg13
            have HI13 := Lib.hid hmk13.2
            have hra13 : Ra A K wr w13 := HA12.out.trans hf13
            have r13 := hf13.row HR12.out (Ne.symm HXX.out.2.2.1) (Ne.symm HXX.out.2.2.2.1)
            have k130 : w13.cell? ⟨X, 0, none⟩ = some (.int .i64 fn) := r13.cell (i := 0) (by decide)
            have k131 : w13.cell? ⟨X, 1, none⟩ = some (.int .i64 pc) := r13.cell (i := 1) (by decide)
            have k132 : w13.cell? ⟨X, 2, none⟩ = some (.slice la ls.length lc) := r13.cell (i := 2) (by decide)
            have k133 : w13.cell? ⟨X, 3, none⟩ = some (.slice none 0 0) := r13.cell (i := 3) (by decide)
            have z133 := r13.frozen 3
            have lX := r13.lt
            have HA13 := Lib.hid (hra13.set_new HXX.out.1 3 (.slice ka ks.length kc))
            have HS13 := Lib.hid (hst13.set_other X 3 (.slice ka ks.length kc) HXX.out.2.1 HXX.out.2.2.1 HXX.out.2.2.2.1)
            have HL13 := Lib.hid ((Bes.of_set r13 3 (.slice ka ks.length kc)).owns (hf13.owns HL12.out n5.out.2.2.1 n5.out.2.2.2) (by decide))
            have HK13 := Lib.hid ((Bes.of_set r13 3 (.slice ka ks.length kc)).owns (owns_base (base' := M) hmk13.1 (Nat.le_trans (Nat.le_of_lt HLT.out.2.2.2.2) HA12.out.size)) (by decide))
            have HM13 := Lib.hid (HM9.out.read HA13.out HS13.out)
            have hm13 := HM9.out.read hra13 hst13
            have m13 : w13.cell? ⟨M, 0, none⟩ = some (.slice fa fps.length fc) := hm13.box.row.cell (i := 0) (by decide)
            have y13 := hm13.box.row.frozen 0
            have lM := hm13.box.row.lt
            have HSL : Hid (Sl ((w13.setCell ⟨X, 3, none⟩ (.slice ka ks.length kc)).alloc (.cells #[.int .i64 fn, .int .i64 pc, .slice la ls.length lc, .slice ka ks.length kc] 97)) (w13.heap.size + 1) (.slice (some ⟨w13.heap.size, 0, none⟩) 1 1) 1 4 [.int .i64 fn, .int .i64 pc, .slice la ls.length lc, .slice ka ks.length kc]) := by
              have h := Sl.made (w13.setCell ⟨X, 3, none⟩ (.slice ka ks.length kc)) #[.int .i64 fn, .int .i64 pc, .slice la ls.length lc, .slice ka ks.length kc] 97 1 4 rfl (by omega) (by unfold maxLen; omega)
              have e : (w13.setCell ⟨X, 3, none⟩ (.slice ka ks.length kc)).heap.size = w13.heap.size := ((Only.refl X w13).setCell 3 _).size
              rw [e] at h
              exact h
            have HWM : Hid (M ≤ (w13.setCell ⟨X, 3, none⟩ (.slice ka ks.length kc)).heap.size) := Nat.le_of_lt HM13.out.box.row.lt
            clear hf13 hst13 hg13 hra13 r13 hmk13 hm13
            go_wp2_with (at_builtin; refine push_frm rfl rfl rfl (HM13.out.below ((Below.refl _ _).alloc (Nat.le_refl _) _)).box.f rfl HSL.out hfl (Nat.le_trans HWM.out ((Below.refl _ _).alloc (Nat.le_refl _) _).size) ?_; intro v' w' hown' hgr hb'; obtain ⟨va, vc', rfl⟩ := owned_open hown'; have HST := (HM13.out.below ((Below.refl _ _).alloc (Nat.le_refl _) (.cells #[.int .i64 fn, .int .i64 pc, .slice la ls.length lc, .slice ka ks.length kc] 97))).box.stayF hgr; have kk' : w'.cell? ⟨M, 0, none⟩ = some (.slice fa fps.length fc) := HST.cell (i := 0) (by decide); have z0' := HST.frozen 0; have HGR := Lib.hid hgr; have HBW := Lib.hid hb'; have HOWN := Lib.hid hown'; clear hgr hb' hown' HST)
            have hbb := (Below.refl (w13.setCell ⟨X, 3, none⟩ (.slice ka ks.length kc)).heap.size (w13.setCell ⟨X, 3, none⟩ (.slice ka ks.length kc))).alloc (Nat.le_refl _) (.cells #[.int .i64 fn, .int .i64 pc, .slice la ls.length lc, .slice ka ks.length kc] 97)
            have HM14 := HM13.out.below hbb
            have HK14 := owns_of_block HK13.out fun g hg => hbb.block g (HK13.out.lt g hg).2
            have HL14 := owns_of_block HL13.out fun g hg => hbb.block g (HL13.out.lt g hg).2
            have hmo := HM14.pushF HGR.out (x := (⟨fn, pc, ls, ks⟩, .slice la ls.length lc, .slice ka ks.length kc)) ⟨HL14, HK14⟩ HOWN.out
            have hBf := (HB9.out.trans (HA13.out.below HB9.out.size hlow.out.1 hlow.out.2.1)).trans ((hbb.mono (Nat.le_trans hlow.out.2.2.1 HWM.out)).trans ((HBW.out.mono hlow.out.2.2.1).trans (((Only.refl M w').setCell 0 (.slice va (fps.length + 1) vc')).below hlow.out.2.2.1)))
            have hgg := Mz.gotL_step HG9.out (by omega) (Mz.got_frm HG10.out HG11.out HG12.out HG13.out)
            go_roundw
            case rel => exact ⟨fl ++ [(⟨fn, pc, ls, ks⟩ : Mz.Frm)], fps ++ [((⟨fn, pc, ls, ks⟩ : Mz.Frm), .slice la ls.length lc, .slice ka ks.length kc)], _, a13, k13, by simp, by simp; omega, by unfold Hid; simp [HFL.out], (fun x hx => by
              rcases List.mem_append.1 hx with hx | hx
              · exact HF256.out x hx
              · obtain rfl : x = (⟨fn, pc, ls, ks⟩ : Mz.Frm) := by simpa using hx
                exact ⟨HI12.out, HI13.out⟩), Lib.hid hmo, Lib.hid hBf, hgg⟩
            case measure => simp [intOf]; omega
          · have HG10 := Lib.hid (Mz.gotL_end HG9.out (by
              cases k9 with
              | false => exact .inr rfl
              | true => exact .inl (by have : ¬ fl.length < N2 := fun h => hgo ⟨h, rfl⟩; omega)))
            have hex2 : (fl.length < N2 ∧ k9 = false) ∨ (¬ fl.length < N2 ∧ k9 = false) ∨ (¬ fl.length < N2 ∧ k9 = true) := by
              cases k9 with
              | false =>
                by_cases h : fl.length < N2
                · exact .inl ⟨h, rfl⟩
                · exact .inr (.inl ⟨h, rfl⟩)
              | true => exact .inr (.inr ⟨fun h => hgo ⟨h, rfl⟩, rfl⟩)
            have HGA := Lib.hid (Mz.got_mach HG1.out HG2.out HG3.out HG4.out HG7.out HG10.out)
            have HM10 := HM9
            have HB10 := HB9
            obtain ⟨q0, q1, q2, q3, q4, q5⟩ := And.intro (HM9.out.res.cell (i := 0) (by decide)) (And.intro (HM9.out.res.cell (i := 1) (by decide)) (And.intro (HM9.out.res.cell (i := 2) (by decide)) (And.intro (HM9.out.res.cell (i := 3) (by decide)) (And.intro (HM9.out.res.cell (i := 4) (by decide)) (HM9.out.res.cell (i := 5) (by decide))))))
            dsimp only [mfld] at q0 q1 q2 q3 q4 q5
            have z0 := HM9.out.res.frozen 0
            have z1 := HM9.out.res.frozen 1
            have z2 := HM9.out.res.frozen 2
            have z3 := HM9.out.res.frozen 3
            have z4 := HM9.out.res.frozen 4
            have z5 := HM9.out.res.frozen 5
            have lR := HM9.out.res.lt
            have cA := HM9.out.rst.at_.cell (i := 0) (by decide)
            have lA := HM9.out.rst.at_.lt
            obtain ⟨ba, bc, rfl⟩ := owned_open HM9.out.box.b
            obtain ⟨fa, fc, rfl⟩ := owned_open HM9.out.box.f
            have p0 : wr.cell? ⟨M, 0, none⟩ = some (.slice fa fps.length fc) := HM9.out.box.row.cell (i := 0) (by decide)
            have p1 : wr.cell? ⟨M, 1, none⟩ = some (.slice ba bps.length bc) := HM9.out.box.row.cell (i := 1) (by decide)
            have p2 : wr.cell? ⟨M, 2, none⟩ = some (.slice ia inp.length ic) := HM9.out.box.row.cell (i := 2) (by decide)
            have p3 : wr.cell? ⟨M, 3, none⟩ = some (.slice oa out.length oc) := HM9.out.box.row.cell (i := 3) (by decide)
            have p4 : wr.cell? ⟨M, 4, none⟩ = some (.int .i64 st) := HM9.out.box.row.cell (i := 4) (by decide)
            have p5 : wr.cell? ⟨M, 5, none⟩ = some (.int .i64 tr) := HM9.out.box.row.cell (i := 5) (by decide)
            have lM := HM9.out.box.row.lt
            have cS := HM9.out.rst.str.cell (i := 0) (by decide)
            have lS := HM9.out.rst.str.lt
            clear hgo HG9 HG10
            rcases hex2 with ⟨hlt2, rfl⟩ | ⟨hlt2, rfl⟩ | ⟨hlt2, rfl⟩
            · go_wp2_with fail
              obtain ⟨on, d0, d1, d2, d3, d4, d5⟩ := set_six HM10.out.res (.slice none 0 0) (.slice none 0 0) (.slice none 0 0) (.slice none 0 0) (.int .i64 0) (.int .i64 0)
              refine bodyPost_ret (by simp [results, Tryz.results18, go_sem, d0, d1, d2, d3, d4, d5]; try rfl) rfl ?_
              exact ⟨by rw [HL.out]; exact HB10.out.trans (on.below hlow.out.2.2.2), .inr ⟨Mz.got_lost HGA.out, rfl⟩⟩
            · go_wp2_with fail
              obtain ⟨on, d0, d1, d2, d3, d4, d5⟩ := set_six HM10.out.res (.slice none 0 0) (.slice none 0 0) (.slice none 0 0) (.slice none 0 0) (.int .i64 0) (.int .i64 0)
              refine bodyPost_ret (by simp [results, Tryz.results18, go_sem, d0, d1, d2, d3, d4, d5]; try rfl) rfl ?_
              exact ⟨by rw [HL.out]; exact HB10.out.trans (on.below hlow.out.2.2.2), .inr ⟨Mz.got_lost HGA.out, rfl⟩⟩
            · by_cases hat : a9 < s.length
              · have HAT : Hid (Mz.machOf s = none) := by unfold Hid; rw [Mz.got_all HGA.out, if_pos hat]
                go_wp2_with fail
                obtain ⟨on, d0, d1, d2, d3, d4, d5⟩ := set_six HM10.out.res (.slice none 0 0) (.slice none 0 0) (.slice none 0 0) (.slice none 0 0) (.int .i64 0) (.int .i64 0)
                refine bodyPost_ret (by simp [results, Tryz.results18, go_sem, d0, d1, d2, d3, d4, d5]; try rfl) rfl ?_
                exact ⟨by rw [HL.out]; exact HB10.out.trans (on.below hlow.out.2.2.2), .inr ⟨HAT.out, rfl⟩⟩
              · have HAT : Hid (Mz.machOf s = some ⟨fl, bl, inp, out, st, tr⟩) := by unfold Hid; rw [Mz.got_all HGA.out, if_neg hat]
                have HSM : Hid (smallMach ⟨fl, bl, inp, out, st, tr⟩) := ⟨HI3.out, HI4.out, show bl.length < 256 by omega, show fl.length < 256 by omega, HB256.out, HF256.out⟩
                go_wp2_with fail
                obtain ⟨on, d0, d1, d2, d3, d4, d5⟩ := set_six HM10.out.res (.slice fa fps.length fc) (.slice ba bps.length bc) (.slice ia inp.length ic) (.slice oa out.length oc) (.int .i64 st) (.int .i64 tr)
                have hm := HM10.out.box.made (Bes.of_only HM10.out.res on) n4.out.2.2
                rw [HFL.out, HBL.out] at hm
                refine bodyPost_ret (by simp [results, Tryz.results18, go_sem, d0, d1, d2, d3, d4, d5]; try rfl) rfl ?_
                exact ⟨by rw [HL.out]; exact HB10.out.trans (on.below hlow.out.2.2.2), .inl ⟨⟨fl, bl, inp, out, st, tr⟩, by first | exact ⟨_, HAT.out, rfl, hm, HSM.out⟩ | exact ⟨HAT.out, _, rfl, hm, HSM.out⟩⟩⟩
end Go.Proofs.YthdomhejkbpabaaGreat
