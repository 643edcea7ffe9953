/- Lemmas: Writer3, BytesOf, Take, Number, Read. -/
import Derived.Test.YthdomhejkbpabaaGreatG22
import Derived.Lib.Bytes
import Derived.Laws.BitsAllLaws
set_option linter.unusedVariables false
set_option linter.unusedSimpArgs false
/- The program's writer: lists of values. -/
namespace Go.Proofs.YthdomhejkbpabaaGreat
open Go.RowKit

def refN (v : Mz.Val) : Int := if v.ref then 1 else 0
theorem valB_eq (v : Mz.Val) : Mz.valB v = [refN v].map Mz.byteOf ++ Mz.fourOf v.n := rfl

set_option maxHeartbeats 4000000 in
set_option maxRecDepth 100000 in
theorem writeValues_any (w : World) (lo wb : Nat) (l : List UInt8) (v : Value) (vs : List Mz.Val) (h : Wr w lo wb l) (hr : RVals w lo v vs) (hl : l.length ≤ 970000) (hn : vs.length ≤ 1000) (hlo : lo ≤ w.heap.size) :
    Calls Tryz.prog 101 #[.pointer (some ⟨wb, 0, none⟩), v] w fun e w' => e = .returned (.tuple #[]) ∧ Wr w' lo wb (l ++ Mz.valuesB vs) ∧ Fw lo wb w w' := by
  obtain ⟨ao, c, rfl, h1, h2, h3⟩ := hr.open
  unfold maxLen at h2
  have HW := Lib.hid h
  have HR := Lib.hid hr
  clear h hr
  go_enter Tryz.func101, Tryz.ntmps101
  go_wp2_with fail
  refine (writeOne_any _ lo wb w.heap.size l [(vs.length : Int)] (HW.out.frame ((Below.refl _ _).alloc (Nat.le_refl _) _)) (row_one w _) (by omega) (by simp) (by simp; omega)).mono ?_
  rintro e w1 ⟨rfl, hw1, hf1⟩
  have HW1 := Lib.hid hw1
  have HF1 : Hid (Fw lo wb w w1) := (Fw.of_below ((Below.refl _ _).alloc (Nat.le_refl _) _) hlo).trans hf1
  clear hw1 hf1
  go_wp2_with fail
  go_loopw [14] (fun i wr => ∃ k : Nat, k ≤ vs.length ∧ i = .int .i64 k ∧ Wr wr lo wb (l ++ someTo Mz.valB vs k) ∧ Fw lo wb w wr) (fun i _ => vs.length - (intOf i).toNat)
  case atStart => exact ⟨0, Nat.zero_le _, rfl, HW1.out, HF1.out⟩
  case round =>
    obtain ⟨k, hk, rfl, hwr, hfw⟩ := hrel
    by_cases hlt : k < vs.length
    · obtain ⟨b, o, rfl, hbB, q0, q1⟩ := (HR.out.frame hfw.below).at hlt
      have HWR := Lib.hid hwr
      have HFW := Lib.hid hfw
      have hlw : lo ≤ wr.heap.size := Nat.le_trans hlo hfw.below.size
      have hbs : b < wr.heap.size := by omega
      have hl1 : (l ++ someTo Mz.valB vs k).length ≤ 980000 := by
        have := someTo_len (l := vs) (f := Mz.valB) (c := 5) valB_len k
        simp only [List.length_append]; omega
      have hs : Hid (l ++ someTo Mz.valB vs (k + 1) = ((l ++ someTo Mz.valB vs k) ++ [refN (nth vs k)].map Mz.byteOf) ++ Mz.fourOf (nth vs k).n) := by
        unfold Hid; rw [someTo_succ hlt, valB_eq]; simp only [List.append_assoc]
      obtain ⟨x, hx⟩ : ∃ x, x = nth vs k := ⟨_, rfl⟩
      rw [← hx] at q0 q1 hs
      obtain ⟨L, hL⟩ : ∃ L, L = l ++ someTo Mz.valB vs k := ⟨_, rfl⟩
      rw [← hL] at HWR hl1 hs
      clear hwr hfw hx hL
      have hlf : (k : Int) < (vs.length : Int) := by omega
      obtain ⟨r, n⟩ := x
      cases r
      · have hs' : Hid (l ++ someTo Mz.valB vs (k + 1) = (L ++ [(0 : Int)].map Mz.byteOf) ++ Mz.fourOf n) := hs
        have hrow : (wr.alloc (.cells #[.bool false, .int .i64 n] 103)).rowIs wr.heap.size 103 2 (fun i => if i = 0 then .bool false else .int .i64 n) :=
          World.rowIs_alloc wr #[.bool false, .int .i64 n] 103 _ (fun i hi => by
            have : i = 0 ∨ i = 1 := by simp at hi; omega
            rcases this with rfl | rfl <;> rfl)
        have hb0 : Below wr.heap.size wr (wr.alloc (.cells #[.bool false, .int .i64 n] 103)) := (Below.refl _ _).alloc (Nat.le_refl _) _
        have hb1 : Below (wr.heap.size + 1) (wr.alloc (.cells #[.bool false, .int .i64 n] 103)) ((wr.alloc (.cells #[.bool false, .int .i64 n] 103)).alloc (.cells #[.int .i64 0] 3)) := (Below.refl _ _).alloc (by simp) _
        have HROW : Hid (((wr.alloc (.cells #[.bool false, .int .i64 n] 103)).alloc (.cells #[.int .i64 0] 3)).rowIs wr.heap.size 103 2 (fun i => if i = 0 then .bool false else .int .i64 n)) := hrow.of_block (hb1.block _ (by omega))
        have HB0 := Lib.hid (hb0.trans (hb1.mono (by omega)))
        have HNEV := Lib.hid (Nat.ne_of_gt (HWR.out.cells.choose_spec.choose_spec.2.2.2.1))
        clear hrow hb0 hb1 hs
        go_wp2_with fail
        refine (writeOne_any _ lo wb (wr.heap.size + 1) L [0] (HWR.out.frame HB0.out) (by have := row_one (wr.alloc (.cells #[.bool false, .int .i64 n] 103)) 0; simpa using this) (by omega) (by simp) (by simp; omega)).mono ?_
        rintro e w2 ⟨rfl, hw2, hf2⟩
        have hrow2 := hf2.row HROW.out HNEV.out (by decide)
        have hF2 : Fw lo wb wr w2 := (Fw.of_below HB0.out hlw).trans hf2
        obtain ⟨vo, vc, c0, z0, ho, hwb, hne⟩ := hw2.cells
        have x1 : w2.cell? ⟨wr.heap.size, 1, none⟩ = some (.int .i64 n) := hrow2.cell (i := 1) (by decide)
        have hxs := hrow2.lt
        have HWR2 := Lib.hid hw2
        have HF2 := Lib.hid hF2
        have HO := Lib.hid ho
        have HNE := Lib.hid hne
        have hlw2 : lo ≤ w2.heap.size := Nat.le_trans hlw hF2.below.size
        obtain ⟨M, hM⟩ : ∃ M, M = L ++ [(0 : Int)].map Mz.byteOf := ⟨_, rfl⟩
        have hM1 : M.length ≤ 980001 := by rw [hM]; simp; omega
        rw [← hM] at c0 HWR2 HO HNE hs'
        clear hw2 hf2 hrow2 hF2 ho hne hM q0 q1
        go_wp2_with fail
        go_region_law ((first
            | (refine step_call1 (by rfl) (by rfl) enters_four (by rfl) (opFour_any n _) ?_; rintro e w3 ⟨rfl, hb3⟩; refine ⟨_, rfl, ?_⟩; have HB3 := Lib.hid (show Below w2.heap.size w2 w3 from ((Below.refl _ _).drew).trans hb3); have kk : w3.cell? ⟨wb, 0, none⟩ = some (.slice vo M.length vc) := ((bcell HB3.out).1 _ _ hwb).trans c0; clear hb3)
            | (refine step_push_str (b := Mz.fourOf n) (by rfl) (by rfl) (by rfl) (owns_of_block HO.out fun g hg => HB3.out.block g (HO.out.lt g hg).2) (by rfl) (by have := four_len n; omega) (Nat.le_trans hlw2 HB3.out.size) ?_; intro v' w' hown' hgr hb'; have hsame : w'.heap[wb]? = w3.heap[wb]? := hgr.block wb (Nat.lt_of_lt_of_le hwb HB3.out.size) (fun e => HNE.out e.symm); have kk' := (World.cell?_of_block (a := ⟨wb, 0, none⟩) hsame).trans kk; have z0' := (World.frozen?_of_block (a := ⟨wb, 0, none⟩) hsame).trans (((bcell HB3.out).2 _ _ hwb).trans z0); clear hsame; obtain ⟨va, vc', rfl⟩ := owned_open hown')))
        all_goals
          have HST := Lib.hid ((HWR2.out.frame HB3.out).store (l' := M ++ Mz.fourOf n) kk hgr hb' (by rw [List.length_append, List.map_append]; exact hown'))
          have HF3 : Hid (Fw lo wb w2 w3) := Fw.of_below HB3.out hlw2
          clear hgr hb' hown' kk kk' z0' c0 z0 x1
          go_wp2_with fail
          go_roundw
          case rel => exact ⟨k + 1, by omega, by go_num, by rw [hs'.out]; simpa using HST.out.1, HFW.out.trans (HF2.out.trans (HF3.out.trans (by simpa using HST.out.2)))⟩
          case measure => simp [intOf]; omega
      · have hs' : Hid (l ++ someTo Mz.valB vs (k + 1) = (L ++ [(1 : Int)].map Mz.byteOf) ++ Mz.fourOf n) := hs
        have hrow : (wr.alloc (.cells #[.bool true, .int .i64 n] 103)).rowIs wr.heap.size 103 2 (fun i => if i = 0 then .bool true else .int .i64 n) :=
          World.rowIs_alloc wr #[.bool true, .int .i64 n] 103 _ (fun i hi => by
            have : i = 0 ∨ i = 1 := by simp at hi; omega
            rcases this with rfl | rfl <;> rfl)
        have hb0 : Below wr.heap.size wr (wr.alloc (.cells #[.bool true, .int .i64 n] 103)) := (Below.refl _ _).alloc (Nat.le_refl _) _
        have hb1 : Below (wr.heap.size + 1) (wr.alloc (.cells #[.bool true, .int .i64 n] 103)) ((wr.alloc (.cells #[.bool true, .int .i64 n] 103)).alloc (.cells #[.int .i64 1] 3)) := (Below.refl _ _).alloc (by simp) _
        have HROW : Hid (((wr.alloc (.cells #[.bool true, .int .i64 n] 103)).alloc (.cells #[.int .i64 1] 3)).rowIs wr.heap.size 103 2 (fun i => if i = 0 then .bool true else .int .i64 n)) := hrow.of_block (hb1.block _ (by omega))
        have HB0 := Lib.hid (hb0.trans (hb1.mono (by omega)))
        have HNEV := Lib.hid (Nat.ne_of_gt (HWR.out.cells.choose_spec.choose_spec.2.2.2.1))
        clear hrow hb0 hb1 hs
        go_wp2_with fail
        refine (writeOne_any _ lo wb (wr.heap.size + 1) L [1] (HWR.out.frame HB0.out) (by have := row_one (wr.alloc (.cells #[.bool true, .int .i64 n] 103)) 1; simpa using this) (by omega) (by simp) (by simp; omega)).mono ?_
        rintro e w2 ⟨rfl, hw2, hf2⟩
        have hrow2 := hf2.row HROW.out HNEV.out (by decide)
        have hF2 : Fw lo wb wr w2 := (Fw.of_below HB0.out hlw).trans hf2
        obtain ⟨vo, vc, c0, z0, ho, hwb, hne⟩ := hw2.cells
        have x1 : w2.cell? ⟨wr.heap.size, 1, none⟩ = some (.int .i64 n) := hrow2.cell (i := 1) (by decide)
        have hxs := hrow2.lt
        have HWR2 := Lib.hid hw2
        have HF2 := Lib.hid hF2
        have HO := Lib.hid ho
        have HNE := Lib.hid hne
        have hlw2 : lo ≤ w2.heap.size := Nat.le_trans hlw hF2.below.size
        obtain ⟨M, hM⟩ : ∃ M, M = L ++ [(1 : Int)].map Mz.byteOf := ⟨_, rfl⟩
        have hM1 : M.length ≤ 980001 := by rw [hM]; simp; omega
        rw [← hM] at c0 HWR2 HO HNE hs'
        clear hw2 hf2 hrow2 hF2 ho hne hM q0 q1
        go_wp2_with fail
        go_region_law ((first
            | (refine step_call1 (by rfl) (by rfl) enters_four (by rfl) (opFour_any n _) ?_; rintro e w3 ⟨rfl, hb3⟩; refine ⟨_, rfl, ?_⟩; have HB3 := Lib.hid (show Below w2.heap.size w2 w3 from ((Below.refl _ _).drew).trans hb3); have kk : w3.cell? ⟨wb, 0, none⟩ = some (.slice vo M.length vc) := ((bcell HB3.out).1 _ _ hwb).trans c0; clear hb3)
            | (refine step_push_str (b := Mz.fourOf n) (by rfl) (by rfl) (by rfl) (owns_of_block HO.out fun g hg => HB3.out.block g (HO.out.lt g hg).2) (by rfl) (by have := four_len n; omega) (Nat.le_trans hlw2 HB3.out.size) ?_; intro v' w' hown' hgr hb'; have hsame : w'.heap[wb]? = w3.heap[wb]? := hgr.block wb (Nat.lt_of_lt_of_le hwb HB3.out.size) (fun e => HNE.out e.symm); have kk' := (World.cell?_of_block (a := ⟨wb, 0, none⟩) hsame).trans kk; have z0' := (World.frozen?_of_block (a := ⟨wb, 0, none⟩) hsame).trans (((bcell HB3.out).2 _ _ hwb).trans z0); clear hsame; obtain ⟨va, vc', rfl⟩ := owned_open hown')))
        all_goals
          have HST := Lib.hid ((HWR2.out.frame HB3.out).store (l' := M ++ Mz.fourOf n) kk hgr hb' (by rw [List.length_append, List.map_append]; exact hown'))
          have HF3 : Hid (Fw lo wb w2 w3) := Fw.of_below HB3.out hlw2
          clear hgr hb' hown' kk kk' z0' c0 z0 x1
          go_wp2_with fail
          go_roundw
          case rel => exact ⟨k + 1, by omega, by go_num, by rw [hs'.out]; simpa using HST.out.1, HFW.out.trans (HF2.out.trans (HF3.out.trans (by simpa using HST.out.2)))⟩
          case measure => simp [intOf]; omega
    · obtain rfl : k = vs.length := by omega
      go_wp2_with fail
      go_end0
      exact ⟨rfl, by rw [someTo_end] at hwr; exact hwr, hfw⟩
end Go.Proofs.YthdomhejkbpabaaGreat

/- A machine's bytes, of the program. -/
namespace Go.Proofs.YthdomhejkbpabaaGreat
open Go.RowKit

theorem row_frame (w : World) (x y : Int) (u v : Value) : (w.alloc (.cells #[.int .i64 x, .int .i64 y, u, v] 97)).rowIs w.heap.size 97 4 (fun i => if i = 0 then .int .i64 x else if i = 1 then .int .i64 y else if i = 2 then u else v) :=
  World.rowIs_alloc w #[.int .i64 x, .int .i64 y, u, v] 97 _ (fun i hi => by
    have : i = 0 ∨ i = 1 ∨ i = 2 ∨ i = 3 := by simp at hi; omega
    rcases this with rfl | rfl | rfl | rfl <;> rfl)
theorem row_two (w : World) (x y : Int) : (w.alloc (.cells #[.int .i64 x, .int .i64 y] 3)).rowIs w.heap.size 3 [x, y].length (fun i => .int .i64 (nth [x, y] i)) :=
  World.rowIs_alloc w #[.int .i64 x, .int .i64 y] 3 _ (fun i hi => by
    have : i = 0 ∨ i = 1 := by simp at hi; omega
    rcases this with rfl | rfl <;> rfl)
/-- what is written of the first k of a list, without how many there are -/
def flatTo {α : Type} (f : α → List UInt8) (l : List α) (k : Nat) : List UInt8 := (l.take k).flatMap f
theorem flatTo_succ {α : Type} [Inhabited α] {f : α → List UInt8} {l : List α} {k : Nat} (h : k < l.length) : flatTo f l (k + 1) = flatTo f l k ++ f (nth l k) := flat_take h
theorem someTo_flat {α : Type} {f : α → List UInt8} {l : List α} {k : Nat} : someTo f l k = [Mz.byteOf l.length] ++ flatTo f l k := rfl
/-- a writer that has bytes can be read whole -/
theorem Wr.conv {w : World} {lo wb : Nat} {l : List UInt8} (h : Wr w lo wb l) (hl : 0 < l.length) : ∃ g c, w.cell? ⟨wb, 0, none⟩ = some (.slice (some ⟨g, 0, none⟩) l.length c) ∧ (convert 132 9 (.slice (some ⟨g, 0, none⟩) l.length c)).run Tryz.prog w = .ok (Str l) w := by
  obtain ⟨ao, c, c0, _, ho, _, _⟩ := h.cells
  rcases ho.2 with ⟨h1, h2⟩ | ⟨g, cap, cur, h1, _, hg, _⟩
  · omega
  · have h1' := h1
    simp only [Value.slice.injEq] at h1
    obtain ⟨rfl, _, rfl⟩ := h1
    refine ⟨g, c, c0, run_convert_bytes_back _ 132 9 5 _ _ l Tryz.underlying132 Tryz.underlying5 Tryz.underlying9 fun j hj => ?_⟩
    exact World.ownsRow.cells ho (g := g) rfl j _ (by rw [List.getElem?_map, List.getElem?_eq_getElem hj]; rfl)

set_option maxHeartbeats 4000000 in
set_option maxRecDepth 100000 in
theorem bytes_any (mv : Value) (m : Mz.Mach) (B : Nat) (w : World) (h : RMach w B mv m) (hB : B ≤ w.heap.size) (hf : Mz.machFits m) (hi10 : m.inp.length ≤ 10) (ho10 : m.out.length ≤ 10) :
    Calls Tryz.prog 54 #[mv] w fun e w' => e = .returned (Str (Mz.imageOf m)) ∧ Below w.heap.size w w' := by
  obtain ⟨fv, bv, iv, ov, rfl, hfr, hbl, hin, hout⟩ := h
  have HFR := Lib.hid hfr
  have HBL := Lib.hid hbl
  have HI := Lib.hid hin
  have HO := Lib.hid hout
  obtain ⟨fo, fc, rfl, f1, f2, f3⟩ := hfr.open
  obtain ⟨bo, bc, rfl, b1, b2, b3⟩ := hbl.open
  obtain ⟨io, ic, rfl, i1, i2, i3⟩ := hin.open
  obtain ⟨oo, oc, rfl, o1, o2, o3⟩ := hout.open
  unfold maxLen at f2 b2 i2 o2
  obtain ⟨m1, m2, m3, m4, m5, m6⟩ := hf
  have M5 := Lib.hid m5
  have M6 := Lib.hid m6
  clear hfr hbl hin hout m1 m2 m3 m4 m5 m6
  go_enter Tryz.func54, Tryz.ntmps54
  go_wp2_with fail
  obtain ⟨w2, hw2⟩ : ∃ w2, w2 = (w.alloc (.cells #[.slice fo m.frames.length fc, .slice bo m.blocks.length bc, .slice io m.inp.length ic, .slice oo m.out.length oc, .int .i64 m.status, .int .i64 m.trap] 29)).alloc (.cells #[.slice none 0 0] 134) := ⟨_, rfl⟩
  have kk : ∀ j v, (#[Value.slice fo m.frames.length fc, .slice bo m.blocks.length bc, .slice io m.inp.length ic, .slice oo m.out.length oc, .int .i64 m.status, .int .i64 m.trap] : Array Value)[j]? = some v → w2.cell? ⟨w.heap.size, j, none⟩ = some v := fun j v h => by rw [hw2, cell_old (by simp)]; exact cell_at rfl h
  have K := Lib.hid (And.intro (kk 0 _ rfl) (And.intro (kk 1 _ rfl) (And.intro (kk 2 _ rfl) (kk 3 _ rfl))))
  have HB2 : Hid (Below w.heap.size w w2) := by unfold Hid; rw [hw2]; exact ((Below.refl _ _).alloc (Nat.le_refl _) _).alloc (by simp) _
  have hs2 : w2.heap.size = w.heap.size + 1 + 1 := by rw [hw2]; simp
  have HW2 : Hid (Wr w2 (w.heap.size + 1) (w.heap.size + 1) []) := by
    refine ⟨Nat.le_refl _, .slice none 0 0, ?_, World.ownsRow_nil _ _ _ _⟩
    rw [hw2]
    have := World.rowIs_alloc (w.alloc (.cells #[.slice fo m.frames.length fc, .slice bo m.blocks.length bc, .slice io m.inp.length ic, .slice oo m.out.length oc, .int .i64 m.status, .int .i64 m.trap] 29)) #[.slice none 0 0] 134 (fun _ => .slice none 0 0) (fun i hi => by
      obtain rfl : i = 0 := by simpa using hi
      rfl)
    simpa using this
  have HS2 := Lib.hid hs2
  have e2 : w.heap.size + 1 + 1 = w2.heap.size := hs2.symm
  rw [← hw2]
  clear hw2 kk hs2
  -- readings of the machine, in whatever world comes
  have RI := Lib.hid (fun w' (h : Fw (w.heap.size + 1) (w.heap.size + 1) w2 w') => ((HI.out.frame (HB2.out.mono hB)).frame (h.below.mono (by omega))).mono (show B ≤ w.heap.size + 1 by omega))
  have RO := Lib.hid (fun w' (h : Fw (w.heap.size + 1) (w.heap.size + 1) w2 w') => ((HO.out.frame (HB2.out.mono hB)).frame (h.below.mono (by omega))).mono (show B ≤ w.heap.size + 1 by omega))
  have RB := Lib.hid (fun w' (h : Fw (w.heap.size + 1) (w.heap.size + 1) w2 w') => ((HBL.out.frame (HB2.out.mono hB)).frame (h.below.mono (by omega))).mono (show B ≤ w.heap.size + 1 by omega))
  have RF := Lib.hid (fun w' (h : Fw (w.heap.size + 1) (w.heap.size + 1) w2 w') => ((HFR.out.frame (HB2.out.mono hB)).frame (h.below.mono (by omega))).mono (show B ≤ w.heap.size + 1 by omega))
  have CELL := Lib.hid (fun w' (h : Fw (w.heap.size + 1) (w.heap.size + 1) w2 w') j => (bcell h.below).1 w.heap.size j (by omega))
  have LO := Lib.hid (fun w' (h : Fw (w.heap.size + 1) (w.heap.size + 1) w2 w') => show w.heap.size + 1 + 1 ≤ w'.heap.size by have := h.below.size; rw [HS2.out] at this; exact this)
  have hr3 := row_two w2 m.status m.trap
  rw [← e2] at hr3
  have HB3 := Lib.hid (show Below w2.heap.size w2 (w2.alloc (.cells #[.int .i64 m.status, .int .i64 m.trap] 3)) from (Below.refl _ _).alloc (Nat.le_refl _) _)
  clear e2
  refine (writeOne_any _ (w.heap.size + 1) (w.heap.size + 1) (w.heap.size + 1 + 1) [] [m.status, m.trap] (HW2.out.frame HB3.out) hr3 (by simp) (by simp) (by rw [World.size_alloc, HS2.out]; omega)).mono ?_
  rintro e w3 ⟨rfl, hw3, hf3⟩
  have HF3 := Lib.hid ((Fw.of_below (lo := w.heap.size + 1) (wb := w.heap.size + 1) HB3.out (by rw [HS2.out]; omega)).trans hf3)
  have HW3 := Lib.hid hw3
  have u2 := (CELL.out _ HF3.out 2).trans K.out.2.2.1
  have hn3 := LO.out _ HF3.out
  have hN3 : w.heap.size < w3.heap.size := by omega
  clear hw3 hf3 hr3 HB3
  go_wp2_with fail
  refine (writeNumbers_any _ (w.heap.size + 1) (w.heap.size + 1) _ _ m.inp HW3.out (RI.out _ HF3.out) (by simp) (by omega) (by omega)).mono ?_
  rintro e w4 ⟨rfl, hw4, hf4⟩
  have HF4 := Lib.hid (HF3.out.trans hf4)
  have HW4 := Lib.hid hw4
  have u3 := (CELL.out _ HF4.out 3).trans K.out.2.2.2
  have hn4 := LO.out _ HF4.out
  have hN4 : w.heap.size < w4.heap.size := by omega
  clear hw4 hf4 u2 HW3
  go_wp2_with fail
  refine (writeNumbers_any _ (w.heap.size + 1) (w.heap.size + 1) _ _ m.out HW4.out (RO.out _ HF4.out) (by have := numbersB_len (l := m.inp); simp; omega) (by omega) (by omega)).mono ?_
  rintro e w5 ⟨rfl, hw5, hf5⟩
  have HF5 := Lib.hid (HF4.out.trans hf5)
  have HW5 : Hid (Wr w5 (w.heap.size + 1) (w.heap.size + 1) (headB m)) := by unfold Hid headB; simpa using hw5
  have u1 := (CELL.out _ HF5.out 1).trans K.out.2.1
  have hn5 := LO.out _ HF5.out
  have hN5 : w.heap.size < w5.heap.size := by omega
  have HH : Hid ((headB m).length ≤ 84) := by
    unfold Hid headB; have := numbersB_len (l := m.inp); have := numbersB_len (l := m.out); simp only [List.length_cons, List.length_append]; omega
  have HBK := Lib.hid (fun k (hk : k ≤ m.blocks.length) => show (blocksTo m k).length ≤ 84 + (1 + 255 * 1024) by
    unfold blocksTo
    have h1 := someTo_len' (f := Mz.numbersB) (l := m.blocks) (c := 1024) (fun x hx => by have := numbersB_len (l := x); have := (M5.out.2 x hx).1; omega) k
    have h2 := HH.out
    have h3 : k * 1024 ≤ 255 * 1024 := Nat.mul_le_mul_right _ (by have := M5.out.1; omega)
    simp only [List.length_append]; omega)
  have HFK := Lib.hid (fun k (hk : k ≤ m.frames.length) => show (framesTo m k).length ≤ 84 + (1 + 255 * 1024) + (1 + 255 * 2600) by
    unfold framesTo
    have h1 := someTo_len' (f := Mz.frmB) (l := m.frames) (c := 2600) (fun x hx => frmB_len (M6.out.2 x hx)) k
    have h2 := HBK.out m.blocks.length (Nat.le_refl _)
    unfold blocksTo at h2
    rw [someTo_end] at h2
    have h3 : k * 2600 ≤ 255 * 2600 := Nat.mul_le_mul_right _ (by have := M6.out.1; omega)
    simp only [List.length_append] at h2 ⊢; omega)
  clear hw5 hf5 u3 HW4
  go_wp2_with fail
  have HB6 := Lib.hid (show Below w5.heap.size w5 (w5.alloc (.cells #[.int .i64 m.blocks.length] 3)) from (Below.refl _ _).alloc (Nat.le_refl _) _)
  refine (writeOne_any _ (w.heap.size + 1) (w.heap.size + 1) w5.heap.size _ [(m.blocks.length : Int)] (HW5.out.frame HB6.out) (row_one w5 _) (by have := HH.out; omega) (by simp) (by simp; omega)).mono ?_
  rintro e w6 ⟨rfl, hw6, hf6⟩
  have HF6 := Lib.hid (HF5.out.trans ((Fw.of_below (lo := w.heap.size + 1) (wb := w.heap.size + 1) HB6.out (by omega)).trans hf6))
  have HW6 : Hid (Wr w6 (w.heap.size + 1) (w.heap.size + 1) (blocksTo m 0)) := by unfold Hid blocksTo someTo; simpa using hw6
  have u1' := (CELL.out _ HF6.out 1).trans K.out.2.1
  have hn6 := LO.out _ HF6.out
  have hN6 : w.heap.size < w6.heap.size := by omega
  clear hw6 hf6 u1 HW5 HB6
  go_wp2_with fail
  go_loopw [34] (fun i wr => ∃ k : Nat, k ≤ m.blocks.length ∧ i = .int .i64 k ∧ Wr wr (w.heap.size + 1) (w.heap.size + 1) (blocksTo m k) ∧ Fw (w.heap.size + 1) (w.heap.size + 1) w2 wr) (fun i _ => m.blocks.length - (intOf i).toNat)
  case atStart => exact ⟨0, Nat.zero_le _, rfl, HW6.out, HF6.out⟩
  case round =>
    obtain ⟨k, hk, rfl, hwr, hfw⟩ := hrel
    have hnw := LO.out _ hfw
    by_cases hlt : k < m.blocks.length
    · obtain ⟨b, o, bv, rfl, hbB, cell, hbv⟩ := (RB.out _ hfw).at hlt
      obtain ⟨ba, bc', rfl, _, _, _⟩ := hbv.open
      have HBV := Lib.hid hbv
      have hs : Hid (blocksTo m (k + 1) = blocksTo m k ++ Mz.numbersB (nth m.blocks k)) := by unfold Hid blocksTo; rw [someTo_succ hlt, List.append_assoc]
      have hbs : b < wr.heap.size := by omega
      have hlf : (k : Int) < (m.blocks.length : Int) := by omega
      have HWR := Lib.hid hwr
      have HFW := Lib.hid hfw
      clear hwr hfw hbv
      go_wp2_with fail
      refine (writeNumbers_any _ (w.heap.size + 1) (w.heap.size + 1) _ _ (nth m.blocks k) HWR.out HBV.out (by have := HBK.out k hk; omega) (by have := (M5.out.2 _ (nth_mem hlt)).1; omega) (by omega)).mono ?_
      rintro e w7 ⟨rfl, hw7, hf7⟩
      have HF7 := Lib.hid (HFW.out.trans hf7)
      have HW7 := Lib.hid hw7
      clear hw7 hf7
      go_wp2_with fail
      go_roundw
      case rel => exact ⟨k + 1, by omega, by go_num, by rw [hs.out]; exact HW7.out, HF7.out⟩
      case measure => simp [intOf]; omega
    · obtain rfl : k = m.blocks.length := by omega
      obtain ⟨w7, rfl⟩ : ∃ w7 : World, w7 = wr := ⟨_, rfl⟩
      have HW7 := Lib.hid hwr
      have HF7 := Lib.hid hfw
      have u0 := (CELL.out _ hfw 0).trans K.out.1
      have hN7 : w.heap.size < w7.heap.size := by omega
      clear hwr hfw u1' HW6
      go_wp2_with fail
      have HB8 := Lib.hid (show Below w7.heap.size w7 (w7.alloc (.cells #[.int .i64 m.frames.length] 3)) from (Below.refl _ _).alloc (Nat.le_refl _) _)
      refine (writeOne_any _ (w.heap.size + 1) (w.heap.size + 1) w7.heap.size _ [(m.frames.length : Int)] (HW7.out.frame HB8.out) (row_one w7 _) (by have := HBK.out m.blocks.length (Nat.le_refl _); omega) (by simp) (by simp; omega)).mono ?_
      rintro e w8 ⟨rfl, hw8, hf8⟩
      have HF8 := Lib.hid (HF7.out.trans ((Fw.of_below (lo := w.heap.size + 1) (wb := w.heap.size + 1) HB8.out (by omega)).trans hf8))
      have HW8 : Hid (Wr w8 (w.heap.size + 1) (w.heap.size + 1) (framesTo m 0)) := by
        have e0 : blocksTo m m.blocks.length ++ [(m.frames.length : Int)].map Mz.byteOf = framesTo m 0 := by unfold blocksTo framesTo; rw [someTo_end]; unfold someTo; simp
        unfold Hid; rw [← e0]; exact hw8
      have u0' := (CELL.out _ HF8.out 0).trans K.out.1
      have hn8 := LO.out _ HF8.out
      have hN8 : w.heap.size < w8.heap.size := by omega
      clear hw8 hf8 u0 HW7 HB8
      go_wp2_with fail
      go_loopw [51] (fun i wr => ∃ k : Nat, k ≤ m.frames.length ∧ i = .int .i64 k ∧ Wr wr (w.heap.size + 1) (w.heap.size + 1) (framesTo m k) ∧ Fw (w.heap.size + 1) (w.heap.size + 1) w2 wr) (fun i _ => m.frames.length - (intOf i).toNat)
      case atStart => exact ⟨0, Nat.zero_le _, rfl, HW8.out, HF8.out⟩
      case round =>
        obtain ⟨k, hk, rfl, hwr, hfw⟩ := hrel
        have hnw := LO.out _ hfw
        by_cases hlt : k < m.frames.length
        · obtain ⟨b, o, lv, sv, rfl, hbB, q0, q1, q2, q3, rl, rs⟩ := (RF.out _ hfw).at hlt
          obtain ⟨lo', lc, rfl, _, _, _⟩ := rl.open
          obtain ⟨so, sc, rfl, _, _, _⟩ := rs.open
          have hs : Hid (framesTo m (k + 1) = framesTo m k ++ Mz.frmB (nth m.frames k)) := by unfold Hid framesTo; rw [someTo_succ hlt, List.append_assoc, List.append_assoc, List.append_assoc]
          have HXF := Lib.hid (M6.out.2 _ (nth_mem hlt))
          have hbs : b < wr.heap.size := by omega
          have hlf : (k : Int) < (m.frames.length : Int) := by omega
          obtain ⟨x, hx⟩ : ∃ x, x = nth m.frames k := ⟨_, rfl⟩
          have RL := Lib.hid rl
          have RS := Lib.hid rs
          rw [← hx] at q0 q1 q2 q3 RL RS hs HXF
          have HWR := Lib.hid hwr
          have HFW := Lib.hid hfw
          have hfk := HFK.out k hk
          have hne1 : w.heap.size + 1 ≠ wr.heap.size := by omega
          have HNE1 := Lib.hid hne1.symm
          clear hwr hfw rl rs hx hne1
          go_wp2_with fail
          have hrow := row_frame wr x.fn x.pc (.slice lo' x.locals.length lc) (.slice so x.stack.length sc)
          have hb0 : Below wr.heap.size wr (wr.alloc (.cells #[.int .i64 x.fn, .int .i64 x.pc, .slice lo' x.locals.length lc, .slice so x.stack.length sc] 97)) := (Below.refl _ _).alloc (Nat.le_refl _) _
          have hb1 : Below (wr.heap.size + 1) (wr.alloc (.cells #[.int .i64 x.fn, .int .i64 x.pc, .slice lo' x.locals.length lc, .slice so x.stack.length sc] 97)) ((wr.alloc (.cells #[.int .i64 x.fn, .int .i64 x.pc, .slice lo' x.locals.length lc, .slice so x.stack.length sc] 97)).alloc (.cells #[.int .i64 x.fn, .int .i64 x.pc] 3)) := (Below.refl _ _).alloc (by simp) _
          have HROW := Lib.hid (hrow.of_block (hb1.block _ (by omega)))
          have HB0 := Lib.hid (hb0.trans (hb1.mono (by omega)))
          have hr2 := row_two (wr.alloc (.cells #[.int .i64 x.fn, .int .i64 x.pc, .slice lo' x.locals.length lc, .slice so x.stack.length sc] 97)) x.fn x.pc
          clear hrow hb0 hb1 q0 q1 q2 q3
          refine (writeOne_any _ (w.heap.size + 1) (w.heap.size + 1) (wr.heap.size + 1) _ [x.fn, x.pc] (HWR.out.frame HB0.out) (by simpa using hr2) (by omega) (by simp) (by simp; omega)).mono ?_
          rintro e w9 ⟨rfl, hw9, hf9⟩
          have HF9 := Lib.hid (HFW.out.trans ((Fw.of_below (lo := w.heap.size + 1) (wb := w.heap.size + 1) HB0.out (by omega)).trans hf9))
          have HF9r : Hid (Fw (w.heap.size + 1) (w.heap.size + 1) wr w9) := (Fw.of_below (lo := w.heap.size + 1) (wb := w.heap.size + 1) HB0.out (by omega)).trans hf9
          have hrow9 := hf9.row HROW.out HNE1.out (by decide)
          have HROW9 := Lib.hid hrow9
          have HW9 := Lib.hid hw9
          have x2 : w9.cell? ⟨wr.heap.size, 2, none⟩ = some (.slice lo' x.locals.length lc) := hrow9.cell (i := 2) (by decide)
          have hx9 := hrow9.lt
          have hn9 := LO.out _ HF9.out
          clear hw9 hf9 hrow9 hr2
          go_wp2_with fail
          refine (writeValues_any _ (w.heap.size + 1) (w.heap.size + 1) _ _ x.locals HW9.out ((RL.out.frame HF9r.out.below).mono (Nat.le_refl _)) (by simp; omega) (by have := HXF.out.2.2.1.1; omega) (by omega)).mono ?_
          rintro e w10 ⟨rfl, hw10, hf10⟩
          have HF10 := Lib.hid (HF9.out.trans hf10)
          have HF10r := Lib.hid (HF9r.out.trans hf10)
          have hrow10 := hf10.row HROW9.out HNE1.out (by decide)
          have HW10 := Lib.hid hw10
          have x3 : w10.cell? ⟨wr.heap.size, 3, none⟩ = some (.slice so x.stack.length sc) := hrow10.cell (i := 3) (by decide)
          have hx10 := hrow10.lt
          have hn10 := LO.out _ HF10.out
          clear hw10 hf10 hrow10 x2 HW9
          go_wp2_with fail
          refine (writeValues_any _ (w.heap.size + 1) (w.heap.size + 1) _ _ x.stack HW10.out ((RS.out.frame HF10r.out.below).mono (Nat.le_refl _)) (by have := valuesB_len (l := x.locals); have := HXF.out.2.2.1.1; simp; omega) (by have := HXF.out.2.2.2.1; omega) (by omega)).mono ?_
          rintro e w11 ⟨rfl, hw11, hf11⟩
          have HF11 := Lib.hid (HF10.out.trans hf11)
          have HW11 : Hid (Wr w11 (w.heap.size + 1) (w.heap.size + 1) (framesTo m (k + 1))) := by
            unfold Hid; rw [hs.out]; unfold Mz.frmB; simpa using hw11
          clear hw11 hf11 x3 HW10
          go_wp2_with fail
          go_roundw
          case rel => exact ⟨k + 1, by omega, by go_num, HW11.out, HF11.out⟩
          case measure => simp [intOf]; omega
        · obtain rfl : k = m.frames.length := by omega
          have hwr' := hwr
          rw [framesTo_end] at hwr'
          obtain ⟨g, gc, c0, hcv⟩ := hwr'.conv (by unfold Mz.imageOf; simp)
          have hwl := hwr'.cells.choose_spec.choose_spec.2.2.2.1
          have HBF : Hid (Below w.heap.size w wr) := HB2.out.trans (hfw.below.mono (by omega))
          clear hwr hwr' hfw u0' HW8
          go_wp2_with fail
          go_ret
          exact ⟨rfl, HBF.out⟩
end Go.Proofs.YthdomhejkbpabaaGreat

/- The program's reader of bytes: cutting. -/
namespace Go.Proofs.YthdomhejkbpabaaGreat
open Go.RowKit

set_option maxHeartbeats 400000 in
set_option maxRecDepth 100000 in
theorem cut_short (s : List UInt8) (n : Nat) (w : World) (hs : s.length ≤ 9223372036854775807) (h : s.length < n) (hn : n ≤ 1000) : Calls Tryz.prog 211 #[.string ⟨s.toArray⟩, .int .i64 n] w fun e w' => e = .returned (.tuple #[Str [], Str [], .bool false]) ∧ w = w' := by
  have hd : ({ data := s.toArray } : ByteArray).size = s.length := by simp [ByteArray.size]
  generalize ({ data := s.toArray } : ByteArray) = b at *
  have h' : b.size < n := by omega
  have h2 : b.size ≤ 9223372036854775807 := by omega
  clear hd
  go_enter Tryz.func211, Tryz.ntmps211
  go_wp2_with fail
  go_ret3
  exact ⟨rfl, rfl⟩
set_option maxHeartbeats 400000 in
set_option maxRecDepth 100000 in
theorem cut_any (s : List UInt8) (n : Nat) (w : World) (hs : s.length ≤ 9223372036854775807) (h : n ≤ s.length) (hn : n ≤ 1000) : Calls Tryz.prog 211 #[.string ⟨s.toArray⟩, .int .i64 n] w fun e w' => e = .returned (.tuple #[Str (s.take n), Str (s.drop n), .bool true]) ∧ ∃ k, w' = w.drewN k := by
  have hd : ({ data := s.toArray } : ByteArray).size = s.length := by simp [ByteArray.size]
  have e1 : ({ data := s.toArray } : ByteArray).extract 0 n = ⟨(s.take n).toArray⟩ := by
    apply ByteArray.ext; apply Array.toList_inj.1
    rw [Lib.extract_data]; simp
  have e2 : ({ data := s.toArray } : ByteArray).extract n s.length = ⟨(s.drop n).toArray⟩ := by
    apply ByteArray.ext; apply Array.toList_inj.1
    rw [Lib.extract_data]; simp only []
    exact List.take_of_length_le (by simp)
  generalize ({ data := s.toArray } : ByteArray) = b at *
  have h' : n ≤ b.size := by omega
  have h2 : b.size ≤ 9223372036854775807 := by omega
  have h3 : (0 : Int) ≤ (n : Int) := by omega
  have h4 : (n : Int) ≤ (b.size : Int) := by omega
  have E2 := Lib.hid e2
  clear e2
  go_enter Tryz.func211, Tryz.ntmps211
  go_wp2_with fail
  go_quiet (fail)
  go_wp2_with fail
  go_ret3
  exact ⟨by rw [E2.out]; rfl, nq, rfl⟩

/-- what the reader gives up with -/
def shortE : Ending := .panicked [{ v := .iface 139 (.agg #[]), recovered := false }]
/-- nothing of what was has turned, but for block rb -/
structure Rf (rb : Nat) (w w' : World) : Prop where
  os : w'.os = w.os
  tape : w'.tape = w.tape
  output : w'.output = w.output
  size : w.heap.size ≤ w'.heap.size
  block : ∀ k, k < w.heap.size → k ≠ rb → w'.heap[k]? = w.heap[k]?
theorem Rf.refl {rb : Nat} {w : World} : Rf rb w w := ⟨rfl, rfl, rfl, Nat.le_refl _, fun _ _ _ => rfl⟩
theorem Rf.trans {rb : Nat} {u v w : World} (h : Rf rb u v) (k : Rf rb v w) : Rf rb u w :=
  ⟨k.os.trans h.os, k.tape.trans h.tape, k.output.trans h.output, Nat.le_trans h.size k.size, fun i hi hn => (k.block i (Nat.lt_of_lt_of_le hi h.size) hn).trans (h.block i hi hn)⟩
theorem Rf.of_below {rb : Nat} {w w' : World} (h : Below w.heap.size w w') : Rf rb w w' := ⟨h.os, h.tape, h.output, h.size, fun k hk _ => h.block k hk⟩
theorem Rf.of_only {rb : Nat} {w w' : World} (h : Only rb w w') : Rf rb w w' := ⟨h.os, h.tape, h.output, by rw [h.size]; exact Nat.le_refl _, fun k _ hn => h.block k hn⟩
theorem Rf.below {rb B : Nat} {w w' : World} (h : Rf rb w w') (hB : B ≤ w.heap.size) (hr : B ≤ rb) : Below B w w' := ⟨h.os, h.tape, h.output, h.size, fun k hk => h.block k (by omega) (by omega)⟩
theorem Rf.row {rb : Nat} {w w' : World} (h : Rf rb w w') {b : Nat} {t : TypeId} {n : Nat} {f : Nat → Value} (hr : w.rowIs b t n f) (hb : b ≠ rb) : w'.rowIs b t n f := hr.of_block (h.block b hr.lt hb)
/-- the reader in block rb: what is left -/
def Rdr (w : World) (rb : Nat) (s : List UInt8) : Prop := w.rowIs rb 143 1 (fun _ => Str s)
theorem Rdr.frame {w w' : World} {rb : Nat} {s : List UInt8} (h : Rdr w rb s) (hb : Below w.heap.size w w') : Rdr w' rb s := World.rowIs.of_block h (hb.block _ (World.rowIs.lt h))
theorem Rdr.set {w : World} {rb : Nat} {s : List UInt8} (h : Rdr w rb s) (s' : List UInt8) : Rdr (w.setCell ⟨rb, 0, none⟩ (Str s')) rb s' :=
  (World.rowIs.set h 0 (Str s')).congr (fun i hi => by obtain rfl : i = 0 := by omega
                                                       simp)
/-- what a reader's method answers -/
def Reads (w : World) (rb : Nat) (v : Value → World → Prop) (x : Option (List UInt8)) (e : Ending) (w' : World) : Prop :=
  Rf rb w w' ∧ match x with
    | none => e = shortE
    | some r => ∃ u, e = .returned u ∧ v u w' ∧ Rdr w' rb r

set_option maxHeartbeats 1000000 in
set_option maxRecDepth 100000 in
theorem take_some (w : World) (rb : Nat) (s : List UInt8) (n : Nat) (h : Rdr w rb s) (hs : s.length ≤ 9223372036854775807) (hn : n ≤ s.length) (h1 : n ≤ 1000) :
    Calls Tryz.prog 170 #[.pointer (some ⟨rb, 0, none⟩), .int .i64 n] w fun e w' => e = .returned (Str (s.take n)) ∧ Rdr w' rb (s.drop n) ∧ Rf rb w w' := by
  have c0 := World.rowIs.cell h (i := 0) (by decide)
  have z0 := World.rowIs.frozen h 0
  have hlt := World.rowIs.lt h
  have H := Lib.hid h
  clear h
  go_enter Tryz.func170, Tryz.ntmps170
  go_wp2_with fail
  refine (cut_any s n _ hs hn h1).mono ?_
  rintro e w1 ⟨rfl, k, rfl⟩
  obtain ⟨ba, hba⟩ : ∃ ba, Str (s.drop n) = .string ba := ⟨_, rfl⟩
  have HBA := Lib.hid hba
  rw [hba]
  clear hba
  go_wp2_with fail
  go_ret
  rw [← HBA.out]
  have h2 : Rdr (w.drewN k) rb s := H.out
  exact ⟨rfl, h2.set (s.drop n), Rf.of_only ((Only.drewN rb w k).setCell 0 _)⟩
set_option maxHeartbeats 1000000 in
set_option maxRecDepth 100000 in
theorem take_none (w : World) (rb : Nat) (s : List UInt8) (n : Nat) (h : Rdr w rb s) (hs : s.length ≤ 9223372036854775807) (hn : s.length < n) (h1 : n ≤ 1000) :
    Calls Tryz.prog 170 #[.pointer (some ⟨rb, 0, none⟩), .int .i64 n] w fun e w' => e = shortE ∧ Rf rb w w' := by
  have c0 := World.rowIs.cell h (i := 0) (by decide)
  have z0 := World.rowIs.frozen h 0
  have hlt := World.rowIs.lt h
  have H := Lib.hid h
  clear h
  go_enter Tryz.func170, Tryz.ntmps170
  go_wp2_with fail
  refine (cut_short s n _ hs hn h1).mono ?_
  rintro e w1 ⟨rfl, rfl⟩
  go_wp2_with fail
  exact ⟨rfl, rfl, Rf.refl⟩
end Go.Proofs.YthdomhejkbpabaaGreat

/- The number that four bytes tell. -/
namespace Go.Proofs.YthdomhejkbpabaaGreat
open Go.RowKit

def accOf (l : List UInt8) : Nat := l.foldl (fun n b => 256 * n + b.toNat) 0
theorem accOf_snoc (l : List UInt8) (b : UInt8) : accOf (l ++ [b]) = 256 * accOf l + b.toNat := by unfold accOf; rw [List.foldl_append]; rfl
theorem accOf_four (a b c d : UInt8) : Mz.wrap (accOf [a, b, c, d] : Nat) = Mz.numberOf a b c d := by
  unfold accOf Mz.numberOf; simp only [List.foldl_cons, List.foldl_nil]; congr 1; omega
/-- what '[]byte(s)' has made of four bytes -/
theorem conv_four (w : World) (l : List UInt8) (hl : l.length = 4) : ∃ G w1, (convert 9 132 (.string ⟨l.toArray⟩)).run Tryz.prog w = .ok (.slice (some ⟨w.heap.size, 0, none⟩) 4 G) w1 ∧ Below w.heap.size w w1 ∧ w.heap.size < w1.heap.size ∧ 4 ≤ G ∧ G ≤ maxLen ∧
    ∀ j (h : j < l.length), w1.cell? ⟨w.heap.size, j, none⟩ = some (.int .u8 (l[j].toNat : Int)) := by
  have h := run_bytes_of_string (P := Tryz.prog) w 9 132 5 ⟨l.toArray⟩ Tryz.underlying9 Tryz.underlying132 Tryz.underlying5
  have hsz : ({ data := l.toArray } : ByteArray).size = 4 := by simp [ByteArray.size, hl]
  rw [hsz] at h
  refine ⟨_, _, h, ((Below.refl _ _).drew).alloc (Nat.le_refl _) _, by simp, grownCap_ge w _ _ _, grownCap_le_maxLen w _ _ _ (by unfold maxLen; omega), fun j hj => ?_⟩
  have hc : (w.drew.alloc (.cells (bytesRow ⟨l.toArray⟩ (grownCap w 4 0 5)) 5 ((bytesRow ⟨l.toArray⟩ (grownCap w 4 0 5)).size, (bytesRow ⟨l.toArray⟩ (grownCap w 4 0 5)).size + 1))).cell? ⟨w.heap.size, j, none⟩ = (bytesRow ⟨l.toArray⟩ (grownCap w 4 0 5))[j]? := by
    have hn := heap_alloc_new w.drew (Obj.cells (bytesRow ⟨l.toArray⟩ (grownCap w 4 0 5)) 5 ((bytesRow ⟨l.toArray⟩ (grownCap w 4 0 5)).size, (bytesRow ⟨l.toArray⟩ (grownCap w 4 0 5)).size + 1))
    have e : w.drew.heap.size = w.heap.size := rfl
    rw [e] at hn
    simp only [World.cell?, hn]; rfl
  rw [hc]
  unfold bytesRow
  rw [Array.getElem?_append_left (by simpa using hj)]
  simp [hj]

theorem or_add (y x : Nat) (hy : y < 16777216) (hx : x < 256) : bits BinOp.or IntKind.u32 ((y : Int) * 256) (x : Int) = ((256 * y + x : Nat) : Int) := by
  have h := u32_or_nat (y * 256) x (by omega) (by omega)
  have e : (y * 256 ||| x) = 256 * y + x := by
    have := Nat.shiftLeft_add_eq_or_of_lt (i := 8) (b := x) (by omega) y
    rw [Nat.shiftLeft_eq, show (2 : Nat) ^ 8 = 256 from rfl] at this
    omega
  rw [e] at h
  rw [← h]; congr 1
set_option maxHeartbeats 1000000 in
set_option maxRecDepth 100000 in
theorem number_any (l : List UInt8) (hl : l.length = 4) (w : World) : Calls Tryz.prog 172 #[.string ⟨l.toArray⟩] w fun e w' => e = .returned (.int .i64 (Mz.wrap (accOf l))) ∧ Below w.heap.size w w' := by
  obtain ⟨G, w1, hcv, hb1, hs1, hG, hGm, hcell⟩ := conv_four w l hl
  unfold maxLen at hGm
  generalize ({ data := l.toArray } : ByteArray) = ba at *
  have HB1 := Lib.hid hb1
  have HC := Lib.hid hcell
  have HL := Lib.hid hl
  clear hb1 hcell hl
  go_enter Tryz.func172, Tryz.ntmps172
  go_wp2_with fail
  go_loop [3, 9] (fun u i => ∃ k : Nat, k ≤ 4 ∧ i = .int .i64 k ∧ u = .int .u32 (accOf (l.take k)) ∧ accOf (l.take k) < 256 ^ k) (fun _ i => 4 - (intOf i).toNat)
  case atStart => exact ⟨0, Nat.zero_le _, rfl, rfl, by simp [accOf]⟩
  case round =>
    obtain ⟨k, hk, rfl, rfl, hlt256⟩ := hrel
    by_cases hlt : k < 4
    · have hkl : k < l.length := by rw [HL.out]; exact hlt
      have cell := HC.out k hkl
      have hbt := (l[k]).toNat_lt
      obtain ⟨x, hx⟩ : ∃ x, x = (l[k]).toNat := ⟨_, rfl⟩
      obtain ⟨y, hy⟩ : ∃ y, y = accOf (l.take k) := ⟨_, rfl⟩
      rw [← hx] at cell hbt
      rw [← hy] at hlt256 ⊢
      have hy24 : y < 16777216 := by
        have : 256 ^ k ≤ 256 ^ 3 := Nat.pow_le_pow_right (by omega) (by omega)
        omega
      have HX := Lib.hid hx
      have HY := Lib.hid hy
      have HA : Hid (accOf (l.take (k + 1)) = 256 * y + x) := by
        unfold Hid; rw [List.take_succ_eq_append_getElem hkl, accOf_snoc, hx, hy]
      have HP : Hid (256 * y + x < 256 ^ (k + 1)) := by unfold Hid; rw [Nat.pow_succ]; omega
      have hor := or_add y x hy24 hbt
      clear hx hy hlt256
      go_wp2_with fail
      go_round
      case rel => exact ⟨k + 1, by omega, by go_num, by rw [HA.out]; go_num, by rw [HA.out]; exact HP.out⟩
      case measure => simp [intOf]; omega
    · obtain rfl : k = 4 := by omega
      have HT : Hid (l.take 4 = l) := List.take_of_length_le (by rw [HL.out]; exact Nat.le_refl _)
      rw [HT.out]
      go_wp2_with fail
      go_ret
      refine ⟨ret_int ?_, HB1.out⟩
      unfold wrap64 wrap32 Mz.wrap
      omega
end Go.Proofs.YthdomhejkbpabaaGreat

/- The program's reader: one byte, some things. -/
namespace Go.Proofs.YthdomhejkbpabaaGreat
open Go.RowKit

/-- what a method of the reader answers: a thing and what is left, or it gives up -/
def RdRes {α : Type} (rb : Nat) (w : World) (mk : α → Value → World → Prop) (x : Option (α × List UInt8)) (e : Ending) (w' : World) : Prop :=
  Rf rb w w' ∧ ((∃ a r v, x = some (a, r) ∧ e = .returned v ∧ mk a v w' ∧ Rdr w' rb r) ∨ (x = none ∧ e = shortE))
def mkInt (n : Int) (v : Value) (_ : World) : Prop := v = .int .i64 n

set_option maxHeartbeats 1000000 in
set_option maxRecDepth 100000 in
theorem rdOne_any (w : World) (rb : Nat) (s : List UInt8) (h : Rdr w rb s) (hs : s.length ≤ 9223372036854775807) :
    Calls Tryz.prog 133 #[.pointer (some ⟨rb, 0, none⟩)] w (RdRes rb w mkInt (Mz.rdOne s)) := by
  cases s with
  | nil =>
    have H := Lib.hid h
    clear h
    go_enter Tryz.func133, Tryz.ntmps133
    go_wp2_with fail
    refine (take_none _ rb [] 1 H.out (by simp) (by simp) (by omega)).mono ?_
    rintro e w1 ⟨rfl, hf⟩
    exact ⟨rfl, hf, .inr ⟨rfl, rfl⟩⟩
  | cons b s =>
    have H := Lib.hid h
    clear h
    go_enter Tryz.func133, Tryz.ntmps133
    go_wp2_with fail
    refine (take_some _ rb (b :: s) 1 H.out hs (by simp) (by omega)).mono ?_
    rintro e w1 ⟨rfl, hr, hf⟩
    have e1 : Str ((b :: s).take 1) = .string ⟨#[b]⟩ := rfl
    rw [e1]
    have HR := Lib.hid hr
    have HF := Lib.hid hf
    clear hr hf e1
    go_wp2_with fail
    go_ret
    refine ⟨HF.out, .inl ⟨(b.toNat : Int), s, _, rfl, rfl, ?_, HR.out⟩⟩
    show Value.int .i64 (wrap64 (b.toNat : Int)) = Value.int .i64 (b.toNat : Int)
    have := b.toNat_lt
    congr 1; unfold wrap64; omega

/-- reading a thing takes the reader's four bytes -/
theorem four_cases (s : List UInt8) : (∃ a b c d r, s = a :: b :: c :: d :: r) ∨ (s.length < 4 ∧ Mz.rdFour s = none) := by
  match s with
  | [] => exact .inr ⟨by simp, rfl⟩
  | [_] => exact .inr ⟨by simp, rfl⟩
  | [_, _] => exact .inr ⟨by simp, rfl⟩
  | [_, _, _] => exact .inr ⟨by simp, rfl⟩
  | a :: b :: c :: d :: r => exact .inl ⟨a, b, c, d, r, rfl⟩

/-- what some things come to: all of them, or it gave up -/
def SomeRes (s : List UInt8) (I : Nat → World → Prop) (S : World → Prop) (e : Ending) (w' : World) : Prop :=
  (∃ n s1, Mz.rdOne s = some (n, s1) ∧ e = .returned (.tuple #[]) ∧ I n.toNat w') ∨ (e = shortE ∧ S w')
def SomeSteps (s : List UInt8) (k : FuncId) (cap : Array Value) (I : Nat → World → Prop) (S : World → Prop) : Prop :=
  ∀ n s1, Mz.rdOne s = some (n, s1) → ∀ j : Nat, (j : Int) < n → ∀ w1, I j w1 → Calls Tryz.prog k cap w1 fun e w2 => (e = .returned (.tuple #[]) ∧ I (j + 1) w2) ∨ (e = shortE ∧ S w2)
theorem rdOne_bound {s s1 : List UInt8} {n : Int} (h : Mz.rdOne s = some (n, s1)) : 0 ≤ n ∧ n < 256 := by
  cases s with
  | nil => cases h
  | cons b s => simp only [Mz.rdOne, Option.some.injEq, Prod.mk.injEq] at h; have := b.toNat_lt; omega

set_option maxHeartbeats 1000000 in
set_option maxRecDepth 100000 in
theorem rdSome_any (w : World) (rb : Nat) (s : List UInt8) (k : FuncId) (cap : Array Value) (I : Nat → World → Prop) (S : World → Prop) (h : Rdr w rb s) (hs : s.length ≤ 9223372036854775807)
    (h0 : ∀ n s1, Mz.rdOne s = some (n, s1) → ∀ w1, Rdr w1 rb s1 → Rf rb w w1 → I 0 w1) (hS : Mz.rdOne s = none → ∀ w1, Rf rb w w1 → S w1) (hk : Enters k) (hf : SomeSteps s k cap I S) :
    Calls Tryz.prog 135 #[.pointer (some ⟨rb, 0, none⟩), .func (.func k) #[] cap] w (SomeRes s I S) := by
  have H := Lib.hid h
  have H0 := Lib.hid h0
  have HS := Lib.hid hS
  have HF : Hid (SomeSteps s k cap I S) := hf
  clear h h0 hS hf
  go_enter Tryz.func135, Tryz.ntmps135
  go_wp2_with fail
  refine (rdOne_any _ rb s H.out hs).mono ?_
  rintro e w1 ⟨hrf, (⟨n, s1, v, hx, rfl, rfl, hr⟩ | ⟨hx, rfl⟩)⟩
  · have hb := rdOne_bound hx
    obtain ⟨N, hN⟩ : ∃ N : Nat, n = (N : Int) := ⟨n.toNat, by omega⟩
    subst hN
    have HX := Lib.hid hx
    have HI0 := Lib.hid (H0.out _ _ hx w1 hr hrf)
    have hN := hb.2
    clear hx hr hrf hb
    go_wp2_with fail
    go_loopw [4] (fun i wr => ∃ j : Nat, j ≤ N ∧ i = .int .i64 ((N - j : Nat) : Int) ∧ Hid (I j wr)) (fun i _ => (intOf i).toNat)
    case atStart => exact ⟨0, Nat.zero_le _, rfl, HI0⟩
    case round =>
      obtain ⟨j, hj, rfl, hI⟩ := hrel
      by_cases hlt : j < N
      · obtain ⟨q, hq⟩ : ∃ q, N - j = q + 1 := ⟨N - j - 1, by omega⟩
        have hke := hk
        unfold Enters at hke
        rw [hq]
        have hqi : (0 : Int) < ((q + 1 : Nat) : Int) := by omega
        go_wp2_with fail
        refine (HF.out _ _ HX.out j (by omega) _ hI.out).mono ?_
        rintro e w2 (⟨rfl, hI2⟩ | ⟨rfl, hS2⟩)
        · have HI2 := Lib.hid hI2
          have HQ : Hid (q = N - (j + 1)) := by unfold Hid; omega
          clear hI2 hke hI
          go_wp2_with fail
          go_roundw
          case rel => exact ⟨j + 1, by omega, by rw [← HQ.out], HI2⟩
          case measure => simp [intOf]
        · exact ⟨rfl, .inr ⟨rfl, hS2⟩⟩
      · obtain rfl : j = N := by omega
        have e0 : j - j = 0 := by omega
        rw [e0]
        go_wp2_with fail
        go_end0
        exact .inl ⟨_, _, HX.out, rfl, by simpa using hI.out⟩
  · exact ⟨rfl, .inr ⟨rfl, HS.out hx w1 hrf⟩⟩
end Go.Proofs.YthdomhejkbpabaaGreat
