/- Lemmas: New, Start, Restore, Begun, Is. -/
import Derived.Test.YthdomhejkbpabaaGreatG26
set_option linter.unusedVariables false
set_option linter.unusedSimpArgs false
/- machine.fresh, New, Start. -/
namespace Go.Proofs.YthdomhejkbpabaaGreat
open Go.RowKit

theorem owns_made (w : World) (cs : Array Value) (T : TypeId) (n sz : Nat) (h1 : cs.size = n * sz) (h3 : n ≤ maxLen) : (w.alloc (.cells cs T)).ownsRow w.heap.size T sz (.slice (some ⟨w.heap.size, 0, none⟩) n n) n cs.toList := by
  refine ⟨by simpa using h1, .inr ⟨w.heap.size, n, cs, rfl, Nat.le_refl _, heap_alloc_new _ _, Nat.le_refl _, h3, h1, ?_⟩⟩
  exact List.take_of_length_le (by simp [h1])
theorem fresh_snoc {l : List Int} {k : Nat} (h : k < l.length) : (l.take (k + 1)).map (fun t => (⟨t == 2, 0⟩ : Mz.Val)) = (l.take k).map (fun t => (⟨t == 2, 0⟩ : Mz.Val)) ++ [⟨nth l k == 2, 0⟩] := by
  rw [take_snoc h, List.map_append]; rfl
set_option maxHeartbeats 1000000 in
set_option maxRecDepth 100000 in
theorem fresh_any (w : World) (pa re : Int) (lv cv : Value) (co : Option Addr) (cn cc : Nat) (hcv : cv = .slice co cn cc) (l : List Int) (B : Nat) (hl : RInts w B lv l) (hB : B ≤ w.heap.size) (hn : l.length ≤ 1000) :
    Calls Tryz.prog 114 #[.agg #[.int .i64 pa, lv, .int .i64 re, cv]] w fun e w' => ∃ r, e = .returned r ∧ w'.ownsRow w.heap.size 103 2 r l.length ((l.map (fun t => (⟨t == 2, 0⟩ : Mz.Val))).flatMap valCells) ∧ Below w.heap.size w w' := by
  subst hcv
  obtain ⟨lo, lc, rfl, h1, h2, h3⟩ := hl.open
  unfold maxLen at h2
  have HL := Lib.hid hl
  clear hl
  have hb0 := (Below.refl w.heap.size w).alloc (Nat.le_refl _) (.cells #[.int .i64 pa, .slice lo l.length lc, .int .i64 re, .slice co cn cc] 110)
  have HB0 := Lib.hid hb0
  clear hb0
  go_enter Tryz.func114, Tryz.ntmps114
  go_wp2_with fail
  generalize (w.alloc (.cells #[.int .i64 pa, .slice lo l.length lc, .int .i64 re, .slice co cn cc] 110)) = W at *
  go_loopw [3, 9] (fun r i wr => ∃ k : Nat, k ≤ l.length ∧ i = .int .i64 k ∧ Hid (wr.ownsRow w.heap.size 103 2 r ((l.take k).map (fun t => (⟨t == 2, 0⟩ : Mz.Val))).length (((l.take k).map (fun t => (⟨t == 2, 0⟩ : Mz.Val))).flatMap valCells)) ∧ Hid (Below w.heap.size w wr)) (fun _ i _ => l.length - (intOf i).toNat)
  case atStart => exact ⟨0, Nat.zero_le _, rfl, World.ownsRow_nil _ _ _ _, HB0⟩
  case round =>
    obtain ⟨k, hk, rfl, HOW, HBR⟩ := hrel
    by_cases hlt : k < l.length
    · obtain ⟨ab, ax, rfl, aB, ac⟩ := (HL.out.frame (HBR.out.mono hB)).at hlt
      have hsz := HBR.out.size
      have hg : ab < wr.heap.size := by omega
      have HSN := Lib.hid (fresh_snoc hlt)
      have hll : ((l.take k).map (fun t => (⟨t == 2, 0⟩ : Mz.Val))).length ≤ 1000 := by simp; omega
      obtain ⟨L, hL⟩ : ∃ L, L = (l.take k).map (fun t => (⟨t == 2, 0⟩ : Mz.Val)) := ⟨_, rfl⟩
      rw [← hL] at HOW HSN hll
      clear hL
      obtain ⟨x, hx⟩ : ∃ x, x = nth l k := ⟨_, rfl⟩
      rw [← hx] at ac HSN
      clear hx
      go_wp2_with (at_builtin; refine push_gen (P := Tryz.prog) (cells := [.bool (x == 2), .int .i64 0]) Tryz.underlying95 info_val rfl (by decide) (by decide) rfl rfl rfl HOW.out rfl rfl (by intro u hu; simp at hu; rcases hu with rfl | rfl <;> rfl) (by omega) (by omega) ?_; intro v' w' hown' hgr hb')
      have hown2 : Hid (w'.ownsRow w.heap.size 103 2 v' ((l.take (k + 1)).map (fun t => (⟨t == 2, 0⟩ : Mz.Val))).length (((l.take (k + 1)).map (fun t => (⟨t == 2, 0⟩ : Mz.Val))).flatMap valCells)) := by
        rw [HSN.out]; unfold Hid; simpa [valCells] using hown'
      go_roundw
      case rel => exact ⟨k + 1, by omega, by go_num, hown2, Lib.hid (HBR.out.trans hb')⟩
      case measure => simp [intOf]; omega
    · have ht : Hid (l.take k = l) := List.take_of_length_le (by omega)
      have ho2 := HOW.out
      rw [ht.out, List.length_map] at ho2
      obtain ⟨ra, rc, rfl⟩ := owned_open ho2
      have HO2 := Lib.hid ho2
      clear HOW ho2
      go_wp2_with fail
      go_ret
      exact ⟨_, rfl, HO2.out, HBR.out⟩

set_option maxHeartbeats 1000000 in
set_option maxRecDepth 100000 in
theorem new_any (w : World) (pv : Value) (p : List Mz.Fun) (B : Nat) (hp : RProg w B pv p) (hB : B ≤ w.heap.size) (h0 : 0 < p.length) (hn : (nth p 0).locals.length ≤ 250) :
    Calls Tryz.prog 72 #[pv] w fun e w' => ∃ v, e = .returned v ∧ mkMach w.heap.size (Mz.startOf p) v w' ∧ Below w.heap.size w w' := by
  obtain ⟨fp, rfl, hp⟩ := hp
  obtain ⟨po, pc, rfl, p1, p2, p3⟩ := hp.open
  unfold maxLen at p2
  obtain ⟨fb, fx, gl, gc, rfl, fB, f0, f1, f2, f3, rgl, rgc⟩ := hp.at h0
  obtain ⟨glo, glc, rfl, _, _, _⟩ := rgl.open
  obtain ⟨gco, gcc, rfl, _, _, _⟩ := rgc.open
  have RGL := Lib.hid rgl
  have hfb : fb < w.heap.size := by omega
  simp only [Nat.zero_mul, Nat.add_zero] at f0 f1 f2 f3
  clear hp rgl rgc
  go_enter Tryz.func72, Tryz.ntmps72
  go_wp2_with fail
  have hb2 : Below w.heap.size w ((w.alloc (.cells #[.slice (some ⟨fb, fx, none⟩) p.length pc] 24)).alloc (.cells #[.slice none 0 0, .slice none 0 0, .slice none 0 0, .slice none 0 0, .int .i64 0, .int .i64 0] 29)) :=
    ((Below.refl _ _).alloc (Nat.le_refl _) _).alloc (by simp) _
  have rR := row_mach (w.alloc (.cells #[.slice (some ⟨fb, fx, none⟩) p.length pc] 24)) 0
  have s1 : (w.alloc (.cells #[.slice (some ⟨fb, fx, none⟩) p.length pc] 24)).heap.size = w.heap.size + 1 := by simp
  have s2 : ((w.alloc (.cells #[.slice (some ⟨fb, fx, none⟩) p.length pc] 24)).alloc (.cells #[.slice none 0 0, .slice none 0 0, .slice none 0 0, .slice none 0 0, .int .i64 0, .int .i64 0] 29)).heap.size = w.heap.size + 2 := by simp
  rw [s1] at rR
  generalize ((w.alloc (.cells #[.slice (some ⟨fb, fx, none⟩) p.length pc] 24)).alloc (.cells #[.slice none 0 0, .slice none 0 0, .slice none 0 0, .slice none 0 0, .int .i64 0, .int .i64 0] 29)) = W at *
  refine (fresh_any W _ _ _ _ gco _ gcc rfl (nth p 0).locals B (RGL.out.frame (hb2.mono hB)) (by omega) (by omega)).mono ?_
  rintro e w1 ⟨r, rfl, hown, hb3⟩
  obtain ⟨ra, rc, rfl⟩ := owned_open hown
  obtain ⟨R, hR⟩ : ∃ R, R = w.heap.size + 1 := ⟨_, rfl⟩
  rw [← hR] at rR ⊢
  have hRn : w.heap.size ≤ R := by omega
  have rR1 := rR.of_block (hb3.block _ rR.lt)
  have HR1 := Lib.hid rR1
  have HOW := Lib.hid (owns_base hown (show w.heap.size ≤ W.heap.size by omega))
  have HB3 := Lib.hid (hb2.trans (hb3.mono (by omega)))
  have hs : R < w1.heap.size := rR1.lt
  have hs2 : w.heap.size ≤ w1.heap.size := HB3.out.size
  clear rR rR1 hb2 hb3 s1 s2 hown f0 f1 f2 f3 hR
  -- the frame's row
  have hba := (Below.refl w1.heap.size w1).alloc (Nat.le_refl _) (.cells #[.int .i64 0, .int .i64 0, .slice ra (nth p 0).locals.length rc, .slice none 0 0] 97)
  have HR2 := Lib.hid (HR1.out.of_block (hba.block _ hs))
  have HBA := Lib.hid hba
  have HFR := Lib.hid (owns_base (owns_made w1 #[.int .i64 0, .int .i64 0, .slice ra (nth p 0).locals.length rc, .slice none 0 0] 97 1 4 rfl (by unfold maxLen; omega)) hs2)
  clear hba
  have r0 : (w1.alloc (.cells #[.int .i64 0, .int .i64 0, .slice ra (nth p 0).locals.length rc, .slice none 0 0] 97)).cell? ⟨R, 0, none⟩ = some (.slice none 0 0) := HR2.out.cell (i := 0) (by decide)
  have r1 : (w1.alloc (.cells #[.int .i64 0, .int .i64 0, .slice ra (nth p 0).locals.length rc, .slice none 0 0] 97)).cell? ⟨R, 1, none⟩ = some (.slice none 0 0) := HR2.out.cell (i := 1) (by decide)
  iterate 12 (first | go_values | go_skip | go_guarded | go_step | go_upon | go_back | go_simp)
  generalize (w1.alloc (.cells #[.int .i64 0, .int .i64 0, .slice ra (nth p 0).locals.length rc, .slice none 0 0] 97)) = w2 at *
  clear r0 r1
  have r0 : w2.cell? ⟨R, 0, none⟩ = some (.slice none 0 0) := HR2.out.cell (i := 0) (by decide)
  have r1 : w2.cell? ⟨R, 1, none⟩ = some (.slice none 0 0) := HR2.out.cell (i := 1) (by decide)
  have r2 : w2.cell? ⟨R, 2, none⟩ = some (.slice none 0 0) := HR2.out.cell (i := 2) (by decide)
  have r3 : w2.cell? ⟨R, 3, none⟩ = some (.slice none 0 0) := HR2.out.cell (i := 3) (by decide)
  have r4 : w2.cell? ⟨R, 4, none⟩ = some (.int .i64 0) := HR2.out.cell (i := 4) (by decide)
  have r5 : w2.cell? ⟨R, 5, none⟩ = some (.int .i64 0) := HR2.out.cell (i := 5) (by decide)
  have z0 := HR2.out.frozen 0
  have z1 := HR2.out.frozen 1
  have z2 := HR2.out.frozen 2
  have z3 := HR2.out.frozen 3
  have z4 := HR2.out.frozen 4
  have z5 := HR2.out.frozen 5
  have hR2 := HR2.out.lt
  go_wp2_with fail
  obtain ⟨on, d0, d1, d2, d3, d4, d5⟩ := set_six HR2.out (.slice (some ⟨w1.heap.size, 0, none⟩) 1 1) (.slice none 0 0) (.slice none 0 0) (.slice none 0 0) (.int .i64 0) (.int .i64 0)
  have hm : mkMach w.heap.size (Mz.startOf p) (.agg #[.slice (some ⟨w1.heap.size, 0, none⟩) 1 1, .slice none 0 0, .slice none 0 0, .slice none 0 0, .int .i64 0, .int .i64 0]) w2 := by
    refine ⟨[(⟨0, 0, Mz.freshOf (nth p 0), []⟩, .slice ra (nth p 0).locals.length rc, .slice none 0 0)], [], _, _, _, _, rfl, rfl, rfl, HFR.out, World.ownsRow_nil _ _ _ _, World.ownsRow_nil _ _ _ _, World.ownsRow_nil _ _ _ _, fun x hx => ?_, fun x hx => by cases hx⟩
    obtain rfl := List.mem_singleton.1 hx
    refine ⟨?_, World.ownsRow_nil _ _ _ _⟩
    have h := owns_of_block HOW.out fun g hg => HBA.out.block g (HOW.out.lt g hg).2
    have e : (Mz.freshOf (nth p 0)).length = (nth p 0).locals.length := by unfold Mz.freshOf; simp
    rw [e]; exact h
  refine bodyPost_ret (by simp [results, Tryz.results72, go_sem, d0, d1, d2, d3, d4, d5]; try rfl) rfl ?_
  exact ⟨_, rfl, mkMach.bes hm (Bes.of_only HR2.out on) (by decide), (HB3.out.trans (HBA.out.mono hs2)).trans (on.below hRn)⟩
end Go.Proofs.YthdomhejkbpabaaGreat

/- machine.Start. -/
namespace Go.Proofs.YthdomhejkbpabaaGreat
open Go.RowKit

theorem fits_first {p : List Mz.Fun} (h : Mz.checkFits p = 0) : 0 < p.length ∧ p.length ≤ 5 ∧ (nth p 0).locals.length ≤ 6 := by
  obtain ⟨h1, _⟩ := Mz.checkFits_zero h
  have hp := Mz.checkProg_zero h1
  have h0 : 0 < p.length := List.length_pos_iff.2 hp.ne
  refine ⟨h0, hp.len, (hp.funs (nth p 0) ?_).nlocals⟩
  rw [nth_lt h0]; exact List.getElem_mem _
theorem small_start {p : List Mz.Fun} (h : (nth p 0).locals.length ≤ 6) : smallMach (Mz.startOf p) := by
  refine ⟨by simp [Mz.startOf], by simp [Mz.startOf], by simp [Mz.startOf], by simp [Mz.startOf], (fun b hb => by cases hb), (fun f hf => ?_)⟩
  obtain rfl := List.mem_singleton.1 hf
  refine ⟨?_, by simp⟩
  show (Mz.freshOf (nth p 0)).length < 256
  unfold Mz.freshOf; simp; omega
/-- what Start answers -/
def StartRes (lo : Nat) (p : List Mz.Fun) (e : Ending) (w' : World) : Prop :=
  (Mz.checkFits p = 0 ∧ ∃ v, e = .returned (.tuple #[v, .int .i64 0]) ∧ mkMach lo (Mz.startOf p) v w' ∧ smallMach (Mz.startOf p)) ∨ (Mz.checkFits p ≠ 0 ∧ e = .returned (.tuple #[nilMach, .int .i64 (Mz.checkFits p)]))
set_option maxHeartbeats 2000000 in
set_option maxRecDepth 100000 in
theorem start_any (w : World) (pv : Value) (p : List Mz.Fun) (B : Nat) (hp : RProg w B pv p) (hB : B ≤ w.heap.size) :
    Calls Tryz.prog 22 #[pv] w fun e w' => Below w.heap.size w w' ∧ StartRes w.heap.size p e w' := by
  have HP : Hid (RProg w B pv p) := hp
  obtain ⟨fp, rfl, hp⟩ := hp
  obtain ⟨po, pc, rfl, _, _, _⟩ := hp.open
  clear hp
  go_enter Tryz.func22, Tryz.ntmps22
  go_wp2_with fail
  have hb2 : Below w.heap.size w ((w.alloc (.cells #[.slice po p.length pc] 24)).alloc (.cells #[.slice none 0 0, .slice none 0 0, .slice none 0 0, .slice none 0 0, .int .i64 0, .int .i64 0] 29)) :=
    ((Below.refl _ _).alloc (Nat.le_refl _) _).alloc (by simp) _
  have rR := row_mach (w.alloc (.cells #[.slice po p.length pc] 24)) 0
  have s1 : (w.alloc (.cells #[.slice po p.length pc] 24)).heap.size = w.heap.size + 1 := by simp
  have s2 : ((w.alloc (.cells #[.slice po p.length pc] 24)).alloc (.cells #[.slice none 0 0, .slice none 0 0, .slice none 0 0, .slice none 0 0, .int .i64 0, .int .i64 0] 29)).heap.size = w.heap.size + 2 := by simp
  have cP : ((w.alloc (.cells #[.slice po p.length pc] 24)).alloc (.cells #[.slice none 0 0, .slice none 0 0, .slice none 0 0, .slice none 0 0, .int .i64 0, .int .i64 0] 29)).cell? ⟨w.heap.size, 0, none⟩ = some (.slice po p.length pc) := by rw [cell_old (by simp)]; exact cell_at rfl rfl
  rw [s1] at rR
  generalize ((w.alloc (.cells #[.slice po p.length pc] 24)).alloc (.cells #[.slice none 0 0, .slice none 0 0, .slice none 0 0, .slice none 0 0, .int .i64 0, .int .i64 0] 29)) = W at *
  refine (progFits_any _ p B W (by omega) (HP.out.frame (hb2.mono hB))).mono ?_
  rintro e w1 ⟨rfl, hb3⟩
  obtain ⟨R, hR⟩ : ∃ R, R = w.heap.size + 1 := ⟨_, rfl⟩
  rw [← hR] at rR ⊢
  have hRn : w.heap.size ≤ R := by omega
  have hRne : R ≠ w.heap.size := by omega
  have hRne' : w.heap.size ≠ R := Ne.symm hRne
  have rR1 := rR.of_block (hb3.block _ rR.lt)
  have cP1 := ((bcell hb3).1 _ 0 (show w.heap.size < W.heap.size by omega)).trans cP
  have HR1 := Lib.hid rR1
  have HB3 := Lib.hid (hb2.trans (hb3.mono (by omega)))
  have hs : R < w1.heap.size := rR1.lt
  have hs2 : w.heap.size < w1.heap.size := by omega
  clear rR rR1 hb2 hb3 s1 s2 cP hR
  by_cases hfit : Mz.checkFits p = 0
  · have HFIT := Lib.hid hfit
    have d : (Mz.checkFits p != 0) = false := by simpa using hfit
    clear hfit
    obtain ⟨f1, f2, f3⟩ := fits_first HFIT.out
    go_wp2_with fail
    refine (new_any w1 _ p B ((HP.out.frame (HB3.out.mono hB))) (Nat.le_trans hB HB3.out.size) f1 (by omega)).mono ?_
    rintro e w2 ⟨v, rfl, hmk, hb4⟩
    have HMK := Lib.hid (mkMach.mono hmk HB3.out.size)
    have HB4 := Lib.hid (HB3.out.trans (hb4.mono HB3.out.size))
    have HR2 := Lib.hid (HR1.out.of_block (hb4.block _ hs))
    obtain ⟨fps, bps, fv, bv, iv, ov, e1, e2, rfl, hof, hob, hoi, hoo, _, _⟩ := hmk
    obtain ⟨fa, fc, rfl⟩ := owned_open hof
    obtain ⟨xa, xc, rfl⟩ := owned_open hob
    obtain ⟨ia, ic, rfl⟩ := owned_open hoi
    obtain ⟨oa, oc, rfl⟩ := owned_open hoo
    have r0 : w2.cell? ⟨R, 0, none⟩ = some (.slice none 0 0) := HR2.out.cell (i := 0) (by decide)
    have r1 : w2.cell? ⟨R, 1, none⟩ = some (.slice none 0 0) := HR2.out.cell (i := 1) (by decide)
    have r2 : w2.cell? ⟨R, 2, none⟩ = some (.slice none 0 0) := HR2.out.cell (i := 2) (by decide)
    have r3 : w2.cell? ⟨R, 3, none⟩ = some (.slice none 0 0) := HR2.out.cell (i := 3) (by decide)
    have r4 : w2.cell? ⟨R, 4, none⟩ = some (.int .i64 0) := HR2.out.cell (i := 4) (by decide)
    have r5 : w2.cell? ⟨R, 5, none⟩ = some (.int .i64 0) := HR2.out.cell (i := 5) (by decide)
    have z0 := HR2.out.frozen 0
    have z1 := HR2.out.frozen 1
    have z2 := HR2.out.frozen 2
    have z3 := HR2.out.frozen 3
    have z4 := HR2.out.frozen 4
    have z5 := HR2.out.frozen 5
    have hR2 := HR2.out.lt
    obtain ⟨st, hst⟩ : ∃ st, st = (Mz.startOf p).status := ⟨_, rfl⟩
    obtain ⟨tr, htr⟩ : ∃ tr, tr = (Mz.startOf p).trap := ⟨_, rfl⟩
    obtain ⟨n2, hn2⟩ : ∃ n2, n2 = (Mz.startOf p).inp.length := ⟨_, rfl⟩
    obtain ⟨n3, hn3⟩ : ∃ n3, n3 = (Mz.startOf p).out.length := ⟨_, rfl⟩
    rw [← hst, ← htr, ← hn2, ← hn3] at HMK ⊢
    clear hb4 hof hob hoi hoo e1 e2 hst htr hn2 hn3
    go_wp2_with fail
    obtain ⟨on, d0, d1, d2, d3, d4, d5⟩ := set_six HR2.out (.slice fa fps.length fc) (.slice xa bps.length xc) (.slice ia n2 ic) (.slice oa n3 oc) (.int .i64 st) (.int .i64 tr)
    have hm := mkMach.bes HMK.out (Bes.of_only HR2.out on) (by decide)
    refine bodyPost_ret (by simp [results, Tryz.results22, go_sem, d0, d1, d2, d3, d4, d5]; try rfl) rfl ?_
    exact ⟨HB4.out.trans (on.below hRn), .inl ⟨HFIT.out, _, rfl, hm, small_start f3⟩⟩
  · have HFIT := Lib.hid hfit
    have d : (Mz.checkFits p != 0) = true := by simpa using hfit
    clear hfit
    have r0 : w1.cell? ⟨R, 0, none⟩ = some (.slice none 0 0) := HR1.out.cell (i := 0) (by decide)
    have r1 : w1.cell? ⟨R, 1, none⟩ = some (.slice none 0 0) := HR1.out.cell (i := 1) (by decide)
    have r2 : w1.cell? ⟨R, 2, none⟩ = some (.slice none 0 0) := HR1.out.cell (i := 2) (by decide)
    have r3 : w1.cell? ⟨R, 3, none⟩ = some (.slice none 0 0) := HR1.out.cell (i := 3) (by decide)
    have r4 : w1.cell? ⟨R, 4, none⟩ = some (.int .i64 0) := HR1.out.cell (i := 4) (by decide)
    have r5 : w1.cell? ⟨R, 5, none⟩ = some (.int .i64 0) := HR1.out.cell (i := 5) (by decide)
    have z0 := HR1.out.frozen 0
    have z1 := HR1.out.frozen 1
    have z2 := HR1.out.frozen 2
    have z3 := HR1.out.frozen 3
    have z4 := HR1.out.frozen 4
    have z5 := HR1.out.frozen 5
    go_wp2_with fail
    obtain ⟨on, d0, d1, d2, d3, d4, d5⟩ := set_six HR1.out (.slice none 0 0) (.slice none 0 0) (.slice none 0 0) (.slice none 0 0) (.int .i64 0) (.int .i64 0)
    refine bodyPost_ret (by simp [results, Tryz.results22, go_sem, d0, d1, d2, d3, d4, d5]; try rfl) rfl ?_
    exact ⟨HB3.out.trans (on.below hRn), .inr ⟨HFIT.out, rfl⟩⟩
end Go.Proofs.YthdomhejkbpabaaGreat

/- image.Restore. -/
namespace Go.Proofs.YthdomhejkbpabaaGreat
open Go.RowKit

set_option maxHeartbeats 600000 in
set_option maxRecDepth 100000 in
theorem restore_any (pv : Value) (p : List Mz.Fun) (s : List UInt8) (B : Nat) (w : World) (hB : B ≤ w.heap.size) (hp : RProg w B pv p) (hs : s.length ≤ 9223372036854775807) :
    Calls Tryz.prog 14 #[pv, Str s] w fun e w' => Below w.heap.size w w' ∧ RestoreRes w.heap.size (restoreOf p s) e w' := by
  have HP : Hid (RProg w B pv p) := hp
  obtain ⟨fp, rfl, hp⟩ := hp
  obtain ⟨po, pc, rfl, _, _, _⟩ := hp.open
  clear hp
  obtain ⟨ba, hba⟩ : ∃ ba, Str s = .string ba := ⟨_, rfl⟩
  rw [hba]
  have HBA := Lib.hid hba
  clear hba
  go_enter Tryz.func14, Tryz.ntmps14
  go_wp2_with fail
  have s1 : (w.alloc (.cells #[.slice po p.length pc] 24)).heap.size = w.heap.size + 1 := by simp
  have b1 := (Below.refl w.heap.size w).alloc (Nat.le_refl _) (.cells #[.slice po p.length pc] 24)
  have b2 := (Below.refl (w.heap.size + 1) (w.alloc (.cells #[.slice po p.length pc] 24))).alloc (by rw [s1]; exact Nat.le_refl _) (.cells #[.slice none 0 0, .slice none 0 0, .slice none 0 0, .slice none 0 0, .int .i64 0, .int .i64 0] 29)
  have rR := row_mach (w.alloc (.cells #[.slice po p.length pc] 24)) 0
  rw [s1] at rR
  have cP : ((w.alloc (.cells #[.slice po p.length pc] 24)).alloc (.cells #[.slice none 0 0, .slice none 0 0, .slice none 0 0, .slice none 0 0, .int .i64 0, .int .i64 0] 29)).cell? ⟨w.heap.size, 0, none⟩ = some (.slice po p.length pc) := by rw [cell_old (by simp)]; exact cell_at rfl rfl
  have s2 : ((w.alloc (.cells #[.slice po p.length pc] 24)).alloc (.cells #[.slice none 0 0, .slice none 0 0, .slice none 0 0, .slice none 0 0, .int .i64 0, .int .i64 0] 29)).heap.size = w.heap.size + 2 := by simp
  have hbA := b1.trans (b2.mono (Nat.le_succ _))
  clear b1 b2 s1
  generalize ((w.alloc (.cells #[.slice po p.length pc] 24)).alloc (.cells #[.slice none 0 0, .slice none 0 0, .slice none 0 0, .slice none 0 0, .int .i64 0, .int .i64 0] 29)) = A at *
  obtain ⟨R, hR⟩ : ∃ R, R = w.heap.size + 1 := ⟨_, rfl⟩
  rw [← hR] at rR ⊢
  refine (progFits_any _ p B A (by omega) (HP.out.frame (hbA.mono hB))).mono ?_
  rintro e w1 ⟨rfl, hb1⟩
  have rR1 := rR.of_block (hb1.block _ rR.lt)
  have c1 : w1.cell? ⟨w.heap.size, 0, none⟩ = some (.slice po p.length pc) := by rw [(bcell hb1).1 _ _ (by omega)]; exact cP
  have HB1 := Lib.hid (hbA.trans (hb1.mono (by omega)))
  have hw1 : w.heap.size + 2 ≤ w1.heap.size := by have := hb1.size; omega
  have r0 : w1.cell? ⟨R, 0, none⟩ = some (.slice none 0 0) := rR1.cell (i := 0) (by decide)
  have r1 : w1.cell? ⟨R, 1, none⟩ = some (.slice none 0 0) := rR1.cell (i := 1) (by decide)
  have r2 : w1.cell? ⟨R, 2, none⟩ = some (.slice none 0 0) := rR1.cell (i := 2) (by decide)
  have r3 : w1.cell? ⟨R, 3, none⟩ = some (.slice none 0 0) := rR1.cell (i := 3) (by decide)
  have r4 : w1.cell? ⟨R, 4, none⟩ = some (.int .i64 0) := rR1.cell (i := 4) (by decide)
  have r5 : w1.cell? ⟨R, 5, none⟩ = some (.int .i64 0) := rR1.cell (i := 5) (by decide)
  have z0 := rR1.frozen 0
  have z1 := rR1.frozen 1
  have z2 := rR1.frozen 2
  have z3 := rR1.frozen 3
  have z4 := rR1.frozen 4
  have z5 := rR1.frozen 5
  have HR1 := Lib.hid rR1
  have HRE := Lib.hid hR
  have hRw : w.heap.size ≤ R := by omega
  have hRn : R ≠ w.heap.size := by omega
  have hRn' : w.heap.size ≠ R := fun e => hRn e.symm
  have hRl := rR1.lt
  clear rR rR1 hbA hb1 cP s2 hR
  by_cases hfit : Mz.checkFits p = 0
  · have HFIT := Lib.hid hfit
    have d : (Mz.checkFits p != 0) = false := by simpa using hfit
    clear hfit
    go_wp2_with fail
    have ht := told_any w1 s hs
    rw [HBA.out] at ht
    refine ht.mono ?_
    clear ht
    rintro e w2 ⟨hb2, (⟨m, v, hx, rfl, hmk, hsm⟩ | ⟨hx, rfl⟩)⟩
    · have HR2 := Lib.hid (HR1.out.of_block (hb2.block _ hRl))
      have hcP2 : w2.cell? ⟨w.heap.size, 0, none⟩ = some (.slice po p.length pc) := by rw [(bcell hb2).1 _ _ (by omega)]; exact c1
      have hPl : w.heap.size < w2.heap.size := by have := hb2.size; omega
      clear r0 r1 r2 r3 r4 r5 z0 z1 z2 z3 z4 z5 c1 hs
      have hR2 : R < w2.heap.size := HR2.out.lt
      have HX := Lib.hid hx
      have HSM := Lib.hid hsm
      have HMK := Lib.hid (mkMach.mono hmk (show w.heap.size ≤ w1.heap.size by omega))
      have HB2 := Lib.hid (HB1.out.trans (hb2.mono HB1.out.size))
      obtain ⟨fps, bps, fv, bv, iv, ov, e1, e2, hv, hof, hob, hoi, hoo, _, _⟩ := hmk
      obtain ⟨fa, fc, rfl⟩ := owned_open hof
      obtain ⟨xa, xc, rfl⟩ := owned_open hob
      obtain ⟨ia, ic, rfl⟩ := owned_open hoi
      obtain ⟨oa, oc, rfl⟩ := owned_open hoo
      subst hv
      clear hx hb2 hRl hsm hof hob hoi hoo e1 e2 hw1
      iterate 26 (first | go_values | go_skip | go_guarded | go_step | go_upon | go_back | go_simp)
      have hb3 := (Below.refl w2.heap.size w2).alloc (Nat.le_refl _) (.cells #[.slice fa fps.length fc, .slice xa bps.length xc, .slice ia m.inp.length ic, .slice oa m.out.length oc, .int .i64 m.status, .int .i64 m.trap] 29)
      have HX3 := Lib.hid (row_machA w2 fa xa ia oa fps.length fc bps.length xc m.inp.length ic m.out.length oc m.status m.trap)
      have HR3 := Lib.hid (HR2.out.of_block (hb3.block _ hR2))
      have HB3 := Lib.hid (HB2.out.trans (hb3.mono HB2.out.size))
      have HMK3 := Lib.hid (mkMach.bes HMK.out (T := 143) (Bes.of_below hb3) (by decide))
      have c3 := ((bcell hb3).1 _ 0 hPl).trans hcP2
      have hP3 : w.heap.size < w2.heap.size := hPl
      obtain ⟨X, hX⟩ : ∃ X, X = w2.heap.size := ⟨_, rfl⟩
      have hXR : R ≠ X := by omega
      have hXP : w.heap.size ≠ X := by omega
      have hXR' : X ≠ R := Ne.symm hXR
      rw [← hX] at HX3 ⊢
      have hP3 : w.heap.size < X := by omega
      clear hX hb3 hcP2 hPl hR2
      generalize (w2.alloc (.cells #[.slice fa fps.length fc, .slice xa bps.length xc, .slice ia m.inp.length ic, .slice oa m.out.length oc, .int .i64 m.status, .int .i64 m.trap] 29)) = w3 at *
      have hX3 := HX3.out.lt
      have x0 : w3.cell? ⟨X, 0, none⟩ = some (.slice fa fps.length fc) := HX3.out.cell (i := 0) (by decide)
      have x1 : w3.cell? ⟨X, 1, none⟩ = some (.slice xa bps.length xc) := HX3.out.cell (i := 1) (by decide)
      have x2 : w3.cell? ⟨X, 2, none⟩ = some (.slice ia m.inp.length ic) := HX3.out.cell (i := 2) (by decide)
      have x3 : w3.cell? ⟨X, 3, none⟩ = some (.slice oa m.out.length oc) := HX3.out.cell (i := 3) (by decide)
      have x4 : w3.cell? ⟨X, 4, none⟩ = some (.int .i64 m.status) := HX3.out.cell (i := 4) (by decide)
      have x5 : w3.cell? ⟨X, 5, none⟩ = some (.int .i64 m.trap) := HX3.out.cell (i := 5) (by decide)
      go_wp2_with fail
      refine (right_any _ _ p m w3.heap.size w3 (Nat.le_refl _) ((HP.out.frame (HB3.out.mono hB)).mono (Nat.le_trans hB HB3.out.size)) (mkMach.rmach HMK3.out HSM.out) HFIT.out).mono ?_
      rintro e w4 ⟨rfl, hb4⟩
      have HX4 := Lib.hid (HX3.out.of_block (hb4.block _ hX3))
      have HR4 := Lib.hid (HR3.out.of_block (hb4.block _ HR3.out.lt))
      have HB4 := Lib.hid (HB3.out.trans (hb4.mono HB3.out.size))
      have HMK4 := Lib.hid (mkMach.bes HMK3.out (T := 143) (Bes.of_below hb4) (by decide))
      clear hb4 x0 x1 x2 x3 x4 x5 hX3 c3
      have x0 : w4.cell? ⟨X, 0, none⟩ = some (.slice fa fps.length fc) := HX4.out.cell (i := 0) (by decide)
      have x1 : w4.cell? ⟨X, 1, none⟩ = some (.slice xa bps.length xc) := HX4.out.cell (i := 1) (by decide)
      have x2 : w4.cell? ⟨X, 2, none⟩ = some (.slice ia m.inp.length ic) := HX4.out.cell (i := 2) (by decide)
      have x3 : w4.cell? ⟨X, 3, none⟩ = some (.slice oa m.out.length oc) := HX4.out.cell (i := 3) (by decide)
      have x4 : w4.cell? ⟨X, 4, none⟩ = some (.int .i64 m.status) := HX4.out.cell (i := 4) (by decide)
      have x5 : w4.cell? ⟨X, 5, none⟩ = some (.int .i64 m.trap) := HX4.out.cell (i := 5) (by decide)
      have r0 : w4.cell? ⟨R, 0, none⟩ = some (.slice none 0 0) := HR4.out.cell (i := 0) (by decide)
      have r1 : w4.cell? ⟨R, 1, none⟩ = some (.slice none 0 0) := HR4.out.cell (i := 1) (by decide)
      have r2 : w4.cell? ⟨R, 2, none⟩ = some (.slice none 0 0) := HR4.out.cell (i := 2) (by decide)
      have r3 : w4.cell? ⟨R, 3, none⟩ = some (.slice none 0 0) := HR4.out.cell (i := 3) (by decide)
      have r4 : w4.cell? ⟨R, 4, none⟩ = some (.int .i64 0) := HR4.out.cell (i := 4) (by decide)
      have r5 : w4.cell? ⟨R, 5, none⟩ = some (.int .i64 0) := HR4.out.cell (i := 5) (by decide)
      have z0 := HR4.out.frozen 0
      have z1 := HR4.out.frozen 1
      have z2 := HR4.out.frozen 2
      have z3 := HR4.out.frozen 3
      have z4 := HR4.out.frozen 4
      have z5 := HR4.out.frozen 5
      have hR4 := HR4.out.lt
      have hX4 := HX4.out.lt
      by_cases hrt : Mz.checkRight p m = 0
      · have HRT := Lib.hid hrt
        have d : (Mz.checkRight p m != 0) = false := by simpa using hrt
        clear hrt
        go_wp2_with fail
        obtain ⟨on, d0, d1, d2, d3, d4, d5⟩ := set_six HR4.out (.slice fa fps.length fc) (.slice xa bps.length xc) (.slice ia m.inp.length ic) (.slice oa m.out.length oc) (.int .i64 m.status) (.int .i64 m.trap)
        have hm := mkMach.bes HMK4.out (Bes.of_only HR4.out on) (by decide)
        refine bodyPost_ret (by simp [results, Tryz.results14, go_sem, d0, d1, d2, d3, d4, d5]; try rfl) rfl ?_
        refine ⟨HB4.out.trans (on.below hRw), ?_⟩
        unfold restoreOf RestoreRes; rw [if_neg (by rw [HFIT.out]; decide), HX.out]
        simp only
        rw [if_neg (by rw [HRT.out]; decide)]
        exact ⟨_, rfl, hm, HSM.out⟩
      · have HRT := Lib.hid hrt
        have d : (Mz.checkRight p m != 0) = true := by simpa using hrt
        clear hrt
        go_wp2_with fail
        obtain ⟨on, d0, d1, d2, d3, d4, d5⟩ := set_nils HR4.out
        refine bodyPost_ret (by simp [results, Tryz.results14, go_sem, d0, d1, d2, d3, d4, d5]; try rfl) rfl ?_
        refine ⟨HB4.out.trans (on.below hRw), ?_⟩
        unfold restoreOf RestoreRes; rw [if_neg (by rw [HFIT.out]; decide), HX.out]
        simp only
        rw [if_pos HRT.out]
        rfl
    · have HR2 := Lib.hid (HR1.out.of_block (hb2.block _ hRl))
      clear r0 r1 r2 r3 r4 r5 z0 z1 z2 z3 z4 z5 c1 hw1 hs
      have r0 : w2.cell? ⟨R, 0, none⟩ = some (.slice none 0 0) := HR2.out.cell (i := 0) (by decide)
      have r1 : w2.cell? ⟨R, 1, none⟩ = some (.slice none 0 0) := HR2.out.cell (i := 1) (by decide)
      have r2 : w2.cell? ⟨R, 2, none⟩ = some (.slice none 0 0) := HR2.out.cell (i := 2) (by decide)
      have r3 : w2.cell? ⟨R, 3, none⟩ = some (.slice none 0 0) := HR2.out.cell (i := 3) (by decide)
      have r4 : w2.cell? ⟨R, 4, none⟩ = some (.int .i64 0) := HR2.out.cell (i := 4) (by decide)
      have r5 : w2.cell? ⟨R, 5, none⟩ = some (.int .i64 0) := HR2.out.cell (i := 5) (by decide)
      have z0 := HR2.out.frozen 0
      have z1 := HR2.out.frozen 1
      have z2 := HR2.out.frozen 2
      have z3 := HR2.out.frozen 3
      have z4 := HR2.out.frozen 4
      have z5 := HR2.out.frozen 5
      have hR2 : R < w2.heap.size := HR2.out.lt
      have HX := Lib.hid hx
      have HB2 := Lib.hid (HB1.out.trans (hb2.mono HB1.out.size))
      clear hx hb2 hRl
      iterate 26 (first | go_values | go_skip | go_guarded | go_step | go_upon | go_back | go_simp)
      have hb3 := (Below.refl w2.heap.size w2).alloc (Nat.le_refl _) (.cells #[.slice none 0 0, .slice none 0 0, .slice none 0 0, .slice none 0 0, .int .i64 0, .int .i64 0] 29)
      have HR3 := Lib.hid (HR2.out.of_block (hb3.block _ hR2))
      have HB3 := Lib.hid (HB2.out.trans (hb3.mono HB2.out.size))
      obtain ⟨X, hX⟩ : ∃ X, X = w2.heap.size := ⟨_, rfl⟩
      rw [← hX]
      clear hX hb3 r0 r1 r2 r3 r4 r5 z0 z1 z2 z3 z4 z5
      generalize (w2.alloc (.cells #[.slice none 0 0, .slice none 0 0, .slice none 0 0, .slice none 0 0, .int .i64 0, .int .i64 0] 29)) = w3 at *
      have r0 : w3.cell? ⟨R, 0, none⟩ = some (.slice none 0 0) := HR3.out.cell (i := 0) (by decide)
      have r1 : w3.cell? ⟨R, 1, none⟩ = some (.slice none 0 0) := HR3.out.cell (i := 1) (by decide)
      have r2 : w3.cell? ⟨R, 2, none⟩ = some (.slice none 0 0) := HR3.out.cell (i := 2) (by decide)
      have r3 : w3.cell? ⟨R, 3, none⟩ = some (.slice none 0 0) := HR3.out.cell (i := 3) (by decide)
      have r4 : w3.cell? ⟨R, 4, none⟩ = some (.int .i64 0) := HR3.out.cell (i := 4) (by decide)
      have r5 : w3.cell? ⟨R, 5, none⟩ = some (.int .i64 0) := HR3.out.cell (i := 5) (by decide)
      have z0 := HR3.out.frozen 0
      have z1 := HR3.out.frozen 1
      have z2 := HR3.out.frozen 2
      have z3 := HR3.out.frozen 3
      have z4 := HR3.out.frozen 4
      have z5 := HR3.out.frozen 5
      have hR3 : R < w3.heap.size := HR3.out.lt
      clear hR2
      go_wp2_with fail
      obtain ⟨on, d0, d1, d2, d3, d4, d5⟩ := set_nils HR3.out
      refine bodyPost_ret (by simp [results, Tryz.results14, go_sem, d0, d1, d2, d3, d4, d5]; try rfl) rfl ?_
      refine ⟨HB3.out.trans (on.below hRw), ?_⟩
      unfold restoreOf RestoreRes; rw [if_neg (by rw [HFIT.out]; decide), HX.out]; rfl
  · have HFIT := Lib.hid hfit
    have d : (Mz.checkFits p != 0) = true := by simpa using hfit
    clear hfit
    go_wp2_with fail
    obtain ⟨on, d0, d1, d2, d3, d4, d5⟩ := set_nils HR1.out
    refine bodyPost_ret (by simp [results, Tryz.results14, go_sem, d0, d1, d2, d3, d4, d5]; try rfl) rfl ?_
    refine ⟨HB1.out.trans (on.below hRw), ?_⟩
    unfold restoreOf RestoreRes; rw [if_pos HFIT.out]; rfl
end Go.Proofs.YthdomhejkbpabaaGreat

/- The law's imageBegun. -/
namespace Go.Proofs.YthdomhejkbpabaaGreat
open Go.RowKit

/-- a machine in its box -/
def InBox (w : World) (X : Nat) (v : Value) : Prop := ∃ (f b i o : Option Addr) (fn fc bn bc n ic on oc : Nat) (st tr : Int), v = .agg #[.slice f fn fc, .slice b bn bc, .slice i n ic, .slice o on oc, .int .i64 st, .int .i64 tr] ∧ w.rowIs X 29 6 (mfld (.slice f fn fc) (.slice b bn bc) (.slice i n ic) (.slice o on oc) st tr)
/-- a machine's value is six parts -/
theorem mkMach.open {lo : Nat} {m : Mz.Mach} {v : Value} {w : World} (h : mkMach lo m v w) : ∃ (f b i o : Option Addr) (fn fc bn bc n ic on oc : Nat) (st tr : Int), v = .agg #[.slice f fn fc, .slice b bn bc, .slice i n ic, .slice o on oc, .int .i64 st, .int .i64 tr] := by
  obtain ⟨fps, bps, fv, bv, iv, ov, e1, e2, rfl, hof, hob, hoi, hoo, _, _⟩ := h
  obtain ⟨fa, fc, rfl⟩ := owned_open hof
  obtain ⟨xa, xc, rfl⟩ := owned_open hob
  obtain ⟨ia, ic, rfl⟩ := owned_open hoi
  obtain ⟨oa, oc, rfl⟩ := owned_open hoo
  exact ⟨_, _, _, _, _, _, _, _, _, _, _, _, _, _, rfl⟩
theorem RProg.open {w : World} {B : Nat} {v : Value} {p : List Mz.Fun} (h : RProg w B v p) : ∃ po pc, v = .agg #[.slice po p.length pc] := by
  obtain ⟨fp, rfl, hp⟩ := h
  obtain ⟨po, pc, rfl, _⟩ := hp.open
  exact ⟨_, _, rfl⟩
theorem holder_restore : restoreOf Mz.holderP (Mz.imageOf (Mz.startOf Mz.holderP)) = (some (Mz.startOf Mz.holderP), 0) := by
  unfold restoreOf; rw [if_neg (by rw [Mz.holder_fits]; decide), Mz.holder_back]; simp only; rw [if_neg (by rw [Mz.holder_right]; decide)]
theorem holder_restore_z : restoreOf Mz.holderP (Mz.imageOf (Mz.startOf Mz.holderP) ++ [122]) = (none, 1) := by
  unfold restoreOf; rw [if_neg (by rw [Mz.holder_fits]; decide), Mz.holder_z]

set_option maxHeartbeats 4000000 in
set_option maxRecDepth 100000 in
theorem imageBegun_any (w : World) :
    Calls Tryz.prog 20 #[] w fun e w' => e = .returned (.bool true) ∧ Below w.heap.size w w' := by
  obtain ⟨m0, hm0⟩ : ∃ m0, m0 = Mz.startOf Mz.holderP := ⟨_, rfl⟩
  have hL15 := Mz.holder_image
  have hr1 := holder_restore
  have hr2 := holder_restore_z
  have hcm := Mz.holder_start
  rw [← hm0] at hL15 hr1 hr2 hcm
  obtain ⟨L, hL⟩ : ∃ L, L = Mz.imageOf m0 := ⟨_, rfl⟩
  rw [← hL] at hL15 hr1 hr2
  have HM0 := Lib.hid hm0
  have HL := Lib.hid hL
  have HR1 := Lib.hid hr1
  have HR2 := Lib.hid hr2
  have HCM := Lib.hid hcm
  obtain ⟨ba, hba, hsz⟩ : ∃ ba : ByteArray, Str L = .string ba ∧ ba.size = 15 := ⟨⟨L.toArray⟩, rfl, by simp [ByteArray.size, hL15]⟩
  have hbz : Str (L ++ [122]) = .string (ba ++ { data := #[122] }) := by
    have e : ba = ⟨L.toArray⟩ := by
      have := hba; unfold Str at this; simpa using this.symm
    rw [e]; unfold Str; congr 1; all_goals (apply ByteArray.ext; simp)
  have hb1 : ba.size ≤ 100 := by omega
  have HBAS := Lib.hid hba
  have HBZ := Lib.hid hbz
  have HL15 := Lib.hid hL15
  have d15 : ((ba.size : Int) == 15) = true := by simp [hsz]
  have d15' : (ba.size == 15) = true := by rw [hsz, beq_self_eq_true]
  clear hm0 hL hr1 hr2 hcm hba hbz hsz hL15
  go_enter Tryz.func20, Tryz.ntmps20
  go_wp2_with fail
  refine (holder_any w).mono ?_
  rintro e w1 ⟨pv1, rfl, hp1, hb1⟩
  have HP1 := Lib.hid hp1
  obtain ⟨po1, pc1, rfl⟩ := hp1.open
  have HB1 := Lib.hid hb1
  clear hp1 hb1
  go_wp2_with fail
  refine (start_any w1 _ Mz.holderP w1.heap.size HP1.out (Nat.le_refl _)).mono ?_
  rintro e w2 ⟨hb2, hres⟩
  obtain ⟨_, v, rfl, hmk, hsm⟩ := hres.resolve_right (fun h => h.1 Mz.holder_fits)
  rw [← HM0.out] at hmk hsm
  obtain ⟨fo, bo, io, oo, fn, fc, bn, bc, n, ic, on, oc, st, tr, rfl⟩ := hmk.open
  have HMK := Lib.hid hmk
  have HSM := Lib.hid hsm
  have HB2 := Lib.hid (HB1.out.trans (hb2.mono HB1.out.size))
  clear hmk hsm hb2 hres
  go_wp2_with fail
  have hb3 := (Below.refl w2.heap.size w2).alloc (Nat.le_refl _) (.cells #[.slice fo fn fc, .slice bo bn bc, .slice io n ic, .slice oo on oc, .int .i64 st, .int .i64 tr] 29)
  have HX1 := Lib.hid (row_machA w2 fo bo io oo fn fc bn bc n ic on oc st tr)
  have HMK3 := Lib.hid (mkMach.bes HMK.out (T := 143) (Bes.of_below hb3) (by decide))
  have HB3 := Lib.hid (HB2.out.trans (hb3.mono HB2.out.size))
  obtain ⟨X1, hX1⟩ : ∃ X1, X1 = w2.heap.size := ⟨_, rfl⟩
  rw [← hX1] at HX1 ⊢
  clear hb3 hX1
  generalize (w2.alloc (.cells #[.slice fo fn fc, .slice bo bn bc, .slice io n ic, .slice oo on oc, .int .i64 st, .int .i64 tr] 29)) = w3 at *
  have hN' := Lib.hid HX1.out.lt
  have K : Hid (w3.cell? ⟨X1, 0, none⟩ = some (.slice fo fn fc) ∧ w3.cell? ⟨X1, 1, none⟩ = some (.slice bo bn bc) ∧ w3.cell? ⟨X1, 2, none⟩ = some (.slice io n ic) ∧ w3.cell? ⟨X1, 3, none⟩ = some (.slice oo on oc) ∧ w3.cell? ⟨X1, 4, none⟩ = some (.int .i64 st) ∧ w3.cell? ⟨X1, 5, none⟩ = some (.int .i64 tr)) := ⟨HX1.out.cell (i := 0) (by decide), HX1.out.cell (i := 1) (by decide), HX1.out.cell (i := 2) (by decide), HX1.out.cell (i := 3) (by decide), HX1.out.cell (i := 4) (by decide), HX1.out.cell (i := 5) (by decide)⟩
  obtain ⟨k0, k1, k2, k3, k4, k5⟩ := K.out
  have HBA := Lib.hid (Below.refl w3.heap.size w3).drew
  go_region_held3 (fun w' => w'.cell? ⟨X1, 0, none⟩ = some (.slice fo fn fc) ∧ w'.cell? ⟨X1, 1, none⟩ = some (.slice bo bn bc) ∧ w'.cell? ⟨X1, 2, none⟩ = some (.slice io n ic) ∧ w'.cell? ⟨X1, 3, none⟩ = some (.slice oo on oc) ∧ w'.cell? ⟨X1, 4, none⟩ = some (.int .i64 st) ∧ w'.cell? ⟨X1, 5, none⟩ = some (.int .i64 tr)) (first | go_keep | exact kk)
    (first
      | (go_at_call 71; refine (holder_any _).mono ?_; rintro e w4 ⟨pv2, rfl, hp2, hb4⟩; have HBA := Lib.hid (via0 HBA.out HBA.out.size hb4); have HP2 := Lib.hid hp2; obtain ⟨po2, pc2, rfl⟩ := hp2.open; have hcc := (bcell HBA.out).1; have kk : w4.cell? ⟨X1, 0, none⟩ = some (.slice fo fn fc) ∧ w4.cell? ⟨X1, 1, none⟩ = some (.slice bo bn bc) ∧ w4.cell? ⟨X1, 2, none⟩ = some (.slice io n ic) ∧ w4.cell? ⟨X1, 3, none⟩ = some (.slice oo on oc) ∧ w4.cell? ⟨X1, 4, none⟩ = some (.int .i64 st) ∧ w4.cell? ⟨X1, 5, none⟩ = some (.int .i64 tr) := ⟨(hcc _ _ hN'.out).trans K.out.1, (hcc _ _ hN'.out).trans K.out.2.1, (hcc _ _ hN'.out).trans K.out.2.2.1, (hcc _ _ hN'.out).trans K.out.2.2.2.1, (hcc _ _ hN'.out).trans K.out.2.2.2.2.1, (hcc _ _ hN'.out).trans K.out.2.2.2.2.2⟩; clear hcc hp2 hb4)
      | (go_at_call 13; refine (save_any _ _ Mz.holderP m0 w4.heap.size _ (Nat.le_refl _) HP2.out (((HMK3.out.rmach HSM.out).frame HBA.out).mono HBA.out.size)).mono ?_; rintro e w5 ⟨hb5, hsv⟩; obtain ⟨_, rfl⟩ := hsv.resolve_right (fun h => h.1 HCM.out); have HBA := Lib.hid (via0 HBA.out HBA.out.size hb5); have hcc := (bcell HBA.out).1; have kk : w5.cell? ⟨X1, 0, none⟩ = some (.slice fo fn fc) ∧ w5.cell? ⟨X1, 1, none⟩ = some (.slice bo bn bc) ∧ w5.cell? ⟨X1, 2, none⟩ = some (.slice io n ic) ∧ w5.cell? ⟨X1, 3, none⟩ = some (.slice oo on oc) ∧ w5.cell? ⟨X1, 4, none⟩ = some (.int .i64 st) ∧ w5.cell? ⟨X1, 5, none⟩ = some (.int .i64 tr) := ⟨(hcc _ _ hN'.out).trans K.out.1, (hcc _ _ hN'.out).trans K.out.2.1, (hcc _ _ hN'.out).trans K.out.2.2.1, (hcc _ _ hN'.out).trans K.out.2.2.2.1, (hcc _ _ hN'.out).trans K.out.2.2.2.2.1, (hcc _ _ hN'.out).trans K.out.2.2.2.2.2⟩; rw [← HL.out, HBAS.out]; clear hcc hb5 hsv))
  obtain ⟨kk0, kk1, kk2, kk3, kk4, kk5⟩ := kk
  have HB5 := Lib.hid (HB3.out.trans (HBA.out.mono HB3.out.size))
  have HX5 := Lib.hid (HX1.out.of_block (HBA.out.block _ hN'.out))
  have HMK5 : Hid (mkMach w1.heap.size m0 (.agg #[.slice fo fn fc, .slice bo bn bc, .slice io n ic, .slice oo on oc, .int .i64 st, .int .i64 tr]) w5) := mkMach.bes HMK3.out (T := 143) (Bes.of_below HBA.out) (by decide)
  clear kk0 kk1 kk2 kk3 kk4 kk5 k0 k1 k2 k3 k4 k5 HBA
  go_wp2_with fail
  refine (holder_any w5).mono ?_
  rintro e w6 ⟨pv3, rfl, hp3, hb6⟩
  have HP3 := Lib.hid hp3
  obtain ⟨po3, pc3, rfl⟩ := hp3.open
  have HB6 := Lib.hid (HB5.out.trans (hb6.mono HB5.out.size))
  have HX6 := Lib.hid (HX5.out.of_block (hb6.block _ HX5.out.lt))
  have HMK6 := Lib.hid (mkMach.bes HMK5.out (T := 143) (Bes.of_below hb6) (by decide))
  clear hp3 hb6
  go_wp2_with fail
  have hrr := restore_any _ Mz.holderP L w6.heap.size w6 (Nat.le_refl _) HP3.out (by rw [HL15.out]; omega)
  rw [HBAS.out] at hrr
  refine hrr.mono ?_
  clear hrr
  rintro e w7 ⟨hb7, hres⟩
  rw [HR1.out] at hres
  obtain ⟨v, rfl, hmk, hsm⟩ := hres
  obtain ⟨fo', bo', io', oo', fn', fc', bn', bc', n', ic', on', oc', st', tr', rfl⟩ := hmk.open
  have HMK' := Lib.hid hmk
  have HB7 := Lib.hid (HB6.out.trans (hb7.mono HB6.out.size))
  have HX7 := Lib.hid (HX6.out.of_block (hb7.block _ HX6.out.lt))
  have HMK7 := Lib.hid (mkMach.bes HMK6.out (T := 143) (Bes.of_below hb7) (by decide))
  clear hmk hsm hb7
  go_wp2_with fail
  have hb8 := (Below.refl w7.heap.size w7).alloc (Nat.le_refl _) (.cells #[.slice fo' fn' fc', .slice bo' bn' bc', .slice io' n' ic', .slice oo' on' oc', .int .i64 st', .int .i64 tr'] 29)
  have HY8 := Lib.hid (row_machA w7 fo' bo' io' oo' fn' fc' bn' bc' n' ic' on' oc' st' tr')
  have HMK8' := Lib.hid (mkMach.bes HMK'.out (T := 143) (Bes.of_below hb8) (by decide))
  have HMK8 := Lib.hid (mkMach.bes HMK7.out (T := 143) (Bes.of_below hb8) (by decide))
  have HB8 := Lib.hid (HB7.out.trans (hb8.mono HB7.out.size))
  have HX8 := Lib.hid (HX7.out.of_block (hb8.block _ HX7.out.lt))
  obtain ⟨X2, hX2⟩ : ∃ X2, X2 = w7.heap.size := ⟨_, rfl⟩
  rw [← hX2] at HY8 ⊢
  clear hb8 hX2
  generalize (w7.alloc (.cells #[.slice fo' fn' fc', .slice bo' bn' bc', .slice io' n' ic', .slice oo' on' oc', .int .i64 st', .int .i64 tr'] 29)) = w8 at *
  refine (holder_any w8).mono ?_
  rintro e w9 ⟨pv4, rfl, hp4, hb9⟩
  have HP4 := Lib.hid hp4
  obtain ⟨po4, pc4, rfl⟩ := hp4.open
  have HB9 := Lib.hid (HB8.out.trans (hb9.mono HB8.out.size))
  have HX9 := Lib.hid (HX8.out.of_block (hb9.block _ HX8.out.lt))
  have HY9 := Lib.hid (HY8.out.of_block (hb9.block _ HY8.out.lt))
  have HMK9 := Lib.hid (mkMach.bes HMK8.out (T := 143) (Bes.of_below hb9) (by decide))
  have HMK9' := Lib.hid (mkMach.bes HMK8'.out (T := 143) (Bes.of_below hb9) (by decide))
  clear hp4 hb9
  go_wp2_with fail
  have hrr := restore_any _ Mz.holderP (L ++ [122]) w9.heap.size w9 (Nat.le_refl _) HP4.out (by rw [List.length_append, HL15.out]; decide)
  rw [HBZ.out] at hrr
  refine hrr.mono ?_
  clear hrr
  rintro e w10 ⟨hb10, hres⟩
  rw [HR2.out] at hres
  obtain rfl : e = .returned (.tuple #[nilMach, .int .i64 1]) := hres
  have HB10 := Lib.hid (HB9.out.trans (hb10.mono HB9.out.size))
  have HX10 := Lib.hid (HX9.out.of_block (hb10.block _ HX9.out.lt))
  have HY10 := Lib.hid (HY9.out.of_block (hb10.block _ HY9.out.lt))
  have HMK10 := Lib.hid (mkMach.bes HMK9.out (T := 143) (Bes.of_below hb10) (by decide))
  have HMK10' := Lib.hid (mkMach.bes HMK9'.out (T := 143) (Bes.of_below hb10) (by decide))
  clear hb10
  unfold nilMach
  iterate 30 (first | go_values | go_skip | go_guarded | go_step | go_upon | go_back | go_simp)
  have hb11 := (Below.refl w10.heap.size w10).alloc (Nat.le_refl _) (.cells #[.slice none 0 0, .slice none 0 0, .slice none 0 0, .slice none 0 0, .int .i64 0, .int .i64 0] 29)
  have HX11 := Lib.hid (HX10.out.of_block (hb11.block _ HX10.out.lt))
  have HY11 := Lib.hid (HY10.out.of_block (hb11.block _ HY10.out.lt))
  have HMK11 := Lib.hid (mkMach.bes HMK10.out (T := 143) (Bes.of_below hb11) (by decide))
  have HMK11' := Lib.hid (mkMach.bes HMK10'.out (T := 143) (Bes.of_below hb11) (by decide))
  have HB11 := Lib.hid (HB10.out.trans (hb11.mono HB10.out.size))
  obtain ⟨X3, hX3⟩ : ∃ X3, X3 = w10.heap.size := ⟨_, rfl⟩
  rw [← hX3]
  clear hb11 hX3
  generalize (w10.alloc (.cells #[.slice none 0 0, .slice none 0 0, .slice none 0 0, .slice none 0 0, .int .i64 0, .int .i64 0] 29)) = w11 at *
  have c0 : w11.cell? ⟨X1, 0, none⟩ = some (.slice fo fn fc) := HX11.out.cell (i := 0) (by decide)
  have c1 : w11.cell? ⟨X1, 1, none⟩ = some (.slice bo bn bc) := HX11.out.cell (i := 1) (by decide)
  have c2 : w11.cell? ⟨X1, 2, none⟩ = some (.slice io n ic) := HX11.out.cell (i := 2) (by decide)
  have c3 : w11.cell? ⟨X1, 3, none⟩ = some (.slice oo on oc) := HX11.out.cell (i := 3) (by decide)
  have c4 : w11.cell? ⟨X1, 4, none⟩ = some (.int .i64 st) := HX11.out.cell (i := 4) (by decide)
  have c5 : w11.cell? ⟨X1, 5, none⟩ = some (.int .i64 tr) := HX11.out.cell (i := 5) (by decide)
  have y0 : w11.cell? ⟨X2, 0, none⟩ = some (.slice fo' fn' fc') := HY11.out.cell (i := 0) (by decide)
  have y1 : w11.cell? ⟨X2, 1, none⟩ = some (.slice bo' bn' bc') := HY11.out.cell (i := 1) (by decide)
  have y2 : w11.cell? ⟨X2, 2, none⟩ = some (.slice io' n' ic') := HY11.out.cell (i := 2) (by decide)
  have y3 : w11.cell? ⟨X2, 3, none⟩ = some (.slice oo' on' oc') := HY11.out.cell (i := 3) (by decide)
  have y4 : w11.cell? ⟨X2, 4, none⟩ = some (.int .i64 st') := HY11.out.cell (i := 4) (by decide)
  have y5 : w11.cell? ⟨X2, 5, none⟩ = some (.int .i64 tr') := HY11.out.cell (i := 5) (by decide)
  go_wp2_with fail
  refine (sameMach_any _ _ m0 m0 w11.heap.size w11 (HMK11.out.rmach HSM.out) (HMK11'.out.rmach HSM.out) (Nat.le_refl _)).mono ?_
  rintro e w12 ⟨rfl, hb12⟩
  have HB12 := Lib.hid (HB11.out.trans (hb12.mono HB11.out.size))
  clear hb12
  go_wp2_with fail
  go_ret
  exact ⟨ret_bool (by simp), HB12.out⟩
end Go.Proofs.YthdomhejkbpabaaGreat

/- The law's machineIs. -/
namespace Go.Proofs.YthdomhejkbpabaaGreat
open Go.RowKit

def zeroM : Mz.Mach := ⟨[], [], [], [], 0, 0⟩
theorem RMach.zero (w : World) (B : Nat) : RMach w B (.agg #[.slice none 0 0, .slice none 0 0, .slice none 0 0, .slice none 0 0, .int .i64 0, .int .i64 0]) zeroM :=
  ⟨_, _, _, _, rfl, ⟨[], rfl, Sl.nil _ _ _, (fun x hx => by cases hx)⟩, ⟨[], rfl, Sl.nil _ _ _, (fun i hi => by cases hi)⟩, Sl.nil _ _ _, Sl.nil _ _ _⟩
/-- what a machine must be beside an errno -/
def wantM (w0 : Int) (b : Mz.Mach) : Mz.Mach := if w0 = 0 then b else zeroM
def isB (e0 w0 : Int) (a b : Mz.Mach) : Bool := decide (e0 = w0) && decide (a = wantM w0 b)
theorem isB_ne {e0 w0 : Int} (h : e0 ≠ w0) (a b : Mz.Mach) : isB e0 w0 a b = false := by unfold isB; simp [h]
theorem isB_eq {e0 w0 : Int} (h : e0 = w0) (a b : Mz.Mach) : isB e0 w0 a b = decide (a = wantM w0 b) := by unfold isB; simp [h]

set_option maxHeartbeats 2000000 in
set_option maxRecDepth 100000 in
theorem machineIs_any (u v : Value) (a b : Mz.Mach) (e0 w0 : Int) (B : Nat) (w : World) (ha : RMach w B u a) (hb : RMach w B v b) (hB : B ≤ w.heap.size) :
    Calls Tryz.prog 21 #[u, .int .i64 e0, .int .i64 w0, v] w fun e w' => e = .returned (.bool (isB e0 w0 a b)) ∧ Below w.heap.size w w' := by
  have HA : Hid (RMach w B u a) := ha
  have HB : Hid (RMach w B v b) := hb
  obtain ⟨fv, bv, iv, ov, rfl, af, ab, ai, ao⟩ := ha
  obtain ⟨fv', bv', iv', ov', rfl, bf, bb, bi, bo⟩ := hb
  obtain ⟨fo, fc, rfl, _, _, _⟩ := af.open
  obtain ⟨bo1, bc, rfl, _, _, _⟩ := ab.open
  obtain ⟨io, ic, rfl, _, _, _⟩ := ai.open
  obtain ⟨oo, oc, rfl, _, _, _⟩ := ao.open
  obtain ⟨fo', fc', rfl, _, _, _⟩ := bf.open
  obtain ⟨bo', bc', rfl, _, _, _⟩ := bb.open
  obtain ⟨io', ic', rfl, _, _, _⟩ := bi.open
  obtain ⟨oo', oc', rfl, _, _, _⟩ := bo.open
  clear af ab ai ao bf bb bi bo
  have HB0 : Hid (Below w.heap.size w ((w.alloc (.cells #[.slice fo a.frames.length fc, .slice bo1 a.blocks.length bc, .slice io a.inp.length ic, .slice oo a.out.length oc, .int .i64 a.status, .int .i64 a.trap] 29)).alloc (.cells #[.slice fo' b.frames.length fc', .slice bo' b.blocks.length bc', .slice io' b.inp.length ic', .slice oo' b.out.length oc', .int .i64 b.status, .int .i64 b.trap] 29))) :=
    ((Below.refl _ _).alloc (Nat.le_refl _) _).alloc (by simp) _
  by_cases hw : w0 = 0
  · have dw : (w0 != 0) = false := by simpa using hw
    have HW : Hid (wantM w0 b = b) := by unfold Hid wantM; rw [if_pos hw]
    clear hw
    by_cases he : e0 = w0
    · have de : (e0 == w0) = true := by simpa using he
      have HE := Lib.hid he
      clear he
      go_enter Tryz.func21, Tryz.ntmps21
      go_wp2_with fail
      refine (sameMach_any _ _ a b B _ (HA.out.frame (HB0.out.mono hB)) (HB.out.frame (HB0.out.mono hB)) (Nat.le_trans hB HB0.out.size)).mono ?_
      rintro e w3 ⟨rfl, hb3⟩
      have HB3 := Lib.hid (HB0.out.trans (hb3.mono HB0.out.size))
      clear hb3
      go_wp2_with fail
      go_ret
      exact ⟨ret_bool (by rw [isB_eq HE.out, HW.out]), HB3.out⟩
    · have de : (e0 == w0) = false := by simpa using he
      have HE := Lib.hid (isB_ne he a b)
      clear he
      go_enter Tryz.func21, Tryz.ntmps21
      go_wp2_with fail
      go_ret
      exact ⟨ret_bool (by rw [HE.out]), HB0.out⟩
  · have dw : (w0 != 0) = true := by simpa using hw
    have HW : Hid (wantM w0 b = zeroM) := by unfold Hid wantM; rw [if_neg hw]
    clear hw
    have HB1 : Hid (Below w.heap.size w ((w.alloc (.cells #[.slice fo a.frames.length fc, .slice bo1 a.blocks.length bc, .slice io a.inp.length ic, .slice oo a.out.length oc, .int .i64 a.status, .int .i64 a.trap] 29)).alloc (.cells #[.slice none 0 0, .slice none 0 0, .slice none 0 0, .slice none 0 0, .int .i64 0, .int .i64 0] 29))) :=
      ((Below.refl _ _).alloc (Nat.le_refl _) _).alloc (by simp) _
    by_cases he : e0 = w0
    · have de : (e0 == w0) = true := by simpa using he
      have HE := Lib.hid he
      clear he
      go_enter Tryz.func21, Tryz.ntmps21
      go_wp2_with fail
      refine (sameMach_any _ _ a zeroM B _ (HA.out.frame (HB1.out.mono hB)) (RMach.zero _ _) (Nat.le_trans hB HB1.out.size)).mono ?_
      rintro e w3 ⟨rfl, hb3⟩
      have HB3 := Lib.hid (HB1.out.trans (hb3.mono HB1.out.size))
      clear hb3
      go_wp2_with fail
      go_ret
      exact ⟨ret_bool (by rw [isB_eq HE.out, HW.out]), HB3.out⟩
    · have de : (e0 == w0) = false := by simpa using he
      have HE := Lib.hid (isB_ne he a b)
      clear he
      go_enter Tryz.func21, Tryz.ntmps21
      go_wp2_with fail
      go_ret
      exact ⟨ret_bool (by rw [HE.out]), HB1.out⟩
end Go.Proofs.YthdomhejkbpabaaGreat
