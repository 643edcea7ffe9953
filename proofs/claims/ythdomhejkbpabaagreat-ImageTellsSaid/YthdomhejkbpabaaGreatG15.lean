/- Lemmas: RefFits, ProgFits, Blocks, Blocks2, Entry, Entry2, Chk, Want, Want2. -/
import Derived.Test.YthdomhejkbpabaaGreatG11
import Derived.Test.YthdomhejkbpabaaGreatG14
import Derived.Test.YthdomhejkbpabaaGreatG13
import Derived.Test.YthdomhejkbpabaaGreatG05
import Derived.Test.YthdomhejkbpabaaGreatG02
set_option linter.unusedVariables false
set_option linter.unusedSimpArgs false
/- A program that fits: CheckFits of the reference. -/
namespace Go.Proofs.YthdomhejkbpabaaGreat
open Go.RowKit

def fitsTo (p : List Mz.Fun) (k : Nat) : Int := if Mz.checkProg p ≠ 0 then Mz.checkProg p else if (p.take k).all (fun f => (Mz.entriesSt p f).isSome) then 0 else 4
theorem take_snoc' {α : Type} [Inhabited α] {l : List α} {k : Nat} (h : k < l.length) : l.take (k + 1) = l.take k ++ [nth l k] := by
  rw [List.take_succ_eq_append_getElem h, nth_lt h]
theorem fitsTo_succ {p : List Mz.Fun} {k : Nat} (hk : k < p.length) (h : fitsTo p k = 0) : fitsTo p (k + 1) = if (Mz.entriesSt p (nth p k)).isSome then 0 else 4 := by
  unfold fitsTo at h ⊢
  split at h
  · rename_i c; exact absurd h c
  · rename_i c
    rw [if_neg c, take_snoc' hk, List.all_append]
    split at h
    · rename_i d; simp [d]
    · cases h
theorem fitsTo_stop {p : List Mz.Fun} {k : Nat} (h : fitsTo p k ≠ 0) : Mz.checkFits p = fitsTo p k := by
  unfold fitsTo at h ⊢
  unfold Mz.checkFits
  split
  · rfl
  · rename_i c
    rw [if_neg c] at h
    have : (p.take k).all (fun f => (Mz.entriesSt p f).isSome) = false := by
      cases hx : (p.take k).all (fun f => (Mz.entriesSt p f).isSome) with
      | false => rfl
      | true => rw [hx] at h; simp at h
    rw [this]
    rw [if_neg]; rfl
    intro hall
    rw [List.all_eq_true] at hall
    rw [List.all_eq_false] at this
    obtain ⟨x, hx, hn⟩ := this
    exact hn (hall x (List.mem_of_mem_take hx))
theorem fitsTo_end {p : List Mz.Fun} : Mz.checkFits p = fitsTo p p.length := by
  unfold fitsTo Mz.checkFits; rw [List.take_of_length_le (Nat.le_refl _)]
theorem fitsTo_prog {p : List Mz.Fun} {k : Nat} (h : fitsTo p k = 0) : Mz.checkProg p = 0 := by
  unfold fitsTo at h
  split at h
  · exact h
  · rename_i c; simpa using c

set_option maxHeartbeats 2000000 in
set_option maxRecDepth 100000 in
theorem refCheckFits_any (pv : Value) (p : List Mz.Fun) (B : Nat) (w : World) (hB : B ≤ w.heap.size) (h : RProg w B pv p) :
    Calls Tryz.prog 16 #[pv] w fun e w' => e = .returned (.int .i64 (Mz.checkFits p)) ∧ Below w.heap.size w w' := by
  have HP : Hid (RProg w B pv p) := h
  obtain ⟨fv, rfl, hfs⟩ := h
  obtain ⟨ao, c, rfl, h1, h2, h3⟩ := hfs.open
  unfold maxLen at h2
  have hb0 : Below w.heap.size w (w.alloc (.cells #[.slice ao p.length c] 24)) := (Below.refl _ _).alloc (Nat.le_refl _) _
  go_enter Tryz.func16, Tryz.ntmps16
  go_wp2_with fail
  refine (refCheckProg_any _ p B _ (by simp; omega) (HP.out.frame (hb0.mono hB))).mono ?_
  rintro e w2 ⟨rfl, hb2⟩
  have hb2' : Below (w.heap.size + 1) (w.alloc (.cells #[.slice ao p.length c] 24)) w2 := by simpa using hb2
  have hs2 := hb2'.size
  simp only [World.size_alloc] at hs2
  clear hb2
  have H0 : Hid (Mz.checkProg p = fitsTo p 0) := by unfold Hid fitsTo; split <;> simp_all
  go_wp2_with fail
  go_loopw [3, 4] (fun ev i wr => ∃ k : Nat, k ≤ p.length ∧ i = .int .i64 k ∧ ev = .int .i64 (fitsTo p k) ∧ (fitsTo p k = 0 ∨ Hid (Mz.checkFits p = fitsTo p k)) ∧ Below (w.heap.size + 1) (w.alloc (.cells #[.slice ao p.length c] 24)) wr ∧ w.heap.size + 1 ≤ wr.heap.size) (fun _ i _ => p.length - (intOf i).toNat)
  case atStart => exact ⟨0, Nat.zero_le _, rfl, by rw [H0.out], (if h : fitsTo p 0 = 0 then .inl h else .inr (fitsTo_stop h)), hb2', hs2⟩
  case round =>
    obtain ⟨k, hk, rfl, rfl, hor, hbr, hsr⟩ := hrel
    have hbw : Below w.heap.size w wr := hb0.trans (hbr.mono (by omega))
    have x0 : wr.cell? ⟨w.heap.size, 0, none⟩ = some (.slice ao p.length c) := by rw [(bcell hbr).1 _ _ (by omega)]; simp
    by_cases hz : fitsTo p k = 0
    · have hz' : (fitsTo p k == 0) = true := by simp [hz]
      have HZ := Lib.hid hz
      clear hz hor
      by_cases hlt : k < p.length
      · have hok := (Mz.checkProg_zero (fitsTo_prog HZ.out)).ready (nth_mem hlt)
        go_wp2_with fail
        refine (refEntries_any _ p k B _ (by omega) (HP.out.frame (hbw.mono hB)) hlt hok).mono ?_
        rintro e w3 ⟨⟨rv, rfl, _⟩, hb3⟩
        have HS := Lib.hid (fitsTo_succ hlt HZ.out)
        have hb3' := hbr.trans (hb3.mono hsr)
        have hs3 := hb3.size
        clear hb3 x0
        cases hx : (Mz.entriesSt p (nth p k)).isSome with
        | true =>
          rw [hx] at HS
          go_wp2_with fail
          go_roundw
          case rel => exact ⟨k + 1, by omega, by go_num, by rw [HS.out, HZ.out]; rfl, .inl (by rw [HS.out]; rfl), hb3', by omega⟩
          case measure => simp [intOf]; omega
        | false =>
          rw [hx] at HS
          go_wp2_with fail
          go_roundw
          case rel => exact ⟨k + 1, by omega, by go_num, by rw [HS.out]; rfl, .inr (fitsTo_stop (by rw [HS.out]; decide)), hb3', by omega⟩
          case measure => simp [intOf]; omega
      · obtain rfl : k = p.length := by omega
        go_wp2_with fail
        go_ret
        exact ⟨ret_int fitsTo_end.symm, hbw⟩
    · have hz' : (fitsTo p k == 0) = false := by simp [hz]
      have HZ := Lib.hid hz
      have hF : Hid (Mz.checkFits p = fitsTo p k) := hor.resolve_left hz
      clear hz hor
      by_cases hlt : k < p.length
      all_goals
        go_wp2_with fail
        go_ret
        exact ⟨ret_int hF.out.symm, hbw⟩
end Go.Proofs.YthdomhejkbpabaaGreat

/- A program that fits, as the program finds it: Program of verify. -/
namespace Go.Proofs.YthdomhejkbpabaaGreat
open Go.RowKit

set_option maxHeartbeats 2000000 in
set_option maxRecDepth 100000 in
theorem progFits_any (pv : Value) (p : List Mz.Fun) (B : Nat) (w : World) (hB : B ≤ w.heap.size) (h : RProg w B pv p) :
    Calls Tryz.prog 55 #[pv] w fun e w' => e = .returned (.int .i64 (Mz.checkFits p)) ∧ Below w.heap.size w w' := by
  have HP : Hid (RProg w B pv p) := h
  obtain ⟨fv, rfl, hfs⟩ := h
  obtain ⟨ao, c, rfl, h1, h2, h3⟩ := hfs.open
  unfold maxLen at h2
  have hb0 : Below w.heap.size w (w.alloc (.cells #[.slice ao p.length c] 24)) := (Below.refl _ _).alloc (Nat.le_refl _) _
  go_enter Tryz.func55, Tryz.ntmps55
  go_wp2_with fail
  refine (progCheck_any _ p B _ (by simp; omega) (HP.out.frame (hb0.mono hB))).mono ?_
  rintro e w2 ⟨rfl, hb2⟩
  have hb2' : Below (w.heap.size + 1) (w.alloc (.cells #[.slice ao p.length c] 24)) w2 := by simpa using hb2
  have hs2 := hb2'.size
  simp only [World.size_alloc] at hs2
  clear hb2
  by_cases hz : Mz.checkProg p = 0
  · have hz' : (Mz.checkProg p != 0) = false := by simp [hz]
    have HZ := Lib.hid hz
    clear hz
    have H0 : Hid (fitsTo p 0 = 0) := by unfold Hid fitsTo; rw [if_neg (by rw [HZ.out]; decide)]; simp
    have x0 : w2.cell? ⟨w.heap.size, 0, none⟩ = some (.slice ao p.length c) := by rw [(bcell hb2').1 _ _ (by omega)]; simp
    go_wp2_with fail
    clear x0
    go_loopw [15] (fun i wr => ∃ k : Nat, k ≤ p.length ∧ i = .int .i64 k ∧ Hid (fitsTo p k = 0) ∧ Below (w.heap.size + 1) (w.alloc (.cells #[.slice ao p.length c] 24)) wr ∧ w.heap.size + 1 ≤ wr.heap.size) (fun i _ => p.length - (intOf i).toNat)
    case atStart => exact ⟨0, Nat.zero_le _, rfl, H0, hb2', hs2⟩
    case round =>
      obtain ⟨k, hk, rfl, hft, hbr, hsr⟩ := hrel
      have hbw : Below w.heap.size w wr := hb0.trans (hbr.mono (by omega))
      have x0 : wr.cell? ⟨w.heap.size, 0, none⟩ = some (.slice ao p.length c) := by rw [(bcell hbr).1 _ _ (by omega)]; simp
      by_cases hlt : k < p.length
      · have hok := (Mz.checkProg_zero HZ.out).ready (nth_mem hlt)
        go_wp2_with fail
        refine (entries_any _ p k B _ (by omega) (HP.out.frame (hbw.mono hB)) hlt hok).mono ?_
        rintro e w3 ⟨⟨rv, rfl, _⟩, hb3⟩
        have HS := Lib.hid (fitsTo_succ hlt hft.out)
        have hb3' := hbr.trans (hb3.mono hsr)
        have hs3 := hb3.size
        clear hb3 x0
        cases hx : (Mz.entriesSt p (nth p k)).isSome with
        | true =>
          rw [hx] at HS
          go_wp2_with fail
          go_roundw
          case rel => exact ⟨k + 1, by omega, by go_num, by rw [Hid, HS.out]; rfl, hb3', by omega⟩
          case measure => simp [intOf]; omega
        | false =>
          rw [hx] at HS
          go_wp2_with fail
          go_ret
          exact ⟨ret_int (by rw [fitsTo_stop (k := k + 1) (by rw [HS.out]; decide), HS.out]; rfl), hb0.trans (hb3'.mono (by omega))⟩
      · obtain rfl : k = p.length := by omega
        go_wp2_with fail
        go_ret
        exact ⟨ret_int (by rw [fitsTo_end, hft.out]), hbw⟩
  · have hz' : (Mz.checkProg p != 0) = true := by simp [hz]
    have HZ := Lib.hid hz
    clear hz
    go_wp2_with fail
    go_ret
    exact ⟨ret_int (by rw [Mz.checkFits, if_pos HZ.out]), hb0.trans (hb2'.mono (by omega))⟩
end Go.Proofs.YthdomhejkbpabaaGreat

/- Blocks: how many cells, what is wrong with them; of the program and of the reference. -/
namespace Go.Proofs.YthdomhejkbpabaaGreat
open Go.RowKit

theorem cellsOf_append (a b : List (List Int)) : Mz.cellsOf (a ++ b) = Mz.cellsOf a + Mz.cellsOf b := by
  induction a with
  | nil => simp [Mz.cellsOf]
  | cons x a ih => simp only [List.cons_append, Mz.cellsOf, ih]; omega
theorem cellsOf_succ {l : List (List Int)} {k : Nat} (h : k < l.length) : Mz.cellsOf (l.take (k + 1)) = Mz.cellsOf (l.take k) + (nth l k).length := by
  rw [List.take_succ_eq_append_getElem h, cellsOf_append, nth_lt h]; simp [Mz.cellsOf]
def cellsTo (l : List (List Int)) (k : Nat) : Nat := Mz.cellsOf (l.take k)

set_option maxHeartbeats 1000000 in
theorem cells_any (v : Value) (l : List (List Int)) (B : Nat) (w : World) (h : RBlocks w B v l) (hl : l.length ≤ 8) :
    Calls Tryz.prog 175 #[v] w fun e w' => e = .returned (.int .i64 (Mz.cellsOf l)) ∧ w = w' := by
  obtain ⟨ao, c, rfl, h1, h2, h3⟩ := h.open
  unfold maxLen at h2
  go_enter Tryz.func175, Tryz.ntmps175
  go_wp2_with fail
  go_loop [3, 8] (fun s i => ∃ k : Nat, k ≤ l.length ∧ i = .int .i64 k ∧ s = .int .i64 (cellsTo l k) ∧ cellsTo l k ≤ k * 17592186044416) (fun _ i => l.length - (intOf i).toNat)
  case atStart => exact ⟨0, Nat.zero_le _, rfl, rfl, Nat.le_refl _⟩
  case round =>
    obtain ⟨k, hk, rfl, rfl, hb⟩ := hrel
    by_cases hlt : k < l.length
    · obtain ⟨b, o, bv, rfl, hB, cell, hbv⟩ := h.at hlt
      obtain ⟨bo, bc, rfl, b1, b2, b3⟩ := hbv.open
      unfold maxLen at b2
      have hs := Lib.hid (cellsOf_succ hlt)
      have hk8 : k * 17592186044416 ≤ 8 * 17592186044416 := Nat.mul_le_mul_right _ (by omega)
      go_wp2_with fail
      go_round
      case rel => exact ⟨k + 1, by omega, by go_num, by unfold cellsTo; rw [hs.out]; go_num, by unfold cellsTo at hb ⊢; rw [hs.out, Nat.add_mul]; omega⟩
      case measure => simp [intOf]; omega
    · obtain rfl : k = l.length := by omega
      have he : Hid (cellsTo l l.length = Mz.cellsOf l) := by unfold Hid cellsTo; rw [List.take_of_length_le (Nat.le_refl _)]
      go_wp2_with fail
      go_ret
      exact ⟨ret_int (by rw [he.out]), rfl⟩
set_option maxHeartbeats 1000000 in
theorem refCells_any (v : Value) (l : List (List Int)) (B : Nat) (w : World) (h : RBlocks w B v l) (hl : l.length ≤ 8) :
    Calls Tryz.prog 81 #[v] w fun e w' => e = .returned (.int .i64 (Mz.cellsOf l)) ∧ w = w' := by
  obtain ⟨ao, c, rfl, h1, h2, h3⟩ := h.open
  unfold maxLen at h2
  go_enter Tryz.func81, Tryz.ntmps81
  go_wp2_with fail
  go_loop [3, 4] (fun s i => ∃ k : Nat, k ≤ l.length ∧ i = .int .i64 k ∧ s = .int .i64 (cellsTo l k) ∧ cellsTo l k ≤ k * 17592186044416) (fun _ i => l.length - (intOf i).toNat)
  case atStart => exact ⟨0, Nat.zero_le _, rfl, rfl, Nat.le_refl _⟩
  case round =>
    obtain ⟨k, hk, rfl, rfl, hb⟩ := hrel
    by_cases hlt : k < l.length
    · obtain ⟨b, o, bv, rfl, hB, cell, hbv⟩ := h.at hlt
      obtain ⟨bo, bc, rfl, b1, b2, b3⟩ := hbv.open
      unfold maxLen at b2
      have hs := Lib.hid (cellsOf_succ hlt)
      have hk8 : k * 17592186044416 ≤ 8 * 17592186044416 := Nat.mul_le_mul_right _ (by omega)
      go_wp2_with fail
      go_round
      case rel => exact ⟨k + 1, by omega, by go_num, by unfold cellsTo; rw [hs.out]; go_num, by unfold cellsTo at hb ⊢; rw [hs.out, Nat.add_mul]; omega⟩
      case measure => simp [intOf]; omega
    · obtain rfl : k = l.length := by omega
      have he : Hid (cellsTo l l.length = Mz.cellsOf l) := by unfold Hid cellsTo; rw [List.take_of_length_le (Nat.le_refl _)]
      go_wp2_with fail
      go_ret
      exact ⟨ret_int (by rw [he.out]), rfl⟩

theorem notInt_asks (k : FuncId) (h : ∀ (a : Int) (w : World), Calls Tryz.prog k #[.int .i64 a] w fun e w' => e = .returned (.bool (!Mz.isInt a)) ∧ w = w') (w : World) : Asks k #[] (fun x : Int => Value.int .i64 x) (fun x => !Mz.isInt x) w := by
  intro x w1 hb
  show Calls Tryz.prog k #[.int .i64 x] w1 _
  refine (h x w1).mono ?_
  rintro e w2 ⟨rfl, rfl⟩
  exact ⟨rfl, Below.refl _ _⟩
theorem check11_any (a : Int) (w : World) : Calls Tryz.prog 178 #[.int .i64 a] w fun e w' => e = .returned (.bool (!Mz.isInt a)) ∧ w = w' := by
  go_enter Tryz.func178, Tryz.ntmps178
  go_wp2_with fail
  refine (opInt_any _ _).mono ?_
  rintro e w' ⟨rfl, rfl⟩
  go_wp2_with fail
  go_ret
  simp
theorem box1_any (a : Int) (w : World) : Calls Tryz.prog 179 #[.int .i64 a] w fun e w' => e = .returned (.bool (!Mz.isInt a)) ∧ w = w' := by
  go_enter Tryz.func179, Tryz.ntmps179
  go_wp2_with fail
  refine (opInt_any _ _).mono ?_
  rintro e w' ⟨rfl, rfl⟩
  go_wp2_with fail
  go_ret
  simp
theorem enters_check11 : Enters 178 := enters_of Tryz.func178 (by kernel_rfl) (by kernel_rfl)
theorem enters_check1 : Enters 177 := enters_of Tryz.func177 (by kernel_rfl) (by kernel_rfl)
theorem enters_box1 : Enters 179 := enters_of Tryz.func179 (by kernel_rfl) (by kernel_rfl)
theorem box_any (v : Value) (l : List Int) (B : Nat) (w : World) (h : RInts w B v l) (hB : B ≤ w.heap.size) :
    Calls Tryz.prog 141 #[v] w fun e w' => e = .returned (.bool (!l.all Mz.isInt)) ∧ Below w.heap.size w w' := by
  go_enter Tryz.func141, Tryz.ntmps141
  go_wp2_with fail
  refine (containsFunc_ints v l _ _ (fun x => !Mz.isInt x) B w h hB enters_box1 (notInt_asks _ box1_any w)).mono ?_
  rintro e w' ⟨rfl, hb⟩
  go_wp2_with fail
  go_ret
  exact ⟨ret_bool (by rw [Bool.eq_iff_iff]; simp), hb⟩
end Go.Proofs.YthdomhejkbpabaaGreat

/- What is wrong with blocks. -/
namespace Go.Proofs.YthdomhejkbpabaaGreat
open Go.RowKit

def AsksB (k : FuncId) (g : List Int → Bool) (B : Nat) (w : World) : Prop :=
  ∀ (bv : Value) (x : List Int) (w1 : World), Below w.heap.size w w1 → RInts w1 B bv x → Calls Tryz.prog k #[bv] w1 fun e w2 => e = .returned (.bool (g x)) ∧ Below w1.heap.size w1 w2
set_option maxHeartbeats 400000 in
set_option maxRecDepth 10000 in
theorem indexFunc_blocks (v : Value) (l : List (List Int)) (k : FuncId) (g : List Int → Bool) (B : Nat) (w : World) (h : RBlocks w B v l) (hB : B ≤ w.heap.size) (hk : Enters k) (hf : AsksB k g B w) :
    Calls Tryz.prog 212 #[v, .func (.func k) #[] #[]] w fun e w' => e = .returned (.int .i64 (idx g l)) ∧ Below w.heap.size w w' := by
  obtain ⟨ao, c, rfl, h1, h2, h3⟩ := h.open
  unfold maxLen at h2
  go_enter Tryz.func212, Tryz.ntmps212
  go_wp2
  go_loopw [8] (fun i wr => ∃ k : Nat, k ≤ l.length ∧ i = .int .i64 k ∧ Hid (∀ i, i < k → g (nth l i) = false) ∧ Below w.heap.size w wr) (fun i _ => l.length - (intOf i).toNat)
  case atStart => exact ⟨0, Nat.zero_le _, rfl, fun i hi => by omega, Below.refl _ _⟩
  case round =>
    obtain ⟨j, hj, rfl, hall, hb⟩ := hrel
    by_cases hlt : j < l.length
    · obtain ⟨b, o, bv, rfl, hbB, hc0, hbv⟩ := h.at hlt
      obtain ⟨hc, hfz⟩ := bcell hb
      have hs := hb.size
      have hb' : b < w.heap.size := by omega
      have hke := hk
      unfold Enters at hke
      have HBV := Lib.hid hbv
      clear hbv
      go_wp2_with fail
      refine (hf bv (nth l j) _ hb (HBV.out.frame (hb.mono hB))).mono ?_
      rintro e w2 ⟨rfl, hb2⟩
      have hB2 := via0 hb hs hb2
      clear hb2 hc hfz hke
      by_cases hx : g (nth l j) = true
      · have hr := Lib.hid (idx_at hlt hall.out hx)
        go_wp2
        go_ret
        exact ⟨ret_int (by rw [hr.out]), hB2⟩
      · have hx' : g (nth l j) = false := by simpa using hx
        clear hx
        go_wp2
        go_roundw
        case rel => exact ⟨j + 1, by omega, by go_num, fun i hi => by
          by_cases c : i = j
          · rw [c]; exact hx'
          · exact hall.out i (by omega), hB2⟩
        case measure => simp [intOf]; omega
    · go_wp2
      go_ret
      exact ⟨ret_int (by rw [idx_none (fun i hi => hall.out i (by omega))]), hb⟩
theorem containsFunc_blocks (v : Value) (l : List (List Int)) (k : FuncId) (g : List Int → Bool) (B : Nat) (w : World) (h : RBlocks w B v l) (hB : B ≤ w.heap.size) (hk : Enters k) (hf : AsksB k g B w) :
    Calls Tryz.prog 176 #[v, .func (.func k) #[] #[]] w fun e w' => e = .returned (.bool (l.any g)) ∧ Below w.heap.size w w' := by
  go_enter Tryz.func176, Tryz.ntmps176
  go_wp2_with fail
  refine (indexFunc_blocks v l k g B w h hB hk hf).mono ?_
  rintro e w' ⟨rfl, hb⟩
  go_wp2_with fail
  go_ret
  exact ⟨ret_bool (by simpa using idx_ge), hb⟩
theorem check1_any (v : Value) (l : List Int) (B : Nat) (w : World) (h : RInts w B v l) (hB : B ≤ w.heap.size) :
    Calls Tryz.prog 177 #[v] w fun e w' => e = .returned (.bool (!l.all Mz.isInt)) ∧ Below w.heap.size w w' := by
  go_enter Tryz.func177, Tryz.ntmps177
  go_wp2_with fail
  refine (containsFunc_ints v l _ _ (fun x => !Mz.isInt x) B w h hB enters_check11 (notInt_asks _ check11_any w)).mono ?_
  rintro e w' ⟨rfl, hb⟩
  go_wp2_with fail
  go_ret
  exact ⟨ret_bool (by rw [Bool.eq_iff_iff]; simp), hb⟩
set_option maxHeartbeats 1000000 in
set_option maxRecDepth 10000 in
theorem blockCheck_any (v : Value) (l : List (List Int)) (B : Nat) (w : World) (h : RBlocks w B v l) (hB : B ≤ w.heap.size) :
    Calls Tryz.prog 140 #[v] w fun e w' => e = .returned (.int .i64 (Mz.checkBlocks l)) ∧ Below w.heap.size w w' := by
  have HB := Lib.hid h
  obtain ⟨ao, c, rfl, h1, h2, h3⟩ := h.open
  unfold maxLen at h2
  clear h
  by_cases h8 : 8 < l.length
  · go_enter Tryz.func140, Tryz.ntmps140
    go_wp2_with fail
    go_ret
    exact ⟨ret_int (by rw [Mz.checkBlocks, if_pos (.inl h8)]), Below.refl _ _⟩
  have d8 : decide ((8 : Int) < (l.length : Int)) = false := by rw [decide_eq_false_iff_not]; omega
  by_cases h40 : 40 < Mz.cellsOf l
  · go_enter Tryz.func140, Tryz.ntmps140
    go_wp2_with fail
    refine (cells_any _ l B w HB.out (by omega)).mono ?_
    rintro e w' ⟨rfl, rfl⟩
    go_wp2_with fail
    go_ret
    exact ⟨ret_int (by rw [Mz.checkBlocks, if_pos (.inr h40)]), Below.refl _ _⟩
  · go_enter Tryz.func140, Tryz.ntmps140
    go_wp2_with fail
    refine (cells_any _ l B w HB.out (by omega)).mono ?_
    rintro e w' ⟨rfl, rfl⟩
    go_wp2_with fail
    refine (containsFunc_blocks _ l _ (fun x => !x.all Mz.isInt) B w HB.out hB enters_check1 (fun bv x w1 hb hx => check1_any bv x B w1 hx (Nat.le_trans hB hb.size))).mono ?_
    rintro e w' ⟨rfl, hb⟩
    have hne : Hid (¬ (8 < l.length ∨ 40 < Mz.cellsOf l)) := fun h => h.elim h8 h40
    cases hx : l.any (fun x => !x.all Mz.isInt) with
    | true =>
      have HX := Lib.hid hx
      clear hx
      go_wp2_with fail
      go_ret
      refine ⟨ret_int ?_, hb⟩
      rw [Mz.checkBlocks, if_neg hne.out, if_pos]
      have := HX.out
      rw [List.all_eq_false]
      rw [List.any_eq_true] at this
      obtain ⟨x, hm, hn⟩ := this
      exact ⟨x, hm, by simpa using hn⟩
    | false =>
      have HX := Lib.hid hx
      clear hx
      go_wp2_with fail
      go_ret
      refine ⟨ret_int ?_, hb⟩
      rw [Mz.checkBlocks, if_neg hne.out, if_neg]
      have := HX.out
      rw [List.any_eq_false] at this
      rw [Bool.not_eq_false, List.all_eq_true]
      intro x hm
      simpa using this x hm

set_option maxHeartbeats 2000000 in
set_option maxRecDepth 10000 in
theorem refCheckBlocks_any (v : Value) (l : List (List Int)) (B : Nat) (w : World) (h : RBlocks w B v l) (hB : B ≤ w.heap.size) :
    Calls Tryz.prog 69 #[v] w fun e w' => e = .returned (.int .i64 (Mz.checkBlocks l)) ∧ w = w' := by
  have HB := Lib.hid h
  obtain ⟨ao, c, rfl, h1, h2, h3⟩ := h.open
  unfold maxLen at h2
  by_cases h8 : 8 < l.length
  · clear h
    go_enter Tryz.func69, Tryz.ntmps69
    go_wp2_with fail
    go_ret
    exact ⟨ret_int (by rw [Mz.checkBlocks, if_pos (.inl h8)]), rfl⟩
  have d8 : decide ((8 : Int) < (l.length : Int)) = false := by rw [decide_eq_false_iff_not]; omega
  by_cases h40 : 40 < Mz.cellsOf l
  · clear h
    go_enter Tryz.func69, Tryz.ntmps69
    go_wp2_with fail
    refine (refCells_any _ l B w HB.out (by omega)).mono ?_
    rintro e w' ⟨rfl, rfl⟩
    go_wp2_with fail
    go_ret
    exact ⟨ret_int (by rw [Mz.checkBlocks, if_pos (.inr h40)]), rfl⟩
  have hne : Hid (¬ (8 < l.length ∨ 40 < Mz.cellsOf l)) := fun h => h.elim h8 h40
  go_enter Tryz.func69, Tryz.ntmps69
  go_wp2_with fail
  refine (refCells_any _ l B w HB.out (by omega)).mono ?_
  rintro e w' ⟨rfl, rfl⟩
  go_wp2_with fail
  go_loop [3] (fun i => ∃ k : Nat, k ≤ l.length ∧ i = .int .i64 k ∧ AllTo (fun b => b.all Mz.isInt) l k) (fun i => l.length - (intOf i).toNat)
  case atStart => exact ⟨0, Nat.zero_le _, rfl, fun i hi => by omega⟩
  case round =>
    obtain ⟨k, hk, rfl, hall⟩ := hrel
    by_cases hlt : k < l.length
    · obtain ⟨b, o, bv, rfl, hbB, cell, hbv⟩ := h.at hlt
      obtain ⟨bo, bc, rfl, b1, b2, b3⟩ := hbv.open
      unfold maxLen at b2
      go_wp2_with fail
      go_loop [4] (fun i => ∃ j : Nat, j ≤ (nth l k).length ∧ i = .int .i64 j ∧ AllTo Mz.isInt (nth l k) j) (fun i => (nth l k).length - (intOf i).toNat)
      case atStart => exact ⟨0, Nat.zero_le _, rfl, fun i hi => by omega⟩
      case round =>
        obtain ⟨j, hj, rfl, hall2⟩ := hrel
        by_cases hjl : j < (nth l k).length
        · obtain ⟨b', o', rfl, hbB', cell'⟩ := hbv.at hjl
          go_wp2_with fail
          refine (refIsInt_any _ _).mono ?_
          rintro e w' ⟨rfl, rfl⟩
          cases hx : Mz.isInt (nth (nth l k) j) with
          | true =>
            have HX := Lib.hid hx
            clear hx
            go_wp2_with fail
            go_round
            case rel => exact ⟨j + 1, by omega, by go_num, hall2.succ HX.out⟩
            case measure => simp [intOf]; omega
          | false =>
            have HX := Lib.hid hx
            clear hx
            go_wp2_with fail
            go_ret
            exact ⟨ret_int (by rw [Mz.checkBlocks, if_neg hne.out, if_pos (all_stop hlt (all_stop hjl HX.out))]), rfl⟩
        · obtain rfl : j = (nth l k).length := by omega
          have HE := Lib.hid (hall2.end hjl)
          go_wp2_with fail
          go_round
          case rel => exact ⟨k + 1, by omega, by go_num, hall.succ HE.out⟩
          case measure => simp [intOf]; omega
    · obtain rfl : k = l.length := by omega
      have HE := Lib.hid (hall.end hlt)
      go_wp2_with fail
      go_ret
      exact ⟨ret_int (by rw [Mz.checkBlocks, if_neg hne.out, if_neg (by rw [HE.out]; decide)]), rfl⟩
end Go.Proofs.YthdomhejkbpabaaGreat

/- The entry of a place of a function, of the program and of the reference. -/
namespace Go.Proofs.YthdomhejkbpabaaGreat
open Go.RowKit

theorem entsTo_mem {st : Mz.St} {k : Nat} {x : Nat × List Int} : x ∈ entsTo st k ↔ x.1 < k ∧ nth st x.1 = some x.2 := by
  unfold entsTo
  rw [List.mem_filterMap]
  constructor
  · rintro ⟨i, hi, h⟩
    rw [Option.map_eq_some_iff] at h
    obtain ⟨s, hs, rfl⟩ := h
    exact ⟨by simpa using hi, hs⟩
  · rintro ⟨h1, h2⟩
    exact ⟨x.1, by simpa using h1, by rw [h2]; rfl⟩
theorem entryAt_some {p : List Mz.Fun} {fn : Nat} {st : Mz.St} {x : Nat × List Int} {pc : Int} (h : Mz.entriesSt p (nth p fn) = some st) (hx : x ∈ entsTo st st.length) (hpc : (x.1 : Int) = pc) : Mz.entryAt p fn pc = some x.2 := by
  obtain ⟨h1, h2⟩ := entsTo_mem.1 hx
  unfold Mz.entryAt
  have h' : Mz.entriesSt p (p[(fn : Int).toNat]!) = some st := h
  rw [h']; simp only
  rw [if_pos (by omega), ← hpc, Int.toNat_natCast, nth_get? h1, h2]; rfl
theorem entryAt_none {p : List Mz.Fun} {fn : Nat} {st : Mz.St} {pc : Int} (h : Mz.entriesSt p (nth p fn) = some st) (hx : ∀ x ∈ entsTo st st.length, (x.1 : Int) ≠ pc) : Mz.entryAt p fn pc = none := by
  unfold Mz.entryAt
  have h' : Mz.entriesSt p (p[(fn : Int).toNat]!) = some st := h
  rw [h']; simp only
  by_cases h0 : 0 ≤ pc
  · rw [if_pos h0]
    by_cases hl : pc.toNat < st.length
    · rw [nth_get? hl]
      cases hs : nth st pc.toNat with
      | none => rfl
      | some s => exact absurd (by simp; omega) (hx (pc.toNat, s) (entsTo_mem.2 ⟨hl, hs⟩))
    · rw [List.getElem?_eq_none (by omega)]; rfl
  · rw [if_neg h0]

def SeekRes (w' : World) (e : Ending) (x : Option (List Int)) : Prop := ∃ r, e = .returned (.tuple #[r, .bool x.isSome]) ∧ RInts w' w'.heap.size r (x.getD [])
theorem SeekRes.none {w' : World} {e : Ending} {x : Option (List Int)} (h : e = .returned (.tuple #[.slice Option.none 0 0, .bool false])) (hx : x = Option.none) : SeekRes w' e x := by
  subst hx; exact ⟨_, h, RInts.nil _ _⟩
theorem SeekRes.some {w' : World} {e : Ending} {x : Option (List Int)} {r : Value} {l : List Int} (h : e = .returned (.tuple #[r, .bool true])) (hx : x = Option.some l) (hr : RInts w' w'.heap.size r l) : SeekRes w' e x := by
  subst hx; exact ⟨r, h, hr⟩

set_option maxHeartbeats 1000000 in
set_option maxRecDepth 10000 in
theorem refEntryAt_any (pv : Value) (p : List Mz.Fun) (fn : Nat) (pc : Int) (st : Mz.St) (B : Nat) (w : World) (hB : B ≤ w.heap.size) (h : RProg w B pv p) (hk : fn < p.length) (hr : Mz.Ready p (nth p fn)) (hst : Mz.entriesSt p (nth p fn) = some st) (hn : st.length ≤ 1000) :
    Calls Tryz.prog 113 #[pv, .int .i64 fn, .int .i64 pc] w fun e w' => SeekRes w' e (Mz.entryAt p fn pc) ∧ Below w.heap.size w w' := by
  have HP : Hid (RProg w B pv p) := h
  have HST := Lib.hid hst
  have HR : Hid (Mz.Ready p (nth p fn)) := hr
  obtain ⟨fv, rfl, hfs⟩ := h
  obtain ⟨ao, c, rfl, h1, h2, h3⟩ := hfs.open
  unfold maxLen at h2
  clear hst hr
  have hb0 : Below w.heap.size w (w.alloc (.cells #[.slice ao p.length c] 24)) := (Below.refl _ _).alloc (Nat.le_refl _) _
  go_enter Tryz.func113, Tryz.ntmps113
  go_wp2_with fail
  refine (refEntries_any _ p fn B _ (by simp; omega) (HP.out.frame (hb0.mono hB)) hk HR.out).mono ?_
  rintro e w2 ⟨⟨rv, rfl, hrv⟩, hb2⟩
  have hre := hrv st HST.out
  have hb2' := hb0.trans (hb2.mono (by simp))
  have hel := entsTo_len st st.length
  obtain ⟨eo, ec, rfl, e1, e2, e3⟩ := hre.open
  unfold maxLen at e2
  clear hrv hb2 hb0
  have HRE := Lib.hid hre
  clear hre
  go_wp2_with fail
  go_loop [10] (fun i => ∃ k : Nat, k ≤ (entsTo st st.length).length ∧ i = .int .i64 k ∧ Hid (∀ j, j < k → ((nth (entsTo st st.length) j).1 : Int) ≠ pc)) (fun i => (entsTo st st.length).length - (intOf i).toNat)
  case atStart => exact ⟨0, Nat.zero_le _, rfl, fun j hj => by omega⟩
  case round =>
    obtain ⟨k, hk', rfl, hall⟩ := hrel
    by_cases hlt : k < (entsTo st st.length).length
    · obtain ⟨b, o, sv, rfl, hbB, q0, q1, hsv⟩ := HRE.out.at hlt
      by_cases hx : ((nth (entsTo st st.length) k).1 : Int) = pc
      · have hd : ((((nth (entsTo st st.length) k).1 : Nat) : Int) == pc) = true := by simp [hx]
        have HX := Lib.hid hx
        have HSV := Lib.hid hsv
        clear hx hsv
        go_wp2_with fail
        go_ret2
        exact ⟨.some rfl (entryAt_some HST.out (nth_mem hlt) HX.out) HSV.out, hb2'⟩
      · have hd : ((((nth (entsTo st st.length) k).1 : Nat) : Int) == pc) = false := by simp [hx]
        have HX := Lib.hid hx
        clear hx hsv
        go_wp2_with fail
        go_round
        case rel => exact ⟨k + 1, by omega, by go_num, fun j hj => by
          by_cases c : j = k
          · rw [c]; exact HX.out
          · exact hall.out j (by omega)⟩
        case measure => simp [intOf]; omega
    · obtain rfl : k = (entsTo st st.length).length := by omega
      go_wp2_with fail
      go_ret2
      refine ⟨.none rfl (entryAt_none HST.out fun x hx => ?_), hb2'⟩
      obtain ⟨j, hj, rfl⟩ := List.mem_iff_getElem.1 hx
      have := hall.out j hj
      rwa [nth_lt hj] at this

theorem entry1_any (a : Nat) (sv : Value) (pc : Int) (cb : Nat) (w : World) (hc : w.cell? ⟨cb, 0, none⟩ = some (.int .i64 pc)) (hcb : cb < w.heap.size) (hsv : ∃ ao n c, sv = .slice ao n c) :
    Calls Tryz.prog 232 #[.agg #[.int .i64 a, sv], .pointer (some ⟨cb, 0, none⟩)] w fun e w' => e = .returned (.bool (decide ((a : Int) = pc))) ∧ Below w.heap.size w w' := by
  obtain ⟨ao, n, c, rfl⟩ := hsv
  go_enter Tryz.func232, Tryz.ntmps232
  go_wp2_with fail
  go_ret
  exact ⟨ret_bool (by rw [Bool.eq_iff_iff]; simp), (Below.refl _ _).alloc (Nat.le_refl _) _⟩
theorem enters_entry1 : Enters 232 := enters_of Tryz.func232 (by kernel_rfl) (by kernel_rfl)

set_option maxHeartbeats 400000 in
set_option maxRecDepth 10000 in
theorem indexFunc_ents (v : Value) (l : List (Nat × List Int)) (pc : Int) (cb B : Nat) (w : World) (h : REnts w B v l) (hB : B ≤ w.heap.size) (hc : w.cell? ⟨cb, 0, none⟩ = some (.int .i64 pc)) (hcb : cb < w.heap.size) :
    Calls Tryz.prog 231 #[v, .func (.func 232) #[] #[.pointer (some ⟨cb, 0, none⟩)]] w fun e w' => e = .returned (.int .i64 (idx (fun x => decide ((x.1 : Int) = pc)) l)) ∧ Below w.heap.size w w' := by
  obtain ⟨ao, c, rfl, h1, h2, h3⟩ := h.open
  unfold maxLen at h2
  have HC := Lib.hid hc
  clear hc
  go_enter Tryz.func231, Tryz.ntmps231
  go_wp2
  go_loopw [8] (fun i wr => ∃ k : Nat, k ≤ l.length ∧ i = .int .i64 k ∧ Hid (∀ i, i < k → (fun x : Nat × List Int => decide ((x.1 : Int) = pc)) (nth l i) = false) ∧ Below w.heap.size w wr) (fun i _ => l.length - (intOf i).toNat)
  case atStart => exact ⟨0, Nat.zero_le _, rfl, fun i hi => by omega, Below.refl _ _⟩
  case round =>
    obtain ⟨j, hj, rfl, hall, hb⟩ := hrel
    by_cases hlt : j < l.length
    · obtain ⟨b, o, sv, rfl, hbB, q0, q1, hsv⟩ := h.at hlt
      obtain ⟨so, sc, rfl, _, _, _⟩ := hsv.open
      obtain ⟨hc, hfz⟩ := bcell hb
      have hs := hb.size
      have hb' : b < w.heap.size := by omega
      have hke := enters_entry1
      unfold Enters at hke
      clear hsv
      go_wp2_with fail
      refine (entry1_any _ _ pc cb _ ((hc cb 0 hcb).trans HC.out) (by omega) ⟨_, _, _, rfl⟩).mono ?_
      rintro e w2 ⟨rfl, hb2⟩
      have hB2 := via0 hb hs hb2
      clear hb2 hc hfz hke
      by_cases hx : ((nth l j).1 : Int) = pc
      · have hd : decide (((nth l j).1 : Int) = pc) = true := by simp [hx]
        have hr := Lib.hid (idx_at (f := fun x : Nat × List Int => decide ((x.1 : Int) = pc)) hlt hall.out hd)
        clear hx
        go_wp2
        go_ret
        exact ⟨ret_int (by rw [hr.out]), hB2⟩
      · have hd : decide (((nth l j).1 : Int) = pc) = false := by simp [hx]
        have HD := Lib.hid hd
        clear hx
        go_wp2
        go_roundw
        case rel => exact ⟨j + 1, by omega, by go_num, fun i hi => by
          by_cases c : i = j
          · rw [c]; exact HD.out
          · exact hall.out i (by omega), hB2⟩
        case measure => simp [intOf]; omega
    · go_wp2
      go_ret
      exact ⟨ret_int (by rw [idx_none (fun i hi => hall.out i (by omega))]), hb⟩
end Go.Proofs.YthdomhejkbpabaaGreat

/- The entry of a place of a function, as the program seeks it. -/
namespace Go.Proofs.YthdomhejkbpabaaGreat
open Go.RowKit

theorem idx_cases {α : Type} [Inhabited α] (f : α → Bool) (l : List α) : (idx f l = -1 ∧ ∀ x ∈ l, f x = false) ∨ ∃ k, k < l.length ∧ idx f l = (k : Int) ∧ f (nth l k) = true := by
  unfold idx
  cases h : l.findIdx? f with
  | none =>
    left
    rw [List.findIdx?_eq_none_iff] at h
    exact ⟨rfl, h⟩
  | some k =>
    right
    rw [List.findIdx?_eq_some_iff_getElem] at h
    obtain ⟨hk, h1, _⟩ := h
    exact ⟨k, hk, rfl, by rw [nth_lt hk]; exact h1⟩

set_option maxHeartbeats 1000000 in
set_option maxRecDepth 10000 in
theorem entry_any (pv : Value) (p : List Mz.Fun) (fn : Nat) (pc : Int) (st : Mz.St) (B : Nat) (w : World) (hB : B ≤ w.heap.size) (h : RProg w B pv p) (hk : fn < p.length) (hr : Mz.Ready p (nth p fn)) (hst : Mz.entriesSt p (nth p fn) = some st) (hn : st.length ≤ 1000) :
    Calls Tryz.prog 229 #[pv, .int .i64 fn, .int .i64 pc] w fun e w' => SeekRes w' e (Mz.entryAt p fn pc) ∧ Below w.heap.size w w' := by
  have HP : Hid (RProg w B pv p) := h
  have HST := Lib.hid hst
  have HR : Hid (Mz.Ready p (nth p fn)) := hr
  obtain ⟨fv, rfl, hfs⟩ := h
  obtain ⟨ao, c, rfl, h1, h2, h3⟩ := hfs.open
  unfold maxLen at h2
  clear hst hr
  have hb0 : Below w.heap.size w ((w.alloc (.cells #[.slice ao p.length c] 24)).alloc (.cells #[.int .i64 pc] 3)) := ((Below.refl _ _).alloc (Nat.le_refl _) _).alloc (by simp) _
  have C0 : Hid (((w.alloc (.cells #[.slice ao p.length c] 24)).alloc (.cells #[.int .i64 pc] 3)).cell? ⟨w.heap.size + 1, 0, none⟩ = some (.int .i64 pc)) := by
    unfold Hid
    rw [show w.heap.size + 1 = (w.alloc (.cells #[.slice ao p.length c] 24)).heap.size by simp, World.cell?_alloc_new]; rfl
  go_enter Tryz.func229, Tryz.ntmps229
  go_wp2_with fail
  refine (entries_any _ p fn B _ (by simp; omega) (HP.out.frame (hb0.mono hB)) hk HR.out).mono ?_
  rintro e w2 ⟨⟨rv, rfl, hrv⟩, hb2⟩
  have hre := hrv st HST.out
  have hb2' := hb0.trans (hb2.mono (by simp; omega))
  have hs2 := hb2.size
  simp only [World.size_alloc] at hs2
  have C2 := Lib.hid (((bcell hb2).1 (w.heap.size + 1) 0 (by simp)).trans C0.out)
  have hel := entsTo_len st st.length
  obtain ⟨eo, ec, rfl, e1, e2, e3⟩ := hre.open
  unfold maxLen at e2
  clear hrv hb2 hb0 C0
  have HRE := Lib.hid hre
  clear hre
  go_wp2_with fail
  refine (indexFunc_ents _ _ pc (w.heap.size + 1) w2.heap.size w2 HRE.out (Nat.le_refl _) C2.out (by omega)).mono ?_
  rintro e w3 ⟨rfl, hb3⟩
  have HB3 := Lib.hid (hb2'.trans (hb3.mono (by omega)))
  have HRE3 := Lib.hid (HRE.out.frame hb3)
  have hs3 := hb3.size
  clear hb3
  have hic := idx_cases (fun x : Nat × List Int => decide ((x.1 : Int) = pc)) (entsTo st st.length)
  obtain ⟨ix, hix⟩ : ∃ ix, ix = idx (fun x : Nat × List Int => decide ((x.1 : Int) = pc)) (entsTo st st.length) := ⟨_, rfl⟩
  rw [← hix] at hic ⊢
  clear hix
  rcases hic with ⟨rfl, hall⟩ | ⟨k, hkl, rfl, hx⟩
  · have HALL := Lib.hid hall
    clear hall
    go_wp2_with fail
    go_ret2
    exact ⟨.none rfl (entryAt_none HST.out fun x hx => by simpa using HALL.out x hx), HB3.out⟩
  · obtain ⟨b, o, sv, rfl, hbB, q0, q1, hsv⟩ := HRE3.out.at hkl
    have HX := Lib.hid hx
    have HSV := Lib.hid hsv
    clear hx hsv
    go_wp2_with fail
    go_ret2
    exact ⟨.some rfl (entryAt_some HST.out (nth_mem hkl) (by simpa using HX.out)) (HSV.out.mono hs3), HB3.out⟩
end Go.Proofs.YthdomhejkbpabaaGreat

/- The checker of a machine as it lies in memory; its look at one value. -/
namespace Go.Proofs.YthdomhejkbpabaaGreat
open Go.RowKit

/-- the checker in block cb: a machine and a program, by their slices -/
structure Chk (w : World) (cb : Nat) (fv bv iv ov pv : Value) (m : Mz.Mach) : Prop where
  lt : cb < w.heap.size
  c0 : w.cell? ⟨cb, 0, none⟩ = some fv
  c1 : w.cell? ⟨cb, 1, none⟩ = some bv
  c2 : w.cell? ⟨cb, 2, none⟩ = some iv
  c3 : w.cell? ⟨cb, 3, none⟩ = some ov
  c4 : w.cell? ⟨cb, 4, none⟩ = some (.int .i64 m.status)
  c5 : w.cell? ⟨cb, 5, none⟩ = some (.int .i64 m.trap)
  c6 : w.cell? ⟨cb, 6, none⟩ = some pv
theorem Chk.frame {w w' : World} {cb : Nat} {fv bv iv ov pv : Value} {m : Mz.Mach} (h : Chk w cb fv bv iv ov pv m) (hb : Below w.heap.size w w') : Chk w' cb fv bv iv ov pv m := by
  have e := fun o => (bcell hb).1 cb o h.lt
  exact ⟨Nat.lt_of_lt_of_le h.lt hb.size, (e 0).trans h.c0, (e 1).trans h.c1, (e 2).trans h.c2, (e 3).trans h.c3, (e 4).trans h.c4, (e 5).trans h.c5, (e 6).trans h.c6⟩

def valErr (nb : Nat) (x : Mz.Val) : Int := if Mz.valOk nb x then 0 else 3
set_option maxHeartbeats 1000000 in
set_option maxRecDepth 100000 in
theorem value_any (w : World) (cb : Nat) (fv iv ov pv : Value) (bo : Option Addr) (nb bc : Nat) (m : Mz.Mach) (h : Chk w cb fv (.slice bo nb bc) iv ov pv m) (hnb : nb ≤ 17592186043904) (x : Mz.Val) :
    Calls Tryz.prog 214 #[.pointer (some ⟨cb, 0, none⟩), .agg #[.bool x.ref, .int .i64 x.n]] w fun e w' => e = .returned (.int .i64 (valErr nb x)) ∧ Below w.heap.size w w' := by
  obtain ⟨g1, _, c1, _, _, _, _, _⟩ := h
  have g2 : cb < w.heap.size + 1 := by omega
  obtain ⟨r, n⟩ := x
  have hb0 : Below w.heap.size w (w.alloc (.cells #[.bool r, .int .i64 n] 103)) := (Below.refl _ _).alloc (Nat.le_refl _) _
  cases r with
  | true =>
    cases hv : Mz.btw n 0 nb with
    | true =>
      have HV : Hid (Mz.valOk nb ⟨true, n⟩ = true) := by unfold Hid Mz.valOk; simpa using hv
      go_enter Tryz.func214, Tryz.ntmps214
      go_wp2_with fail
      go_quiet ((go_at_call 139; exact Calls.quiet_of_same ((mwithin_any _ _ _ _).mono fun _ _ ⟨h, h'⟩ => ⟨h, h'.symm⟩)))
      go_wp2_with fail
      go_ret
      exact ⟨ret_int (by rw [valErr, HV.out]; rfl), hb0.trans (below_drewN _ _ _)⟩
    | false =>
      have HV : Hid (Mz.valOk nb ⟨true, n⟩ = false) := by unfold Hid Mz.valOk; simpa using hv
      go_enter Tryz.func214, Tryz.ntmps214
      go_wp2_with fail
      go_quiet ((go_at_call 139; exact Calls.quiet_of_same ((mwithin_any _ _ _ _).mono fun _ _ ⟨h, h'⟩ => ⟨h, h'.symm⟩)))
      go_wp2_with fail
      go_ret
      exact ⟨ret_int (by rw [valErr, HV.out]; rfl), hb0.trans (below_drewN _ _ _)⟩
  | false =>
    cases hv : Mz.isInt n with
    | true =>
      have HV : Hid (Mz.valOk nb ⟨false, n⟩ = true) := by unfold Hid Mz.valOk; simpa using hv
      go_enter Tryz.func214, Tryz.ntmps214
      go_wp2_with fail
      go_quiet ((go_at_call 93; exact Calls.quiet_of_same ((opInt_any _ _).mono fun _ _ ⟨h, h'⟩ => ⟨h, h'.symm⟩)))
      go_wp2_with fail
      go_ret
      exact ⟨ret_int (by rw [valErr, HV.out]; rfl), hb0.trans (below_drewN _ _ _)⟩
    | false =>
      have HV : Hid (Mz.valOk nb ⟨false, n⟩ = false) := by unfold Hid Mz.valOk; simpa using hv
      go_enter Tryz.func214, Tryz.ntmps214
      go_wp2_with fail
      go_quiet ((go_at_call 93; exact Calls.quiet_of_same ((opInt_any _ _).mono fun _ _ ⟨h, h'⟩ => ⟨h, h'.symm⟩)))
      go_wp2_with fail
      go_ret
      exact ⟨ret_int (by rw [valErr, HV.out]; rfl), hb0.trans (below_drewN _ _ _)⟩
end Go.Proofs.YthdomhejkbpabaaGreat

/- Types that a frame's stack must be as: the checker's want. -/
namespace Go.Proofs.YthdomhejkbpabaaGreat
open Go.RowKit

theorem entries_of_fits {p : List Mz.Fun} (h : Mz.checkFits p = 0) {k : Nat} (hk : k < p.length) : Mz.Ready p (nth p k) ∧ ∃ st, Mz.entriesSt p (nth p k) = some st ∧ st.length ≤ 40 := by
  obtain ⟨h1, h2⟩ := Mz.checkFits_zero h
  have hr := (Mz.checkProg_zero h1).ready (nth_mem hk)
  have hs := h2 _ (nth_mem hk)
  obtain ⟨st, hst⟩ := Option.isSome_iff_exists.1 hs
  exact ⟨hr, st, hst, Mz.entry_lens hr hst (hr.prog.code _ (nth_mem hk)).2.1⟩

set_option maxHeartbeats 2000000 in
set_option maxRecDepth 100000 in
theorem want_last (w : World) (cb B : Nat) (bv iv ov pv : Value) (fo' : Option Addr) (fc : Nat) (p : List Mz.Fun) (m : Mz.Mach) (h : Chk w cb (.slice fo' m.frames.length fc) bv iv ov pv m) (hB : B ≤ w.heap.size) (hfr : RFrms w B (.slice fo' m.frames.length fc) m.frames) (hp : RFuns w B pv p)
    (hfit : Mz.checkFits p = 0) (i k : Nat) (hi : i + 1 = m.frames.length) (hn : m.frames.length ≤ 6) (hk : (nth m.frames i).fn = (k : Int)) (hkl : k < p.length) :
    Calls Tryz.prog 216 #[.pointer (some ⟨cb, 0, none⟩), .int .i64 i] w fun e w' => SeekRes w' e (Mz.entryAt p k (nth m.frames i).pc) ∧ Below w.heap.size w w' := by
  obtain ⟨hr, st, hst, hsl⟩ := entries_of_fits hfit hkl
  have HR : Hid (Mz.Ready p (nth p k)) := hr
  have HST := Lib.hid hst
  have HP := Lib.hid hp
  clear hr hst hp hfit
  obtain ⟨b, o, lv, sv, rfl, hbB, q0, q1, q2, q3, rl, rs⟩ := hfr.at (i := i) (by omega)
  obtain ⟨lo, lc, rfl, _, _, _⟩ := rl.open
  obtain ⟨so, sc, rfl, _, _, _⟩ := rs.open
  have hfc : m.frames.length ≤ fc := by
    obtain ⟨_, _, e, h1, _, _⟩ := hfr.open
    simp only [Value.slice.injEq] at e; omega
  obtain ⟨po, pc', rfl, p1, p2, p3⟩ := HP.out.open
  unfold maxLen at p2
  obtain ⟨g1, c0, _, _, _, _, _, c6⟩ := h
  have g2 : b < w.heap.size := by omega
  have eI : IntKind.i64.wrap ((m.frames.length : Int) - 1) = m.frames.length - 1 := IntWalk.i64_in _ (by omega)
  have eJ : ((i : Int) == (m.frames.length : Int) - 1) = true := by rw [beq_iff_eq]; omega
  rw [hk] at q0
  have hb0 : Below w.heap.size w (w.alloc (.cells #[.int .i64 k, .int .i64 (nth m.frames i).pc, .slice lo (nth m.frames i).locals.length lc, .slice so (nth m.frames i).stack.length sc] 97)) := (Below.refl _ _).alloc (Nat.le_refl _) _
  have ENT := Lib.hid (entry_any (.agg #[.slice po p.length pc']) p k (nth m.frames i).pc st B (w.alloc (.cells #[.int .i64 k, .int .i64 (nth m.frames i).pc, .slice lo (nth m.frames i).locals.length lc, .slice so (nth m.frames i).stack.length sc] 97)).drew (by show B ≤ (w.alloc _).heap.size; simp; omega) ⟨_, rfl, HP.out.frame ((hb0.drew).mono hB)⟩ hkl HR.out HST.out (by omega))
  have Z0 : Hid ((w.alloc (.cells #[.int .i64 k, .int .i64 (nth m.frames i).pc, .slice lo (nth m.frames i).locals.length lc, .slice so (nth m.frames i).stack.length sc] 97)).cell? ⟨w.heap.size, 0, none⟩ = some (.int .i64 k)) := by unfold Hid; rw [World.cell?_alloc_new]; rfl
  have Z1 : Hid ((w.alloc (.cells #[.int .i64 k, .int .i64 (nth m.frames i).pc, .slice lo (nth m.frames i).locals.length lc, .slice so (nth m.frames i).stack.length sc] 97)).cell? ⟨w.heap.size, 1, none⟩ = some (.int .i64 (nth m.frames i).pc)) := by unfold Hid; rw [World.cell?_alloc_new]; rfl
  have Z6 : Hid ((w.alloc (.cells #[.int .i64 k, .int .i64 (nth m.frames i).pc, .slice lo (nth m.frames i).locals.length lc, .slice so (nth m.frames i).stack.length sc] 97)).cell? ⟨cb, 6, none⟩ = some (.slice po p.length pc')) := ((bcell hb0).1 _ _ g1).trans c6
  have HB0 := Lib.hid hb0
  clear hb0 rl rs hk
  go_enter Tryz.func216, Tryz.ntmps216
  go_wp2_with fail
  go_region_held3 (fun w' => w'.cell? ⟨cb, 6, none⟩ = some (.slice po p.length pc') ∧ w'.cell? ⟨w.heap.size, 0, none⟩ = some (.int .i64 k) ∧ w'.cell? ⟨w.heap.size, 1, none⟩ = some (.int .i64 (nth m.frames i).pc)) (first | go_keep | exact kk) (first | (go_at_call 229; refine ENT.out.mono ?_; rintro e w2 ⟨hs2, hb2⟩; have hcc := (bcell hb2).1; have kk : w2.cell? ⟨cb, 6, none⟩ = some (.slice po p.length pc') ∧ w2.cell? ⟨w.heap.size, 0, none⟩ = some (.int .i64 k) ∧ w2.cell? ⟨w.heap.size, 1, none⟩ = some (.int .i64 (nth m.frames i).pc) := ⟨(hcc _ _ (by simp; omega)).trans Z6.out, (hcc _ _ (by simp)).trans Z0.out, (hcc _ _ (by simp)).trans Z1.out⟩; obtain ⟨r, rfl, hr2⟩ := hs2))
  have c0' : w2.cell? ⟨cb, 0, none⟩ = some (.slice (some ⟨b, o, none⟩) m.frames.length fc) := (hcc _ _ (by simp; omega)).trans (((bcell HB0.out).1 _ _ g1).trans c0)
  have HBF := Lib.hid (((HB0.out.drew)).trans (hb2.mono (by simp)))
  have HRR := Lib.hid hr2
  clear hcc hr2 hb2 kk
  go_wp2_with fail
  go_ret2
  exact ⟨⟨_, rfl, HRR.out⟩, HBF.out⟩
end Go.Proofs.YthdomhejkbpabaaGreat

/- Types that a waiting frame's stack must be as: the checker's want. -/
namespace Go.Proofs.YthdomhejkbpabaaGreat
open Go.RowKit

/-- what a waiting frame of function k, whose next is of function k2, must have on its stack -/
def waitOf (p : List Mz.Fun) (k k2 : Nat) (pc : Int) : Option (List Int) :=
  if Mz.btw pc 1 (nth p k).code.length = false ∨ nth (nth p k).code (pc - 1).toNat ≠ ⟨12, (k2 : Int)⟩ then none
  else if (Mz.entryAt p k (pc - 1)).isNone then none
  else some (if 0 < (nth p k2).result then ((Mz.entryAt p k pc).getD []).dropLast else (Mz.entryAt p k pc).getD [])

theorem entries_ty {p : List Mz.Fun} {k : Nat} (h : Mz.ProgTy p) (hk : k < p.length) : 0 ≤ (nth p k).result ∧ (nth p k).result ≤ 2 := (h.funs _ (nth_mem hk)).result
theorem entryAt_get {p : List Mz.Fun} {k : Nat} {st : Mz.St} {pc : Int} {t : List Int} (h : Mz.entriesSt p (nth p k) = some st) : Mz.entryAt p k pc = some t ↔ 0 ≤ pc ∧ st[pc.toNat]? = some (some t) := by
  unfold Mz.entryAt
  have h' : Mz.entriesSt p (p[(k : Int).toNat]!) = some st := h
  rw [h']; simp only
  by_cases h0 : 0 ≤ pc
  · rw [if_pos h0]
    cases hx : st[pc.toNat]? with
    | none => simp
    | some x => cases x <;> simp [h0]
  · rw [if_neg h0]; simp [h0]
theorem behind_wait {p : List Mz.Fun} {k k2 j : Nat} {st : Mz.St} {pc : Int} (hr : Mz.Ready p (nth p k)) (h : Mz.entriesSt p (nth p k) = some st) (hj : j = (pc - 1).toNat) (hp : 1 ≤ pc) (hop : nth (nth p k).code (pc - 1).toNat = ⟨12, (k2 : Int)⟩) (hs : (Mz.entryAt p k (pc - 1)).isSome = true) :
    ∃ t, Mz.entryAt p k pc = some t ∧ (0 < (nth p k2).result → t ≠ []) := by
  obtain ⟨s, hs⟩ := Option.isSome_iff_exists.1 hs
  obtain ⟨h0, h1⟩ := (entryAt_get h).1 hs
  have hc : ((nth p k).code[(pc - 1).toNat]!).code = 12 := by have := congrArg Mz.Op.code hop; exact this
  have ha : ((nth p k).code[(pc - 1).toNat]!).a = (k2 : Int) := by have := congrArg Mz.Op.a hop; exact this
  obtain ⟨t, ht, hne⟩ := Mz.behind_call hr h h1 hc
  refine ⟨t, (entryAt_get h).2 ⟨by omega, by rw [show pc.toNat = (pc - 1).toNat + 1 by omega]; exact ht⟩, fun hres => hne ?_⟩
  rw [ha, Int.toNat_natCast]; exact hres

set_option maxHeartbeats 2000000 in
set_option maxRecDepth 100000 in
theorem want_wait (w : World) (cb B : Nat) (bv iv ov pv : Value) (fo' : Option Addr) (fc : Nat) (p : List Mz.Fun) (m : Mz.Mach) (h : Chk w cb (.slice fo' m.frames.length fc) bv iv ov pv m) (hB : B ≤ w.heap.size) (hfr : RFrms w B (.slice fo' m.frames.length fc) m.frames) (hp : RFuns w B pv p)
    (hfit : Mz.checkFits p = 0) (i k : Nat) (hi : i + 1 < m.frames.length) (hn : m.frames.length ≤ 6) (hk : (nth m.frames i).fn = (k : Int)) (hkl : k < p.length) (k2 : Nat) (hk2 : (nth m.frames (i + 1)).fn = (k2 : Int)) (hk2l : k2 < p.length) :
    Calls Tryz.prog 216 #[.pointer (some ⟨cb, 0, none⟩), .int .i64 i] w fun e w' => SeekRes w' e (waitOf p k k2 (nth m.frames i).pc) ∧ Below w.heap.size w w' := by
  obtain ⟨hr, st, hst, hsl⟩ := entries_of_fits hfit hkl
  have HR : Hid (Mz.Ready p (nth p k)) := hr
  have HST := Lib.hid hst
  have HP := Lib.hid hp
  clear hr hst hp hfit
  obtain ⟨b, o, lv, sv, rfl, hbB, q0, q1, q2, q3, rl, rs⟩ := hfr.at (i := i) (by omega)
  obtain ⟨lo, lc, rfl, _, _, _⟩ := rl.open
  obtain ⟨so, sc, rfl, _, _, _⟩ := rs.open
  have hfc : m.frames.length ≤ fc := by
    obtain ⟨_, _, e, h1, _, _⟩ := hfr.open
    simp only [Value.slice.injEq] at e; omega
  obtain ⟨po, pc', rfl, p1, p2, p3⟩ := HP.out.open
  unfold maxLen at p2
  obtain ⟨g1, c0, _, _, _, _, _, c6⟩ := h
  have g2 : b < w.heap.size := by omega
  have eI : IntKind.i64.wrap ((m.frames.length : Int) - 1) = m.frames.length - 1 := IntWalk.i64_in _ (by omega)
  have eJ : ((i : Int) == (m.frames.length : Int) - 1) = false := by rw [beq_eq_false_iff_ne]; omega
  rw [hk] at q0
  have hb0 : Below w.heap.size w (w.alloc (.cells #[.int .i64 k, .int .i64 (nth m.frames i).pc, .slice lo (nth m.frames i).locals.length lc, .slice so (nth m.frames i).stack.length sc] 97)) := (Below.refl _ _).alloc (Nat.le_refl _) _
  have ENT := Lib.hid (entry_any (.agg #[.slice po p.length pc']) p k (nth m.frames i).pc st B (w.alloc (.cells #[.int .i64 k, .int .i64 (nth m.frames i).pc, .slice lo (nth m.frames i).locals.length lc, .slice so (nth m.frames i).stack.length sc] 97)).drew (by show B ≤ (w.alloc _).heap.size; simp; omega) ⟨_, rfl, HP.out.frame ((hb0.drew).mono hB)⟩ hkl HR.out HST.out (by omega))
  have Z0 : Hid ((w.alloc (.cells #[.int .i64 k, .int .i64 (nth m.frames i).pc, .slice lo (nth m.frames i).locals.length lc, .slice so (nth m.frames i).stack.length sc] 97)).cell? ⟨w.heap.size, 0, none⟩ = some (.int .i64 k)) := by unfold Hid; rw [World.cell?_alloc_new]; rfl
  have Z1 : Hid ((w.alloc (.cells #[.int .i64 k, .int .i64 (nth m.frames i).pc, .slice lo (nth m.frames i).locals.length lc, .slice so (nth m.frames i).stack.length sc] 97)).cell? ⟨w.heap.size, 1, none⟩ = some (.int .i64 (nth m.frames i).pc)) := by unfold Hid; rw [World.cell?_alloc_new]; rfl
  have Z6 : Hid ((w.alloc (.cells #[.int .i64 k, .int .i64 (nth m.frames i).pc, .slice lo (nth m.frames i).locals.length lc, .slice so (nth m.frames i).stack.length sc] 97)).cell? ⟨cb, 6, none⟩ = some (.slice po p.length pc')) := ((bcell hb0).1 _ _ g1).trans c6
  have HB0 := Lib.hid hb0
  clear hb0 rl rs hk
  go_enter Tryz.func216, Tryz.ntmps216
  go_wp2_with fail
  go_region_held3 (fun w' => w'.cell? ⟨cb, 6, none⟩ = some (.slice po p.length pc') ∧ w'.cell? ⟨w.heap.size, 0, none⟩ = some (.int .i64 k) ∧ w'.cell? ⟨w.heap.size, 1, none⟩ = some (.int .i64 (nth m.frames i).pc)) (first | go_keep | exact kk) (first | (go_at_call 229; refine ENT.out.mono ?_; rintro e w2 ⟨hs2, hb2⟩; have hcc := (bcell hb2).1; have kk : w2.cell? ⟨cb, 6, none⟩ = some (.slice po p.length pc') ∧ w2.cell? ⟨w.heap.size, 0, none⟩ = some (.int .i64 k) ∧ w2.cell? ⟨w.heap.size, 1, none⟩ = some (.int .i64 (nth m.frames i).pc) := ⟨(hcc _ _ (by simp; omega)).trans Z6.out, (hcc _ _ (by simp)).trans Z0.out, (hcc _ _ (by simp)).trans Z1.out⟩; obtain ⟨r, rfl, hr2⟩ := hs2))
  have c0' : w2.cell? ⟨cb, 0, none⟩ = some (.slice (some ⟨b, o, none⟩) m.frames.length fc) := (hcc _ _ (by simp; omega)).trans (((bcell HB0.out).1 _ _ g1).trans c0)
  have HBF := Lib.hid (((HB0.out.drew)).trans (hb2.mono (by simp)))
  have HRR := Lib.hid hr2
  have hz2 : w.heap.size + 1 ≤ w2.heap.size := by simpa using hb2.size
  have y0 := kk.2.1
  have y1 := kk.2.2
  clear hcc hr2 hb2 kk
  obtain ⟨fb, fx, gl, gc, rfl, fB, f0, f1, f2, f3, rgl, rgc⟩ := HP.out.at hkl
  obtain ⟨gco, gcc, rfl, gc1, gc2, gc3⟩ := rgc.open
  unfold maxLen at gc2
  have hbw2 : Below w.heap.size w w2 := HBF.out
  have hsw2 := hbw2.size
  have y3 : w2.cell? ⟨fb, fx + k * 4 + 3, none⟩ = some (.slice gco (nth p k).code.length gcc) := ((bcell hbw2).1 _ _ (by omega)).trans f3
  have y6 : w2.cell? ⟨cb, 6, none⟩ = some (.slice (some ⟨fb, fx, none⟩) p.length pc') := ((bcell hbw2).1 _ _ g1).trans c6
  obtain ⟨b2, o2, lv2, sv2, he2, _, n0, _, _, _, _, _⟩ := hfr.at (i := i + 1) hi
  simp only [Option.some.injEq, Addr.mk.injEq, and_true] at he2
  obtain ⟨rfl, rfl⟩ := he2
  have y7 : w2.cell? ⟨b, o + (i + 1) * 4, none⟩ = some (.int .i64 k2) := by rw [← hk2]; exact ((bcell hbw2).1 _ _ g2).trans n0
  have g3 : w.heap.size < w2.heap.size := by omega
  clear n0 hk2
  go_wp2_with fail
  go_quiet (fail)
  obtain ⟨w3, hw3⟩ : ∃ w3, w3 = w2.drewN nq := ⟨_, rfl⟩
  have z0 : w3.cell? ⟨w.heap.size, 0, none⟩ = some (.int .i64 k) := by rw [hw3]; exact y0
  have z1 : w3.cell? ⟨w.heap.size, 1, none⟩ = some (.int .i64 (nth m.frames i).pc) := by rw [hw3]; exact y1
  have z6 : w3.cell? ⟨cb, 6, none⟩ = some (.slice (some ⟨fb, fx, none⟩) p.length pc') := by rw [hw3]; exact y6
  have hb3 : Below w2.heap.size w2 w3 := by rw [hw3]; exact below_drewN _ _ _
  rw [← hw3]
  clear hw3
  have HB3 := Lib.hid (HBF.out.trans (hb3.mono (by omega)))
  have HRR3 := Lib.hid ((HRR.out.frame hb3).mono hb3.size)
  have hw3s : w2.heap.size ≤ w3.heap.size := hb3.size
  clear y0 y1 y6 y3 y7 hb3
  by_cases hbt : Mz.btw (nth m.frames i).pc 1 (nth p k).code.length = false
  · have HBT := Lib.hid hbt
    go_wp2_with fail
    refine (mwithin_any _ _ _ _).mono ?_
    rintro e w4 ⟨rfl, rfl⟩
    go_wp2_with fail
    go_ret2
    exact ⟨.none rfl (by unfold waitOf; rw [if_pos (.inl HBT.out)]), HB3.out⟩
  rw [Bool.not_eq_false] at hbt
  obtain ⟨hp1, hp2⟩ := Mz.btw_iff.1 hbt
  have HBT := Lib.hid hbt
  obtain ⟨j, hj⟩ : ∃ j : Nat, j = ((nth m.frames i).pc - 1).toNat := ⟨_, rfl⟩
  have hjl : j < (nth p k).code.length := by omega
  have HJ := Lib.hid hj
  have ew : IntKind.i64.wrap ((nth m.frames i).pc - 1) = (nth m.frames i).pc - 1 := IntWalk.i64_in _ (by omega)
  have et : ((nth m.frames i).pc - 1).toNat = j := hj.symm
  have e0 : 0 ≤ (nth m.frames i).pc - 1 := by omega
  have e1 : (nth m.frames i).pc - 1 < (nth p k).code.length := by omega
  obtain ⟨cb2, cx2, rfl, cB2, u0, u1⟩ := rgc.at hjl
  have v0 := ((bcell HB3.out).1 _ _ (by omega)).trans u0
  have v1 := ((bcell HB3.out).1 _ _ (by omega)).trans u1
  clear hj u0 u1
  by_cases hc12 : (nth (nth p k).code j).code = 12
  · have hd : ((nth (nth p k).code j).code != 12) = false := by simp [hc12]
    have HC := Lib.hid hc12
    clear hc12
    by_cases hca : (nth (nth p k).code j).a = (k2 : Int)
    · have hda : ((nth (nth p k).code j).a != (k2 : Int)) = false := by simp [hca]
      have HCA := Lib.hid hca
      clear hca
      have HOP : Hid (nth (nth p k).code ((nth m.frames i).pc - 1).toNat = ⟨12, (k2 : Int)⟩) := by
        unfold Hid; rw [← HJ.out]
        have h1 := HC.out
        have h2 := HCA.out
        cases hq : nth (nth p k).code j with
        | mk x y => rw [hq] at h1 h2; simp at h1 h2; rw [h1, h2]
      have hs3 := HB3.out.size
      have ENT2 := Lib.hid (entry_any (.agg #[.slice (some ⟨fb, fx, none⟩) p.length pc']) p k ((nth m.frames i).pc - 1) st B w3.drew (by show B ≤ w3.heap.size; omega) ⟨_, rfl, HP.out.frame ((HB3.out.drew).mono hB)⟩ hkl HR.out HST.out (by omega))
      go_wp2_with fail
      refine (mwithin_any _ _ _ _).mono ?_
      rintro e w4 ⟨rfl, rfl⟩
      go_wp2_with fail
      go_region_held3 (fun w' => w'.cell? ⟨cb, 6, none⟩ = some (.slice (some ⟨fb, fx, none⟩) p.length pc') ∧ w'.cell? ⟨w.heap.size, 0, none⟩ = some (.int .i64 k) ∧ w'.cell? ⟨w.heap.size, 1, none⟩ = some (.int .i64 (nth m.frames i).pc)) (first | go_keep | exact kk) (first | (go_at_call 229; refine ENT2.out.mono ?_; rintro e w5 ⟨hs5, hb5⟩; have hcc := (bcell hb5).1; have kk : w5.cell? ⟨cb, 6, none⟩ = some (.slice (some ⟨fb, fx, none⟩) p.length pc') ∧ w5.cell? ⟨w.heap.size, 0, none⟩ = some (.int .i64 k) ∧ w5.cell? ⟨w.heap.size, 1, none⟩ = some (.int .i64 (nth m.frames i).pc) := ⟨(hcc _ _ (by simp; omega)).trans z6, (hcc _ _ (by simp; omega)).trans z0, (hcc _ _ (by simp; omega)).trans z1⟩; obtain ⟨r5, rfl, _⟩ := hs5))
      have HB5 := Lib.hid ((HB3.out.drew).trans (hb5.mono (by show _ ≤ w3.heap.size; omega)))
      have HRR5 := Lib.hid ((HRR3.out.frame (((Below.refl _ _).drew).trans hb5)).mono (Nat.le_trans (Nat.le_refl _) hb5.size))
      have t6 := kk.1
      clear hcc hb5 kk
      cases hea : (Mz.entryAt p k ((nth m.frames i).pc - 1)).isSome with
      | false =>
        have HEA := Lib.hid hea
        clear hea
        go_wp2_with fail
        go_ret2
        exact ⟨.none rfl (by unfold waitOf; rw [if_neg (by rw [HBT.out, HOP.out]; simp), if_pos (by have := HEA.out; simpa using this)]), HB5.out⟩
      | true =>
        have HEA := Lib.hid hea
        clear hea
        obtain ⟨t, ht, htne⟩ := behind_wait HR.out HST.out HJ.out hp1 HOP.out HEA.out
        have HTT := Lib.hid ht
        have HTNE := Lib.hid htne
        clear htne
        rw [ht] at HRR5
        have hso : (Mz.entryAt p k (nth m.frames i).pc).isSome = true := by rw [ht]; rfl
        clear ht
        have hlt : RInts w5 w5.heap.size r t := HRR5.out
        obtain ⟨ro, rc, rfl, r1, r2, r3⟩ := hlt.open
        unfold maxLen at r2
        have HLT := Lib.hid hlt
        clear hlt
        obtain ⟨fb2, fx2, _, _, he3, _, _, _, n2, _, _, _⟩ := HP.out.at hk2l
        simp only [Option.some.injEq, Addr.mk.injEq, and_true] at he3
        obtain ⟨rfl, rfl⟩ := he3
        have t7 := ((bcell HB5.out).1 fb (fx + k2 * 4 + 2) (by omega)).trans n2
        clear n2
        have HWT : Hid (waitOf p k k2 (nth m.frames i).pc = some (if 0 < (nth p k2).result then t.dropLast else t)) := by
          unfold Hid waitOf; rw [if_neg (by rw [HBT.out, HOP.out]; simp), if_neg (by have := HEA.out; intro hq; rw [Option.isNone_iff_eq_none] at hq; rw [hq] at this; cases this), HTT.out]; rfl
        have hr2 := (entries_ty (p := p) (k := k2) HR.out.prog hk2l)
        by_cases hres : (nth p k2).result = 0
        · have hd0 : ((nth p k2).result != 0) = false := by simp [hres]
          have HRES : Hid (¬ 0 < (nth p k2).result) := by unfold Hid; omega
          clear hres hr2
          go_wp2_with fail
          go_ret2
          exact ⟨.some rfl (by rw [HWT.out, if_neg (by have := HRES.out; omega)]) HLT.out, HB5.out⟩
        · have hd0 : ((nth p k2).result != 0) = true := by simp [hres]
          have HRES : Hid (0 < (nth p k2).result) := by unfold Hid; omega
          have htl : 0 < t.length := List.length_pos_iff.2 (HTNE.out HRES.out)
          have ek : IntKind.i64.wrap ((t.length : Int) - 1) = t.length - 1 := IntWalk.i64_in _ (by omega)
          have el : ((t.length : Int) - 1).toNat = t.length - 1 := by omega
          have em : 0 ≤ (t.length : Int) - 1 := by omega
          have en : (t.length : Int) - 1 ≤ rc := by omega
          clear hres hr2
          go_wp2_with fail
          go_ret2
          refine ⟨.some rfl (by rw [HWT.out, if_pos HRES.out]) ?_, HB5.out⟩
          rw [List.dropLast_eq_take]
          exact HLT.out.take _ (by omega)
    · have hda : ((nth (nth p k).code j).a != (k2 : Int)) = true := by simp [hca]
      have HCA := Lib.hid hca
      clear hca
      go_wp2_with fail
      refine (mwithin_any _ _ _ _).mono ?_
      rintro e w4 ⟨rfl, rfl⟩
      go_wp2_with fail
      go_ret2
      exact ⟨.none rfl (by unfold waitOf; rw [if_pos (.inr (by rw [← HJ.out]; intro e; exact HCA.out (by rw [e])))]), HB3.out⟩
  · have hd : ((nth (nth p k).code j).code != 12) = true := by simp [hc12]
    have HC := Lib.hid hc12
    clear hc12
    go_wp2_with fail
    refine (mwithin_any _ _ _ _).mono ?_
    rintro e w4 ⟨rfl, rfl⟩
    go_wp2_with fail
    go_ret2
    exact ⟨.none rfl (by unfold waitOf; rw [if_pos (.inr (by rw [← HJ.out]; intro e; exact HC.out (by rw [e])))]), HB3.out⟩
end Go.Proofs.YthdomhejkbpabaaGreat
