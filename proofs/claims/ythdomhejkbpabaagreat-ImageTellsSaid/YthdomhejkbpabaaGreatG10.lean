/- Lemmas: After. -/
import Derived.Test.YthdomhejkbpabaaGreatG06
import Derived.BigRegion
import Derived.Lib.SliceRun
set_option linter.unusedVariables false
set_option linter.unusedSimpArgs false
/- Where it goes on behind an op: flow.After, which sorts two places. -/
namespace Go.Proofs.YthdomhejkbpabaaGreat
open Go.RowKit

theorem isNaN_any (x : Int) (w : World) : Calls Tryz.prog 226 #[.int .i64 x] w fun e w' => e = .returned (.bool false) ∧ w = w' := by
  go_enter Tryz.func226, Tryz.ntmps226
  go_wp2
  go_ret
  simp
theorem less_any (x y : Int) (w : World) : Calls Tryz.prog 198 #[.int .i64 x, .int .i64 y] w fun e w' => e = .returned (.bool (decide (x < y))) ∧ w = w' := by
  go_enter Tryz.func198, Tryz.ntmps198
  go_wp2_with fail
  refine (isNaN_any _ _).mono ?_
  rintro e w' ⟨rfl, rfl⟩
  go_wp2_with fail
  go_ret
  simp
set_option maxRecDepth 1000000 in
theorem len2_any (w : World) : Calls Tryz.prog 157 #[.int .u64 2] w fun e w' => e = .returned (.int .i64 2) ∧ w = w' := by
  go_enter Tryz.func157, Tryz.ntmps157
  go_wp2
  go_ret
  exact ⟨by kernel_rfl, rfl⟩
set_option maxHeartbeats 1000000 in
set_option maxRecDepth 100000 in
theorem insert_still (b : Nat) (x y : Int) (w : World) (hx : w.cell? ⟨b, 0, none⟩ = some (.int .i64 x)) (hy : w.cell? ⟨b, 1, none⟩ = some (.int .i64 y)) (h : ¬ y < x) :
    Calls Tryz.prog 192 #[.slice (some ⟨b, 0, none⟩) 2 2, .int .i64 0, .int .i64 2] w fun e w' => e = .returned (.tuple #[]) ∧ ∃ n, w' = w.drewN n := by
  have hd : decide (y < x) = false := by simp [h]
  have HH := Lib.hid h
  clear h
  have e0 : IntKind.i64.wrap 0 = 0 := by decide
  go_enter Tryz.func192, Tryz.ntmps192
  go_wp2_with fail
  go_loopw [6] (fun i wr => (i = .int .i64 1 ∨ i = .int .i64 2) ∧ ∃ n, wr = w.drewN n) (fun i _ => 2 - (intOf i).toNat)
  case atStart => exact ⟨.inl rfl, 0, rfl⟩
  case round =>
    obtain ⟨hi, n, rfl⟩ := hrel
    rcases hi with rfl | rfl
    · have hx' : (w.drewN n).cell? ⟨b, 0, none⟩ = some (.int .i64 x) := hx
      have hy' : (w.drewN n).cell? ⟨b, 1, none⟩ = some (.int .i64 y) := hy
      obtain ⟨w1, hw1⟩ : ∃ w1, w1 = w.drewN n := ⟨_, rfl⟩
      rw [← hw1] at hx' hy' ⊢
      have HW1 := Lib.hid hw1
      clear hw1
      go_wp2_with fail
      go_loopw [7] (fun j wr => j = .int .i64 1 ∧ w1 = wr) (fun _ _ => 0)
      case atStart => exact ⟨rfl, rfl⟩
      case round =>
        obtain ⟨rfl, rfl⟩ := hrel
        go_wp2_with fail
        have e1 : IntKind.i64.wrap (1 - 1) = 0 := by decide
        have e2 : IntKind.i64.wrap 0 = 0 := by decide
        go_quiet ((go_at_call 198; exact Calls.quiet_of_same ((less_any _ _ _).mono fun _ _ ⟨h, h'⟩ => ⟨h, h'.symm⟩)))
        go_wp2_with fail
        go_roundw
        case rel => exact ⟨.inr rfl, _, by rw [HW1.out, World.drewN_drewN]⟩
        case measure => simp [intOf]
    · go_wp2_with fail
      go_end0
      exact ⟨rfl, n, rfl⟩

set_option maxHeartbeats 1000000 in
set_option maxRecDepth 100000 in
theorem insert_swap (b : Nat) (x y : Int) (w : World) (hx : w.cell? ⟨b, 0, none⟩ = some (.int .i64 x)) (hy : w.cell? ⟨b, 1, none⟩ = some (.int .i64 y)) (hf : ∀ o, w.frozen? ⟨b, o, none⟩ = false) (h : y < x) :
    Calls Tryz.prog 192 #[.slice (some ⟨b, 0, none⟩) 2 2, .int .i64 0, .int .i64 2] w fun e w' => e = .returned (.tuple #[]) ∧ ∃ n m, w' = (((w.drewN n).setCell ⟨b, 1, none⟩ (.int .i64 x)).setCell ⟨b, 0, none⟩ (.int .i64 y)).drewN m := by
  have hd : decide (y < x) = true := by simp [h]
  have HH := Lib.hid h
  clear h
  have hf0 := hf 0
  have hf1 := hf 1
  clear hf
  go_enter Tryz.func192, Tryz.ntmps192
  go_wp2_with fail
  go_loopw [6] (fun i wr => (i = .int .i64 1 ∧ w = wr) ∨ (i = .int .i64 2 ∧ ∃ n m, wr = (((w.drewN n).setCell ⟨b, 1, none⟩ (.int .i64 x)).setCell ⟨b, 0, none⟩ (.int .i64 y)).drewN m)) (fun i _ => 2 - (intOf i).toNat)
  case atStart => exact .inl ⟨rfl, rfl⟩
  case round =>
    rcases hrel with ⟨rfl, rfl⟩ | ⟨rfl, n, m, rfl⟩
    · go_wp2_with fail
      go_loopw [7] (fun j wr => (j = .int .i64 1 ∧ w = wr) ∨ (j = .int .i64 0 ∧ ∃ n m, wr = (((w.drewN n).setCell ⟨b, 1, none⟩ (.int .i64 x)).setCell ⟨b, 0, none⟩ (.int .i64 y)).drewN m)) (fun j _ => (intOf j).toNat)
      case atStart => exact .inl ⟨rfl, rfl⟩
      case round =>
        have e1 : IntKind.i64.wrap (1 - 1) = 0 := by decide
        have e2 : IntKind.i64.wrap 0 = 0 := by decide
        rcases hrel with ⟨rfl, rfl⟩ | ⟨rfl, n, m, rfl⟩
        · go_wp2_with fail
          go_quiet ((go_at_call 198; exact Calls.quiet_of_same ((less_any _ _ _).mono fun _ _ ⟨h, h'⟩ => ⟨h, h'.symm⟩)))
          have hx' : (w.drewN nq).cell? ⟨b, 0, none⟩ = some (.int .i64 x) := hx
          have hy' : (w.drewN nq).cell? ⟨b, 1, none⟩ = some (.int .i64 y) := hy
          have hf0' : (w.drewN nq).frozen? ⟨b, 0, none⟩ = false := hf0
          have hf1' : (w.drewN nq).frozen? ⟨b, 1, none⟩ = false := hf1
          obtain ⟨w1, hw1⟩ : ∃ w1, w1 = w.drewN nq := ⟨_, rfl⟩
          rw [← hw1] at hx' hy' hf0' hf1' ⊢
          have HW1 := Lib.hid hw1
          clear hw1
          go_wp2_with fail
          go_region
          go_wp2_with fail
          go_roundw
          case rel => exact .inr ⟨rfl, nq, 1, by rw [HW1.out]; rfl⟩
          case measure => simp [intOf]
        · go_wp2_with fail
          go_quiet (fail)
          go_wp2_with fail
          go_roundw
          case rel => exact .inr ⟨rfl, n, m + nq, rfl⟩
          case measure => simp [intOf]
    · go_wp2_with fail
      go_end0
      exact ⟨rfl, n, m, rfl⟩

/-- two numbers in a block, which can be written -/
structure TwoIn (w : World) (b : Nat) (x y : Int) : Prop where
  fst : w.cell? ⟨b, 0, none⟩ = some (.int .i64 x)
  snd : w.cell? ⟨b, 1, none⟩ = some (.int .i64 y)
  frz : ∀ o, w.frozen? ⟨b, o, none⟩ = false
theorem TwoIn.drewN {w : World} {b : Nat} {x y : Int} (h : TwoIn w b x y) (n : Nat) : TwoIn (w.drewN n) b x y := ⟨h.fst, h.snd, h.frz⟩
theorem TwoIn.set {w : World} {b : Nat} {x y : Int} (h : TwoIn w b x y) (u v : Int) : TwoIn ((w.setCell ⟨b, 1, none⟩ (.int .i64 v)).setCell ⟨b, 0, none⟩ (.int .i64 u)) b u v := by
  obtain ⟨z, hz⟩ := cell?_setCell_some (w := w) (p := ⟨b, 1, none⟩) (x := .int .i64 v) h.fst
  refine ⟨World.cell?_setCell_same _ _ _ hz, ?_, fun o => by simp [h.frz]⟩
  rw [World.cell?_setCell_other _ _ _ _ (by simp)]
  exact World.cell?_setCell_same _ _ _ h.snd
def Insert2 (b : Nat) (x y : Int) (w : World) (e : Ending) (w' : World) : Prop := e = .returned (.tuple #[]) ∧ TwoIn w' b (if y < x then y else x) (if y < x then x else y) ∧ ∀ B, B ≤ b → Below B w w'
theorem insert2_any (b : Nat) (x y : Int) (w : World) (h : TwoIn w b x y) :
    Calls Tryz.prog 192 #[.slice (some ⟨b, 0, none⟩) 2 2, .int .i64 0, .int .i64 2] w (Insert2 b x y w) := by
  by_cases c : y < x
  · refine (insert_swap b x y w h.fst h.snd h.frz c).mono ?_
    rintro e w' ⟨rfl, n, m, rfl⟩
    refine ⟨rfl, ?_, fun B hB => ?_⟩
    · rw [if_pos c, if_pos c]; exact ((h.drewN n).set y x).drewN m
    · exact (((below_drewN w B n).setCell hB _).setCell hB _).trans (below_drewN _ _ _)
  · refine (insert_still b x y w h.fst h.snd c).mono ?_
    rintro e w' ⟨rfl, n, rfl⟩
    refine ⟨rfl, ?_, fun B _ => below_drewN w B n⟩
    rw [if_neg c, if_neg c]; exact h.drewN n
set_option maxHeartbeats 1000000 in
set_option maxRecDepth 100000 in
theorem pdq2_any (b : Nat) (x y : Int) (w : World) (h : TwoIn w b x y) :
    Calls Tryz.prog 156 #[.slice (some ⟨b, 0, none⟩) 2 2, .int .i64 0, .int .i64 2, .int .i64 2] w (Insert2 b x y w) := by
  go_enter Tryz.func156, Tryz.ntmps156
  go_wp2_with fail
  go_loopw [1, 2] (fun i j wr => i = .int .i64 0 ∧ j = .int .i64 2 ∧ w = wr) (fun _ _ _ => 0)
  case atStart => exact ⟨rfl, rfl, rfl⟩
  case round =>
    obtain ⟨rfl, rfl, rfl⟩ := hrel
    go_wp2_with fail
    refine (insert2_any b x y _ h).mono ?_
    intro e w' he
    have he1 := he.1
    subst he1
    have HE := Lib.hid he
    clear he
    go_wp2_with fail
    go_end0
    exact HE.out
theorem sort2_any (b : Nat) (x y : Int) (w : World) (h : TwoIn w b x y) :
    Calls Tryz.prog 124 #[.slice (some ⟨b, 0, none⟩) 2 2] w (Insert2 b x y w) := by
  go_enter Tryz.func124, Tryz.ntmps124
  go_wp2_with fail
  refine (len2_any _).mono ?_
  rintro e w' ⟨rfl, rfl⟩
  go_wp2_with fail
  refine (pdq2_any b x y _ h).mono ?_
  intro e w' he
  have he1 := he.1
  subst he1
  have HE := Lib.hid he
  clear he
  go_wp2_with fail
  go_end0
  exact HE.out

set_option maxHeartbeats 1000000 in
set_option maxRecDepth 100000 in
theorem compact_same (b : Nat) (x : Int) (w : World) (h : TwoIn w b x x) :
    Calls Tryz.prog 125 #[.slice (some ⟨b, 0, none⟩) 2 2] w fun e w' => e = .returned (.slice (some ⟨b, 0, none⟩) 1 2) ∧ w'.cell? ⟨b, 0, none⟩ = some (.int .i64 x) ∧ ∀ B, B ≤ b → Below B w w' := by
  obtain ⟨hx, hy, hfz⟩ := h
  have e1 : IntKind.i64.wrap (1 - 1) = 0 := by decide
  have e2 : IntKind.i64.wrap 0 = 0 := by decide
  have hf1 := hfz 1
  go_enter Tryz.func125, Tryz.ntmps125
  go_wp2_with fail
  go_loopw [3] (fun i wr => i = .int .i64 1 ∧ w = wr) (fun _ _ => 0)
  case atStart => exact ⟨rfl, rfl⟩
  case round =>
    obtain ⟨rfl, rfl⟩ := hrel
    go_wp2_with fail
    go_quiet (fail)
    have hx' : (w.drewN nq).cell? ⟨b, 0, none⟩ = some (.int .i64 x) := hx
    have hy' : (w.drewN nq).cell? ⟨b, 1, none⟩ = some (.int .i64 x) := hy
    have hf1' : (w.drewN nq).frozen? ⟨b, 1, none⟩ = false := hf1
    have HD : Hid (∀ B, B ≤ b → Below B w (w.drewN nq)) := fun B _ => below_drewN w B nq
    obtain ⟨w1, hw1⟩ : ∃ w1, w1 = w.drewN nq := ⟨_, rfl⟩
    rw [← hw1] at hx' hy' hf1' HD ⊢
    clear hw1
    have hclr := fun ty => Lib.run_clear_slice (P := Tryz.prog) w1 27 3 ty (.int .i64 0) Tryz.underlying27 (fun _ => by kernel_rfl) rfl rfl b 1 1 1 (by decide) (fun j hj => by
      obtain rfl : j = 0 := by omega
      rw [hy']; rfl) (fun j hj => by
      obtain rfl : j = 0 := by omega
      exact hf1')
    simp only [List.replicate, World.setCells] at hclr
    have HC : Hid ((w1.setCell ⟨b, 1, none⟩ (.int .i64 0)).cell? ⟨b, 0, none⟩ = some (.int .i64 x)) := by
      rw [Hid, World.cell?_setCell_other _ _ _ _ (by simp)]; exact hx'
    go_wp2_with fail
    go_loopw [3, 5] (fun k i wr => k = .int .i64 1 ∧ i = .int .i64 1 ∧ w1 = wr) (fun _ _ _ => 0)
    case atStart => exact ⟨rfl, rfl, rfl⟩
    case round =>
      obtain ⟨rfl, rfl, rfl⟩ := hrel
      go_wp2_with fail
      go_ret
      exact ⟨rfl, HC.out, fun B hB => (HD.out B hB).setCell hB _⟩
set_option maxHeartbeats 1000000 in
set_option maxRecDepth 100000 in
theorem compact_both (b : Nat) (x y : Int) (hne : x ≠ y) (w : World) (h : TwoIn w b x y) :
    Calls Tryz.prog 125 #[.slice (some ⟨b, 0, none⟩) 2 2] w fun e w' => e = .returned (.slice (some ⟨b, 0, none⟩) 2 2) ∧ ∃ n, w' = w.drewN n := by
  obtain ⟨hx, hy, hfz⟩ := h
  have e1 : IntKind.i64.wrap (1 - 1) = 0 := by decide
  have e2 : IntKind.i64.wrap 0 = 0 := by decide
  have hd : (y == x) = false := by simp [Ne.symm hne]
  go_enter Tryz.func125, Tryz.ntmps125
  go_wp2_with fail
  go_loopw [3] (fun i wr => (i = .int .i64 1 ∧ w = wr) ∨ (i = .int .i64 2 ∧ ∃ n, wr = w.drewN n)) (fun i _ => 2 - (intOf i).toNat)
  case atStart => exact .inl ⟨rfl, rfl⟩
  case round =>
    rcases hrel with ⟨rfl, rfl⟩ | ⟨rfl, n, rfl⟩
    · go_wp2_with fail
      go_quiet (fail)
      go_wp2_with fail
      go_roundw
      case rel => exact .inr ⟨rfl, nq, rfl⟩
      case measure => simp [intOf]
    · go_wp2_with fail
      go_ret
      exact ⟨rfl, n, rfl⟩

theorem TwoIn.new (w : World) (b : Nat) (hb : b = w.heap.size) (x y : Int) : TwoIn (w.alloc (.cells #[.int .i64 x, .int .i64 y] 3)) b x y := by
  subst hb
  have h := World.rowIs_alloc w #[.int .i64 x, .int .i64 y] 3 (fun i => if i = 0 then .int .i64 x else .int .i64 y) (by
    intro i hi
    have hi' : i = 0 ∨ i = 1 := by simp at hi; omega
    rcases hi' with rfl | rfl <;> rfl)
  exact ⟨h.cell (i := 0) (by simp), h.cell (i := 1) (by simp), fun o => h.frozen o⟩
/-- numbers in a block that can be read cell by cell -/
theorem FInts.of_cells {w : World} {b c lo : Nat} {l : List Int} (hb : b < w.heap.size) (hlo : lo ≤ b) (hc : l.length ≤ c) (hc2 : c ≤ 1000) (h : ∀ i, i < l.length → w.cell? ⟨b, i, none⟩ = some (.int .i64 (nth l i))) : FInts w lo (.slice (some ⟨b, 0, none⟩) l.length c) l := by
  refine ⟨⟨_, c, rfl, by simp, hc, by unfold maxLen; omega, by omega, by simp, fun _ => ⟨b, 0, rfl, hb, fun j u hu => ?_⟩⟩, fun b' o n c e => by cases e; exact hlo⟩
  rw [Nat.zero_add]
  rw [List.getElem?_map, Option.map_eq_some_iff] at hu
  obtain ⟨x, hx, rfl⟩ := hu
  obtain ⟨hj, rfl⟩ := List.getElem?_eq_some_iff.1 hx
  rw [h j hj, nth_lt hj]

set_option maxHeartbeats 1000000 in
set_option maxRecDepth 100000 in
theorem after_any (v : Value) (l : List Mz.Op) (pc : Nat) (B : Nat) (w : World) (h : ROps w B v l) (hB : B ≤ w.heap.size) (hpc : pc < l.length) (hl : l.length ≤ 40) (hj : (nth l pc).code = 10 ∨ (nth l pc).code = 11 → 0 ≤ (nth l pc).a ∧ (nth l pc).a < l.length) :
    Calls Tryz.prog 168 #[v, .int .i64 pc] w fun e w' => ∃ r, e = .returned r ∧ FInts w' w.heap.size r ((Mz.nexts (nth l pc) pc).map (fun (m : Nat) => (m : Int))) ∧ Below w.heap.size w w' := by
  obtain ⟨ao, c, rfl, h1, h2, h3⟩ := h.open
  unfold maxLen at h2
  obtain ⟨b, o, rfl, hbB, q0, q1⟩ := h.at hpc
  have g1 : b < w.heap.size := by omega
  have hb0 : Below w.heap.size w (w.alloc (.cells #[.int .i64 (nth l pc).code, .int .i64 (nth l pc).a] 49)) := (Below.refl _ _).alloc (Nat.le_refl _) _
  have HJ := Lib.hid hj
  clear hj
  by_cases c13 : (nth l pc).code = 13
  · have t13 : ((nth l pc).code == 13) = true := by simp [c13]
    have HN : Hid (Mz.nexts (nth l pc) pc = []) := by unfold Hid Mz.nexts; rw [if_pos c13]
    have C := Lib.hid c13
    clear c13
    go_enter Tryz.func168, Tryz.ntmps168
    go_wp2_with fail
    go_ret
    exact ⟨_, rfl, by rw [HN.out]; exact FInts.nil _ _, hb0⟩
  by_cases c10 : (nth l pc).code = 10
  · have t13 : ((nth l pc).code == 13) = false := by simp [c10]
    have t10 : ((nth l pc).code == 10) = true := by simp [c10]
    have hja := HJ.out (.inl c10)
    have HN : Hid (Mz.nexts (nth l pc) pc = [(nth l pc).a.toNat]) := by unfold Hid Mz.nexts; rw [if_neg c13, if_pos c10]
    have C := Lib.hid c10
    clear c10 c13
    go_enter Tryz.func168, Tryz.ntmps168
    go_wp2_with fail
    go_ret
    refine ⟨_, rfl, ?_, hb0.alloc (by simp) _⟩
    rw [HN.out]
    refine FInts.of_cells (l := [(((nth l pc).a.toNat : Nat) : Int)]) (by simp) (by omega) (by simp) (by simp) (fun i hi => ?_)
    obtain rfl : i = 0 := by simpa using hi
    show _ = some (Value.int .i64 (((nth l pc).a.toNat : Nat) : Int))
    rw [Int.toNat_of_nonneg hja.1, ← World.size_alloc w (.cells #[.int .i64 (nth l pc).code, .int .i64 (nth l pc).a] 49), World.cell?_alloc_new]; rfl
  by_cases c11 : (nth l pc).code = 11
  · have t13 : ((nth l pc).code == 13) = false := by simp [c11]
    have t10 : ((nth l pc).code == 10) = false := by simp [c11]
    have t11 : ((nth l pc).code == 11) = true := by simp [c11]
    have hja := HJ.out (.inr c11)
    have HN : Hid (Mz.nexts (nth l pc) pc = if (nth l pc).a.toNat = pc + 1 then [pc + 1] else if (nth l pc).a.toNat < pc + 1 then [(nth l pc).a.toNat, pc + 1] else [pc + 1, (nth l pc).a.toNat]) := by unfold Hid Mz.nexts; rw [if_neg c13, if_neg c10, if_pos c11]
    have C := Lib.hid c11
    clear c10 c13 c11
    have hb1 : Below w.heap.size w ((w.alloc (.cells #[.int .i64 (nth l pc).code, .int .i64 (nth l pc).a] 49)).alloc (.cells #[.int .i64 (pc + 1), .int .i64 (nth l pc).a] 3)) := hb0.alloc (by simp) _
    have hT : TwoIn ((w.alloc (.cells #[.int .i64 (nth l pc).code, .int .i64 (nth l pc).a] 49)).alloc (.cells #[.int .i64 (pc + 1), .int .i64 (nth l pc).a] 3)) (w.heap.size + 1) (pc + 1) (nth l pc).a := TwoIn.new _ _ (by simp) _ _
    go_enter Tryz.func168, Tryz.ntmps168
    go_wp2_with fail
    refine (sort2_any _ _ _ _ hT).mono ?_
    rintro e w2 ⟨rfl, hT2, hb2⟩
    have hb2' := hb1.trans (hb2 w.heap.size (by omega))
    have hs2 := (hb2 0 (by omega)).size
    simp only [World.size_alloc] at hs2
    clear hb2 hT hb1
    go_wp2_with fail
    by_cases ce : (nth l pc).a = pc + 1
    · rw [ce, if_neg (by omega)] at hT2
      refine (compact_same _ _ _ hT2).mono ?_
      rintro e w3 ⟨rfl, hx, hb3⟩
      have hb3' := hb2'.trans (hb3 w.heap.size (by omega))
      have hs3 := (hb3 0 (by omega)).size
      have HX := Lib.hid hx
      clear hx hb3
      go_wp2_with fail
      go_ret
      refine ⟨_, rfl, ?_, hb3'⟩
      rw [HN.out, if_pos (by omega)]
      refine FInts.of_cells (l := [((pc + 1 : Nat) : Int)]) (by omega) (by omega) (by simp) (by simp) (fun i hi => ?_)
      obtain rfl : i = 0 := by simpa using hi
      rw [HX.out]; simp [nth]
    · have hne : (if (nth l pc).a < (pc : Int) + 1 then (nth l pc).a else (pc : Int) + 1) ≠ (if (nth l pc).a < (pc : Int) + 1 then (pc : Int) + 1 else (nth l pc).a) := by split <;> omega
      refine (compact_both _ _ _ hne _ hT2).mono ?_
      rintro e w3 ⟨rfl, n, rfl⟩
      have hT3 := Lib.hid (hT2.drewN n)
      have hb3' := hb2'.trans (below_drewN w2 w.heap.size n)
      clear hT2
      go_wp2_with fail
      go_ret
      refine ⟨_, rfl, ?_, hb3'⟩
      rw [HN.out, if_neg (by omega)]
      by_cases cl : (nth l pc).a < (pc : Int) + 1
      · have ht := hT3.out
        rw [if_pos cl, if_pos cl] at ht
        rw [if_pos (by omega)]
        refine FInts.of_cells (w := w2.drewN n) (l := [(((nth l pc).a.toNat : Nat) : Int), ((pc + 1 : Nat) : Int)]) (by show _ < w2.heap.size; omega) (by omega) (by simp) (by simp) (fun i hi => ?_)
        have hi' : i = 0 ∨ i = 1 := by simp at hi; omega
        rcases hi' with rfl | rfl
        · rw [ht.fst]; show _ = some (Value.int .i64 (((nth l pc).a.toNat : Nat) : Int)); rw [Int.toNat_of_nonneg hja.1]
        · rw [ht.snd]; simp [nth]
      · have ht := hT3.out
        rw [if_neg cl, if_neg cl] at ht
        rw [if_neg (by omega)]
        refine FInts.of_cells (w := w2.drewN n) (l := [((pc + 1 : Nat) : Int), (((nth l pc).a.toNat : Nat) : Int)]) (by show _ < w2.heap.size; omega) (by omega) (by simp) (by simp) (fun i hi => ?_)
        have hi' : i = 0 ∨ i = 1 := by simp at hi; omega
        rcases hi' with rfl | rfl
        · rw [ht.fst]; simp [nth]
        · rw [ht.snd]; show _ = some (Value.int .i64 (((nth l pc).a.toNat : Nat) : Int)); rw [Int.toNat_of_nonneg hja.1]
  · have t13 : ((nth l pc).code == 13) = false := by simp [c13]
    have t10 : ((nth l pc).code == 10) = false := by simp [c10]
    have t11 : ((nth l pc).code == 11) = false := by simp [c11]
    have HN : Hid (Mz.nexts (nth l pc) pc = [pc + 1]) := by unfold Hid Mz.nexts; rw [if_neg c13, if_neg c10, if_neg c11]
    clear c10 c13 c11
    go_enter Tryz.func168, Tryz.ntmps168
    go_wp2_with fail
    go_ret
    refine ⟨_, rfl, ?_, hb0.alloc (by simp) _⟩
    rw [HN.out]
    refine FInts.of_cells (l := [((pc + 1 : Nat) : Int)]) (by simp) (by omega) (by simp) (by simp) (fun i hi => ?_)
    obtain rfl : i = 0 := by simpa using hi
    show _ = some (Value.int .i64 ((pc + 1 : Nat) : Int))
    rw [← World.size_alloc w (.cells #[.int .i64 (nth l pc).code, .int .i64 (nth l pc).a] 49), World.cell?_alloc_new]; rfl
end Go.Proofs.YthdomhejkbpabaaGreat
