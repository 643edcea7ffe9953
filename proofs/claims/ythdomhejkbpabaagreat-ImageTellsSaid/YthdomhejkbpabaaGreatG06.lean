/- Lemmas: Join, AtMet, Stk, Types. -/
import Derived.Test.YthdomhejkbpabaaGreatG05
import Derived.Deep.QuietTactic
import Derived.BigQuiet
import Derived.Laws.AppendOwnNone
import Derived.Test.YthdomhejkbpabaaGreatG02
import Derived.Deep.OwnRows
import Derived.Deep.RegionHeld3
import Derived.IntWalk
set_option linter.unusedVariables false
set_option linter.unusedSimpArgs false
/- Whole slices behind slices; copies; sameness of lists of numbers; the join of two stacks, of the program and of the reference. -/
namespace Go.Proofs.YthdomhejkbpabaaGreat
open Go.RowKit

section
variable {P : Program}
/-- all elements of a slice that can be read, behind a slice that the call owns -/
theorem push_sl {ops : Array Oper} {rest : List Oper} {o : Oper} {a : Act} {Q : Exit → Act → World → Prop} {s x : Operand} {t e : TypeId} {z : Value} {sz bytes : Nat}
    (ht : P.underlying t = some (.slice e)) (hi : (P.info? e).map (fun i => (i.zero, i.size, i.bytes)) = some (some z, sz, bytes)) (hzs : z.cells.size = sz) (hsz : 0 < sz)
    (hgd : o.guard = none) (ho : o.op = .call { callee := .builtin .append, args := #[s, x], argTypes := #[t, t] })
    {base n m B : Nat} {v xv : Value} {xs cs : List Value} {w : World} (hs : a.eval s = v) (hown : w.ownsRow base e sz v n xs) (hx : a.eval x = xv) (hsl : Sl w B xv m sz cs)
    (h1 : ∀ u ∈ cs, u.oneCell' = true) (hmx : n + m ≤ maxLen) (hbytes : (n + m) * bytes ≤ 140737488355328) (hb : base ≤ w.heap.size)
    (h : ∀ v' w', w'.ownsRow base e sz v' (n + m) (xs ++ cs) → w.grownBy w' v.ownBlock → Below base w w' → wpList P ops Q rest (a.put o.dst v') w') :
    wpList P ops Q (o :: rest) a w := by
  obtain ⟨i, hi0, hz0, hz1, hz2⟩ := info_parts hi
  obtain ⟨ao, c, rfl, hl, hmc, hc, hbd, hnil, hcell⟩ := hsl
  have fin : ∀ v' w', w'.ownsRow base e sz v' (n + m) (xs ++ cs) → w.grownBy w' v.ownBlock → wpList P ops Q rest (a.put o.dst v') w' :=
    fun v' w' h1 h2 => h v' w' h1 h2 (Below.grown (Below.refl _ _) h2 hb (fun k hk => (hown.lt k hk).1))
  cases ao with
  | none =>
    obtain ⟨rfl, rfl⟩ := hnil rfl
    obtain rfl : cs = [] := List.eq_nil_of_length_eq_zero (by simpa using hl)
    refine wpList_append_own_none hgd s x t ho base e i sz ht hi0 v n xs hs hown hx ?_
    have := fin v w (by simpa using hown) ⟨rfl, rfl, rfl, Nat.le_refl _, fun _ _ _ => rfl⟩
    exact this
  | some ad =>
    refine wpList_append_own _ hgd s x t ho base e i z sz bytes ht hi0 hz0 hz1 hz2 hzs hsz v n xs hs hown ad m c cs hx hl ?_ h1 hmx hbytes hb fun v' w' hown' hg _ => fin v' w' hown' hg
    intro j u hu
    have hm : 0 < m := by
      rcases Nat.eq_zero_or_pos m with h0 | h0
      · subst h0
        have : cs = [] := List.eq_nil_of_length_eq_zero (by simpa using hl)
        subst this; simp at hu
      · exact h0
    obtain ⟨b, o', he, hlt, hcc⟩ := hcell hm
    simp only [Option.some.injEq] at he; subst he
    rw [Addr.add_lit]; exact hcc j u hu
end
theorem ints_one (l : List Int) : ∀ u ∈ l.map (Value.int .i64), u.oneCell' = true := by
  intro u hu; simp only [List.mem_map] at hu; obtain ⟨k, _, rfl⟩ := hu; rfl
theorem push_ints {ops : Array Oper} {rest : List Oper} {o : Oper} {a : Act} {Q : Exit → Act → World → Prop} {s x : Operand}
    (hgd : o.guard = none) (ho : o.op = .call { callee := .builtin .append, args := #[s, x], argTypes := #[27, 27] })
    {base n B : Nat} {v xv : Value} {xs : List Value} {l : List Int} {w : World} (hs : a.eval s = v) (hown : w.ownsRow base 3 1 v n xs) (hx : a.eval x = xv) (hsl : RInts w B xv l)
    (hbytes : (n + l.length) * 8 ≤ 140737488355328) (hb : base ≤ w.heap.size)
    (h : ∀ v' w', w'.ownsRow base 3 1 v' (n + l.length) (xs ++ l.map (Value.int .i64)) → w.grownBy w' v.ownBlock → Below base w w' → wpList Tryz.prog ops Q rest (a.put o.dst v') w') :
    wpList Tryz.prog ops Q (o :: rest) a w :=
  push_sl Tryz.underlying27 info_int rfl (by decide) hgd ho hs hown hx hsl (ints_one l) (by unfold maxLen; omega) hbytes hb h

/-- a new block of no cells -/
theorem owns_empty (w : World) (e : TypeId) (sz base : Nat) (hb : base ≤ w.heap.size) : (w.alloc (.cells #[] e)).ownsRow base e sz (.slice (some ⟨w.heap.size, 0, none⟩) 0 0) 0 [] :=
  World.ownsRow_made w #[] 0 hb (by unfold maxLen; omega) (by simp)

theorem slice_nil_eq (w : World) (ao : Option Addr) (n c n' c' : Nat) : (binOp .eql 27 (.slice ao n c) (.slice none n' c')).run Tryz.prog w = .ok (.bool ao.isNone) w := Lib.run_eql_slice_nil w 27 3 ao n c n' c' Tryz.underlying27

set_option maxHeartbeats 400000 in
theorem cloneInts_any (v : Value) (l : List Int) (B : Nat) (w : World) (h : RInts w B v l) (hB : B ≤ w.heap.size) :
    Calls Tryz.prog 148 #[v] w fun e w' => ∃ r, e = .returned r ∧ w'.ownsRow w.heap.size 3 1 r l.length (l.map (Value.int .i64)) ∧ Below w.heap.size w w' := by
  obtain ⟨ao, c, rfl, h1, h2, h3⟩ := h.open
  have hn0 : ao = none → l.length = 0 ∧ c = 0 := by
    obtain ⟨ao', c', e, _, _, _, _, h6, _⟩ := h
    simp only [Value.slice.injEq] at e
    obtain ⟨rfl, _, rfl⟩ := e
    exact h6
  have heq := slice_nil_eq
  cases ao with
  | none =>
    obtain ⟨hl, rfl⟩ := hn0 rfl
    obtain rfl : l = [] := List.eq_nil_of_length_eq_zero hl
    go_enter Tryz.func148, Tryz.ntmps148
    go_wp2_with fail
    go_ret
    exact ⟨_, rfl, World.ownsRow_nil _ _ _ _, Below.refl _ _⟩
  | some ad =>
    have H := Lib.hid h
    clear h hn0
    go_enter Tryz.func148, Tryz.ntmps148
    go_wp2_with (at_builtin; refine push_ints rfl rfl rfl (owns_empty _ _ _ _ (Nat.le_refl _)) rfl (H.out.frame ((Below.refl _ _).alloc hB _)) (by omega) (by simp) ?_; intro v' w' hown' hgr hb')
    go_ret
    exact ⟨_, rfl, by simpa using hown', ((Below.refl _ _).alloc (Nat.le_refl _) _).trans hb'⟩

/-- nothing is other in the first k -/
def SameTo (a b : List Int) (k : Nat) : Prop := ∀ i, i < k → nth a i = nth b i
theorem same_of_to {a b : List Int} (hl : a.length = b.length) (h : SameTo a b a.length) : a = b := by
  apply List.ext_getElem hl
  intro i h1 h2
  have := h i h1
  rwa [nth_lt h1, nth_lt h2] at this

set_option maxHeartbeats 400000 in
theorem sameInts_any (u v : Value) (a b : List Int) (B : Nat) (w : World) (ha : RInts w B u a) (hb : RInts w B v b) (hB : B ≤ w.heap.size) :
    Calls Tryz.prog 51 #[u, v] w fun e w' => e = .returned (.bool (decide (a = b))) ∧ ∃ n, w' = w.drewN n := by
  obtain ⟨ao, c, rfl, h1, h2, h3⟩ := ha.open
  obtain ⟨bo, d, rfl, k1, k2, k3⟩ := hb.open
  unfold maxLen at h2 k2
  by_cases hl : a.length = b.length
  · have hl' : ((a.length : Int) != b.length) = false := by simp [hl]
    have HL := Lib.hid hl
    clear hl
    go_enter Tryz.func51, Tryz.ntmps51
    go_wp2
    go_loopw [5] (fun i wr => ∃ k : Nat, k ≤ a.length ∧ i = .int .i64 k ∧ SameTo a b k ∧ ∃ n, wr = w.drewN n) (fun i _ => a.length - (intOf i).toNat)
    case atStart => exact ⟨0, Nat.zero_le _, rfl, fun i hi => by omega, 0, rfl⟩
    case round =>
      obtain ⟨k, hk, rfl, hall, nd, rfl⟩ := hrel
      by_cases hlt : k < a.length
      · have hlt2 : k < b.length := by have := HL.out; omega
        obtain ⟨ab, ax, rfl, aB, ac⟩ := ha.at hlt
        obtain ⟨bb, bx, rfl, bB, bc⟩ := hb.at hlt2
        by_cases he : nth a k = nth b k
        · have he' : (nth a k != nth b k) = false := by simp [he]
          have HE := Lib.hid he
          clear he
          go_wp2
          go_quiet (fail)
          go_wp2
          go_roundw
          case rel => exact ⟨k + 1, by omega, by go_num, fun i hi => by
            by_cases c : i = k
            · rw [c]; exact HE.out
            · exact hall i (by omega), _, rfl⟩
          case measure => simp [intOf]; omega
        · have he' : (nth a k != nth b k) = true := by simp [he]
          have hne : Hid (a ≠ b) := fun e => he (by rw [e])
          clear he
          go_wp2
          go_quiet (fail)
          go_wp2
          go_ret
          exact ⟨ret_bool (by simp [hne.out]), _, World.drewN_drewN _ _ _⟩
      · have hab : Hid (a = b) := same_of_to HL.out (fun i hi => hall i (by omega))
        go_wp2
        go_ret
        exact ⟨ret_bool (by simp [hab.out]), nd, rfl⟩
  · have hl' : ((a.length : Int) != b.length) = true := by rw [bne_iff_ne]; omega
    have hne : Hid (a ≠ b) := fun e => hl (by rw [e])
    clear hl
    go_enter Tryz.func51, Tryz.ntmps51
    go_wp2
    go_ret
    exact ⟨ret_bool (by simp [hne.out]), 0, rfl⟩

/-- the same, of the library's Equal -/
theorem equalInts_any (u v : Value) (a b : List Int) (B : Nat) (w : World) (ha : RInts w B u a) (hb : RInts w B v b) (hB : B ≤ w.heap.size) :
    Calls Tryz.prog 166 #[u, v] w fun e w' => e = .returned (.bool (decide (a = b))) ∧ ∃ n, w' = w.drewN n := by
  obtain ⟨ao, c, rfl, h1, h2, h3⟩ := ha.open
  obtain ⟨bo, d, rfl, k1, k2, k3⟩ := hb.open
  unfold maxLen at h2 k2
  by_cases hl : a.length = b.length
  · have hl' : ((a.length : Int) != b.length) = false := by simp [hl]
    have HL := Lib.hid hl
    clear hl
    go_enter Tryz.func166, Tryz.ntmps166
    go_wp2
    go_loopw [13] (fun i wr => ∃ k : Nat, k ≤ a.length ∧ i = .int .i64 k ∧ SameTo a b k ∧ ∃ n, wr = w.drewN n) (fun i _ => a.length - (intOf i).toNat)
    case atStart => exact ⟨0, Nat.zero_le _, rfl, fun i hi => by omega, 0, rfl⟩
    case round =>
      obtain ⟨k, hk, rfl, hall, nd, rfl⟩ := hrel
      by_cases hlt : k < a.length
      · have hlt2 : k < b.length := by have := HL.out; omega
        obtain ⟨ab, ax, rfl, aB, ac⟩ := ha.at hlt
        obtain ⟨bb, bx, rfl, bB, bc⟩ := hb.at hlt2
        by_cases he : nth a k = nth b k
        · have he' : (nth a k != nth b k) = false := by simp [he]
          have HE := Lib.hid he
          clear he
          go_wp2
          go_quiet (fail)
          go_wp2
          go_roundw
          case rel => exact ⟨k + 1, by omega, by go_num, fun i hi => by
            by_cases c : i = k
            · rw [c]; exact HE.out
            · exact hall i (by omega), _, rfl⟩
          case measure => simp [intOf]; omega
        · have he' : (nth a k != nth b k) = true := by simp [he]
          have hne : Hid (a ≠ b) := fun e => he (by rw [e])
          clear he
          go_wp2
          go_quiet (fail)
          go_wp2
          go_ret
          exact ⟨ret_bool (by simp [hne.out]), _, World.drewN_drewN _ _ _⟩
      · have hab : Hid (a = b) := same_of_to HL.out (fun i hi => hall i (by omega))
        go_wp2
        go_ret
        exact ⟨ret_bool (by simp [hab.out]), nd, rfl⟩
  · have hl' : ((a.length : Int) != b.length) = true := by rw [bne_iff_ne]; omega
    have hne : Hid (a ≠ b) := fun e => hl (by rw [e])
    clear hl
    go_enter Tryz.func166, Tryz.ntmps166
    go_wp2
    go_ret
    exact ⟨ret_bool (by simp [hne.out]), 0, rfl⟩

theorem below_drewN (w : World) (B n : Nat) : Below B w (w.drewN n) := ⟨rfl, rfl, rfl, Nat.le_refl _, fun _ _ => rfl⟩

theorem owns_drewN {w : World} {base e sz n : Nat} {v : Value} {xs : List Value} (h : w.ownsRow base e sz v n xs) (k : Nat) : (w.drewN k).ownsRow base e sz v n xs := h

/-- the join of the first k -/
def JoinTo (a b : List Int) (k : Nat) (r : List Int) : Prop := Mz.joinL (a.take k) (b.take k) = some r
theorem joinL_snoc : ∀ {a b r : List Int} {x y : Int}, Mz.joinL a b = some r → Mz.joinL (a ++ [x]) (b ++ [y]) = if Mz.joinT x y = 0 then none else some (r ++ [Mz.joinT x y])
  | [], [], r, x, y, h => by simp [Mz.joinL] at h; subst h; simp [Mz.joinL]
  | u :: a, v :: b, r, x, y, h => by
    simp [Mz.joinL] at h
    obtain ⟨h0, r', hr, rfl⟩ := h
    simp only [List.cons_append, Mz.joinL, h0, if_false, joinL_snoc hr]
    split <;> simp
  | [], _ :: _, _, _, _, h => by simp [Mz.joinL] at h
  | _ :: _, [], _, _, _, h => by simp [Mz.joinL] at h
theorem take_snoc {l : List Int} {k : Nat} (h : k < l.length) : l.take (k + 1) = l.take k ++ [nth l k] := by
  rw [List.take_succ_eq_append_getElem h, nth_lt h]
theorem JoinTo.succ {a b r : List Int} {k : Nat} (h : JoinTo a b k r) (ha : k < a.length) (hb : k < b.length) (h0 : Mz.joinT (nth a k) (nth b k) ≠ 0) : JoinTo a b (k + 1) (r ++ [Mz.joinT (nth a k) (nth b k)]) := by
  unfold JoinTo; rw [take_snoc ha, take_snoc hb, joinL_snoc h, if_neg h0]
theorem joinL_none_append : ∀ {a b c d : List Int}, a.length = b.length → Mz.joinL a b = none → Mz.joinL (a ++ c) (b ++ d) = none
  | [], [], _, _, _, h => by simp [Mz.joinL] at h
  | u :: a, v :: b, c, d, hl, h => by
    simp [Mz.joinL] at h
    simp only [List.cons_append, Mz.joinL]
    by_cases h0 : Mz.joinT u v = 0
    · simp [h0]
    · simp only [h0, if_false]
      cases hr : Mz.joinL a b with
      | none => rw [joinL_none_append (by simpa using hl) hr]; rfl
      | some r => simp [h0, hr] at h
  | [], _ :: _, _, _, hl, _ => by simp at hl
  | _ :: _, [], _, _, hl, _ => by simp at hl
theorem JoinTo.stop {a b r : List Int} {k : Nat} (h : JoinTo a b k r) (hl : a.length = b.length) (ha : k < a.length) (h0 : Mz.joinT (nth a k) (nth b k) = 0) : Mz.joinL a b = none := by
  have hb : k < b.length := by omega
  have e : Mz.joinL (a.take (k + 1)) (b.take (k + 1)) = none := by rw [take_snoc ha, take_snoc hb, joinL_snoc h, if_pos h0]
  have := joinL_none_append (c := a.drop (k + 1)) (d := b.drop (k + 1)) (by simp; omega) e
  rwa [List.take_append_drop, List.take_append_drop] at this
theorem JoinTo.end {a b r : List Int} {k : Nat} (h : JoinTo a b k r) (hl : a.length = b.length) (ha : ¬ k < a.length) : Mz.joinL a b = some r := by
  unfold JoinTo at h; rwa [List.take_of_length_le (by omega), List.take_of_length_le (by omega)] at h
theorem JoinTo.len {a b r : List Int} {k : Nat} (h : JoinTo a b k r) : r.length ≤ a.length := by
  have := (Mz.joinL_len h).1; simp at this; omega

theorem RInts.nil (w : World) (B : Nat) : RInts w B (.slice none 0 0) [] := Sl.nil w B 1
/-- numbers in a block from lo on -/
def FInts (w : World) (lo : Nat) (v : Value) (l : List Int) : Prop := RInts w w.heap.size v l ∧ ∀ b o n c, v = .slice (some ⟨b, o, none⟩) n c → lo ≤ b
theorem FInts.nil (w : World) (lo : Nat) : FInts w lo (.slice none 0 0) [] := ⟨RInts.nil _ _, fun b o n c h => by cases h⟩
theorem FInts.of_owns {w : World} {base : Nat} {e : TypeId} {v : Value} {n : Nat} {l : List Int} (h : w.ownsRow base e 1 v n (l.map (Value.int .i64))) (hn : n ≤ 1000000) : FInts w base v l :=
  ⟨RInts.of_owns h hn, fun b o n' c hv => by
    rcases h.2 with ⟨rfl, _⟩ | ⟨g, cap, cur, rfl, hb, _⟩
    · cases hv
    · cases hv; exact hb⟩
theorem FInts.mono {w : World} {lo lo' : Nat} {v : Value} {l : List Int} (h : FInts w lo v l) (hl : lo' ≤ lo) : FInts w lo' v l := ⟨h.1, fun b o n c e => Nat.le_trans hl (h.2 b o n c e)⟩
theorem FInts.frame {w w' : World} {lo : Nat} {v : Value} {l : List Int} (h : FInts w lo v l) (hb : Below w.heap.size w w') : FInts w' lo v l := ⟨(h.1.frame hb).mono hb.size, h.2⟩
/-- two results: a list of numbers, or none and false -/
def ListOr (lo : Nat) (w' : World) (e : Ending) (x : Option (List Int)) : Prop :=
  ∃ r, e = .returned (.tuple #[r, .bool x.isSome]) ∧ FInts w' lo r (x.getD [])

set_option maxHeartbeats 800000 in
theorem joined_any (u v : Value) (a b : List Int) (B : Nat) (w : World) (ha : RInts w B u a) (hb : RInts w B v b) (hB : B ≤ w.heap.size) (hn : a.length ≤ 1000) :
    Calls Tryz.prog 165 #[u, v] w fun e w' => ListOr w.heap.size w' e (Mz.joinL a b) ∧ Below w.heap.size w w' := by
  obtain ⟨ao, c, rfl, h1, h2, h3⟩ := ha.open
  obtain ⟨bo, d, rfl, k1, k2, k3⟩ := hb.open
  unfold maxLen at h2 k2
  by_cases hl : a.length = b.length
  · have hl' : ((a.length : Int) != b.length) = false := by simp [hl]
    have HL := Lib.hid hl
    clear hl
    go_enter Tryz.func165, Tryz.ntmps165
    go_wp2
    go_loopw [6, 16] (fun r i wr => ∃ (k : Nat) (l : List Int), k ≤ a.length ∧ i = .int .i64 k ∧ JoinTo a b k l ∧ wr.ownsRow w.heap.size 3 1 r l.length (l.map (Value.int .i64)) ∧ Below w.heap.size w wr) (fun _ i _ => a.length - (intOf i).toNat)
    case atStart => exact ⟨0, [], Nat.zero_le _, rfl, rfl, World.ownsRow_nil _ _ _ _, Below.refl _ _⟩
    case round =>
      obtain ⟨k, l, hk, rfl, hj, hown, hbl⟩ := hrel
      have HO := Lib.hid hown
      clear hown
      have hs := hbl.size
      have hll := hj.len
      by_cases hlt : k < a.length
      · have hlt2 : k < b.length := by have := HL.out; omega
        obtain ⟨ab, ax, rfl, aB, ac⟩ := ha.at hlt
        obtain ⟨bb, bx, rfl, bB, bc⟩ := hb.at hlt2
        obtain ⟨hc, hfz⟩ := bcell hbl
        have g1 : ab < w.heap.size := by omega
        have g2 : bb < w.heap.size := by omega
        by_cases he : Mz.joinT (nth a k) (nth b k) = 0
        · have he' : (Mz.joinT (nth a k) (nth b k) == 0) = true := by simp [he]
          have hjn := Lib.hid (hj.stop HL.out hlt he)
          clear he
          go_wp2_with fail
          go_quiet ((go_at_call 205; exact Calls.quiet_of_same ((both_any _ _ _).mono fun _ _ ⟨h, h'⟩ => ⟨h, h'.symm⟩)))
          go_wp2_with fail
          go_ret2
          exact ⟨⟨_, by rw [hjn.out]; rfl, by rw [hjn.out]; exact FInts.nil _ _⟩, hbl.trans (below_drewN _ _ _)⟩
        · have he' : (Mz.joinT (nth a k) (nth b k) == 0) = false := by simp [he]
          have HE := Lib.hid he
          clear he
          go_wp2_with fail
          go_quiet ((go_at_call 205; exact Calls.quiet_of_same ((both_any _ _ _).mono fun _ _ ⟨h, h'⟩ => ⟨h, h'.symm⟩)))
          go_wp2_with (at_builtin; refine push_int rfl rfl rfl (owns_drewN HO.out _) rfl (by omega) (by simpa using hs) ?_; intro v' w' hown' hgr hb')
          go_roundw
          case rel => exact ⟨k + 1, _, by omega, by go_num, hj.succ hlt hlt2 HE.out, by simpa using hown', (hbl.trans (below_drewN _ _ _)).trans hb'⟩
          case measure => simp [intOf]; omega
      · have hjn := Lib.hid (hj.end HL.out hlt)
        go_wp2
        go_ret2
        exact ⟨⟨_, by rw [hjn.out]; rfl, by rw [hjn.out]; exact FInts.of_owns HO.out (by omega)⟩, hbl⟩
  · have hl' : ((a.length : Int) != b.length) = true := by rw [bne_iff_ne]; omega
    have hne : Hid (Mz.joinL a b = none) := by
      cases hj : Mz.joinL a b with
      | none => exact rfl
      | some j => exact absurd (Mz.joinL_len hj).2.symm hl
    clear hl
    go_enter Tryz.func165, Tryz.ntmps165
    go_wp2
    go_ret2
    exact ⟨⟨_, by rw [hne.out]; rfl, by rw [hne.out]; exact FInts.nil _ _⟩, Below.refl _ _⟩
end Go.Proofs.YthdomhejkbpabaaGreat

/- Stacks of places as they lie in memory, and what a stack that comes does to them; entries of a function. -/
namespace Go.Proofs.YthdomhejkbpabaaGreat
open Go.RowKit

theorem nth_set_same {α : Type} [Inhabited α] {l : List α} {i : Nat} (h : i < l.length) (x : α) : nth (l.set i x) i = x := by
  rw [nth_lt (by simpa using h)]; simp
theorem nth_set_other {α : Type} [Inhabited α] {l : List α} {i j : Nat} (h : j < l.length) (hne : i ≠ j) (x : α) : nth (l.set i x) j = nth l j := by
  rw [nth_lt (by simpa using h), nth_lt h, List.getElem_set_ne hne]

theorem FInts.setCell {w : World} {lo : Nat} {v : Value} {l : List Int} (h : FInts w lo v l) {p : Addr} (hp : p.block < lo) (u : Value) : FInts (w.setCell p u) lo v l := by
  obtain ⟨⟨ao, c, h1, h2, h3, h4, h5, h6, h7⟩, hlo⟩ := h
  refine ⟨⟨ao, c, h1, h2, h3, h4, h5, h6, fun hn => ?_⟩, hlo⟩
  obtain ⟨b, o, e, hlt, hc⟩ := h7 hn
  subst e
  have hb := hlo b o _ _ h1
  refine ⟨b, o, rfl, by simpa [World.setCell] using hlt, fun j x hx => ?_⟩
  rw [World.cell?_setCell_other _ _ _ _ (by intro e; rw [e] at hp; simp at hp; omega)]
  exact hc j x hx

/-- stacks in block ab, whether they have been come to in block mb; the stacks themselves in blocks from lo on -/
structure AtMet (w : World) (lo ab mb : Nat) (ta tm : TypeId) (st : Mz.St) : Prop where
  abl : ab < lo
  mbl : mb < lo
  ne : ab ≠ mb
  size : lo ≤ w.heap.size
  met : w.rowIs mb tm st.length (fun i => .bool (nth st i).isSome)
  at' : ∃ g, w.rowIs ab ta st.length g ∧ ∀ i, i < st.length → FInts w lo (g i) ((nth st i).getD [])

theorem AtMet.frame {w w' : World} {lo ab mb : Nat} {ta tm : TypeId} {st : Mz.St} (h : AtMet w lo ab mb ta tm st) (hb : Below w.heap.size w w') : AtMet w' lo ab mb ta tm st := by
  obtain ⟨h1, h2, h3, h4, h5, g, h6, h7⟩ := h
  exact ⟨h1, h2, h3, Nat.le_trans h4 hb.size, h5.of_block (hb.block _ (by omega)), g, h6.of_block (hb.block _ (by omega)), fun i hi => (h7 i hi).frame hb⟩

theorem AtMet.join {w : World} {lo ab mb : Nat} {ta tm : TypeId} {st : Mz.St} {to : Nat} {v : Value} {j : List Int} (h : AtMet w lo ab mb ta tm st) (hto : to < st.length) (hs : (nth st to).isSome = true) (hv : FInts w lo v j) :
    AtMet (w.setCell ⟨ab, to, none⟩ v) lo ab mb ta tm (st.set to (some j)) := by
  obtain ⟨h1, h2, h3, h4, h5, g, h6, h7⟩ := h
  refine ⟨h1, h2, h3, by simpa [World.setCell] using h4, ?_, _, by rw [List.length_set]; exact h6.set to v, fun i hi => ?_⟩
  · rw [List.length_set]
    refine (h5.setOther (by simpa using Ne.symm h3) v).congr fun i hi => ?_
    by_cases c : to = i
    · subst c; rw [nth_set_same hto, hs]; rfl
    · rw [nth_set_other hi c]
  · rw [List.length_set] at hi
    by_cases c : to = i
    · subst c; rw [nth_set_same hto]; simpa using hv.setCell h1 v
    · rw [nth_set_other hi c, if_neg (by omega)]; exact (h7 i hi).setCell h1 v

theorem AtMet.new {w : World} {lo ab mb : Nat} {ta tm : TypeId} {st : Mz.St} {to : Nat} {v : Value} {j : List Int} (h : AtMet w lo ab mb ta tm st) (hto : to < st.length) (hv : FInts w lo v j) :
    AtMet ((w.setCell ⟨ab, to, none⟩ v).setCell ⟨mb, to, none⟩ (.bool true)) lo ab mb ta tm (st.set to (some j)) := by
  obtain ⟨h1, h2, h3, h4, h5, g, h6, h7⟩ := h
  refine ⟨h1, h2, h3, by simpa [World.setCell] using h4, ?_, _, by rw [List.length_set]; exact (h6.set to v).setOther (by simpa using h3) _, fun i hi => ?_⟩
  · rw [List.length_set]
    refine ((h5.setOther (by simpa using Ne.symm h3) v).set to (.bool true)).congr fun i hi => ?_
    by_cases c : to = i
    · subst c; rw [nth_set_same hto]; simp
    · rw [nth_set_other hi c, if_neg (by omega)]
  · rw [List.length_set] at hi
    by_cases c : to = i
    · subst c; rw [nth_set_same hto]; simpa using (hv.setCell h1 v).setCell h2 _
    · rw [nth_set_other hi c, if_neg (by omega)]; exact ((h7 i hi).setCell h1 v).setCell h2 _

/-- cells of one place -/
theorem AtMet.cells {w : World} {lo ab mb : Nat} {ta tm : TypeId} {st : Mz.St} (h : AtMet w lo ab mb ta tm st) {i : Nat} (hi : i < st.length) :
    w.cell? ⟨mb, i, none⟩ = some (.bool (nth st i).isSome) ∧ ∃ v, w.cell? ⟨ab, i, none⟩ = some v ∧ FInts w lo v ((nth st i).getD []) := by
  obtain ⟨h1, h2, h3, h4, h5, g, h6, h7⟩ := h
  exact ⟨h5.cell hi, g i, h6.cell hi, h7 i hi⟩
theorem AtMet.frozen {w : World} {lo ab mb : Nat} {ta tm : TypeId} {st : Mz.St} (h : AtMet w lo ab mb ta tm st) (i : Nat) : w.frozen? ⟨ab, i, none⟩ = false ∧ w.frozen? ⟨mb, i, none⟩ = false := by
  obtain ⟨h1, h2, h3, h4, h5, g, h6, h7⟩ := h
  exact ⟨h6.frozen i, h5.frozen i⟩

/-- lists in the making are lists of types -/
structure Good (n : Nat) (st : Mz.St) : Prop where
  len : st.length = n
  ty : ∀ i, i < n → ∀ s, nth st i = some s → Mz.TyL s ∧ s.length ≤ 8
theorem Good.of_mid {p : List Mz.Fun} {f : Mz.Fun} {st : Mz.St} (h : Mz.Mid p f st) : Good f.code.length st :=
  ⟨h.len, fun i hi s hs => h.ty i s (by rw [← hs, nth_lt (by rw [h.len]; exact hi), List.getElem?_eq_getElem])⟩
theorem nth_get? {α : Type} [Inhabited α] {l : List α} {i : Nat} (h : i < l.length) : l[i]? = some (nth l i) := by rw [nth_lt h, List.getElem?_eq_getElem h]
theorem Good.set {n : Nat} {st : Mz.St} (h : Good n st) {to : Nat} (_hto : to < n) {s : List Int} (hs : Mz.TyL s ∧ s.length ≤ 8) : Good n (st.set to (some s)) := by
  refine ⟨by rw [List.length_set]; exact h.len, fun i hi t ht => ?_⟩
  by_cases c : to = i
  · subst c
    rw [nth_set_same (by rw [h.len]; exact hi)] at ht
    cases ht; exact hs
  · rw [nth_set_other (by rw [h.len]; exact hi) c] at ht
    exact h.ty i hi t ht

theorem come_end {st : Mz.St} {to : Nat} {s : List Int} (h : st.length ≤ to) : Mz.come st to s = none := by
  unfold Mz.come; rw [List.getElem?_eq_none h]
theorem come_new {st : Mz.St} {to : Nat} {s : List Int} (h : to < st.length) (hn : nth st to = none) : Mz.come st to s = some (st.set to (some s), true) := by
  unfold Mz.come; rw [nth_get? h, hn]
theorem come_bad {st : Mz.St} {to : Nat} {s t : List Int} (h : to < st.length) (hn : nth st to = some t) (hj : Mz.joinL t s = none) : Mz.come st to s = none := by
  unfold Mz.come; rw [nth_get? h, hn]; simp only; rw [hj]
theorem come_same {st : Mz.St} {to : Nat} {s t : List Int} (h : to < st.length) (hn : nth st to = some t) (hj : Mz.joinL t s = some t) : Mz.come st to s = some (st, false) := by
  unfold Mz.come; rw [nth_get? h, hn]; simp only; rw [hj]; simp
theorem come_join {st : Mz.St} {to : Nat} {s t j : List Int} (h : to < st.length) (hn : nth st to = some t) (hj : Mz.joinL t s = some j) (hne : j ≠ t) : Mz.come st to s = some (st.set to (some j), true) := by
  unfold Mz.come; rw [nth_get? h, hn]; simp only; rw [hj]; simp [hne]

theorem drop_nth {α : Type} [Inhabited α] {l : List α} {i : Nat} (h : i < l.length) : l.drop i = nth l i :: l.drop (i + 1) := by
  rw [nth_lt h]; exact List.drop_eq_getElem_cons h
theorem comeAll_none {s : List Int} {l : List Nat} {i : Nat} {st : Mz.St} {b : Bool} (h : i < l.length) (hc : Mz.come st (nth l i) s = none) : Mz.comeAll s (l.drop i) (st, b) = none := by
  rw [drop_nth h, Mz.comeAll]; simp only; rw [hc]
theorem comeAll_some {s : List Int} {l : List Nat} {i : Nat} {st st' : Mz.St} {b c : Bool} (h : i < l.length) (hc : Mz.come st (nth l i) s = some (st', c)) : Mz.comeAll s (l.drop i) (st, b) = Mz.comeAll s (l.drop (i + 1)) (st', b || c) := by
  rw [drop_nth h, Mz.comeAll]; simp only; rw [hc]
theorem comeAll_end {s : List Int} {l : List Nat} {i : Nat} {x : Mz.St × Bool} (h : ¬ i < l.length) : Mz.comeAll s (l.drop i) x = some x := by
  rw [List.drop_eq_nil_of_le (by omega)]; rfl

theorem roundFrom_next {p : List Mz.Fun} {f : Mz.Fun} {n j : Nat} {x y : Mz.St × Bool} (h : j < n) (hv : Mz.visit p f j x = some y) : Mz.roundFrom p f (n - j) j x = Mz.roundFrom p f (n - (j + 1)) (j + 1) y := by
  rw [show n - j = (n - (j + 1)) + 1 by omega, Mz.roundFrom, hv]
theorem roundFrom_none {p : List Mz.Fun} {f : Mz.Fun} {n j : Nat} {x : Mz.St × Bool} (h : j < n) (hv : Mz.visit p f j x = none) : Mz.roundFrom p f (n - j) j x = none := by
  rw [show n - j = (n - (j + 1)) + 1 by omega, Mz.roundFrom, hv]
theorem visit_not {p : List Mz.Fun} {f : Mz.Fun} {j : Nat} {x : Mz.St × Bool} (h : j < x.1.length) (hn : nth x.1 j = none) : Mz.visit p f j x = some x := by
  unfold Mz.visit; rw [nth_get? h, hn]
theorem visit_bad {p : List Mz.Fun} {f : Mz.Fun} {j : Nat} {x : Mz.St × Bool} {s : List Int} (h : j < x.1.length) (hn : nth x.1 j = some s) (ht : Mz.tryOp p f (nth f.code j) s = none) : Mz.visit p f j x = none := by
  unfold Mz.visit; rw [nth_get? h, hn]; simp only; unfold nth at ht; rw [ht]
theorem visit_come {p : List Mz.Fun} {f : Mz.Fun} {j : Nat} {x : Mz.St × Bool} {s out : List Int} (h : j < x.1.length) (hn : nth x.1 j = some s) (ht : Mz.tryOp p f (nth f.code j) s = some out) : Mz.visit p f j x = Mz.comeAll out (Mz.nexts (nth f.code j) j) x := by
  unfold Mz.visit; rw [nth_get? h, hn]; simp only; unfold nth at ht; rw [ht]; rfl

theorem filter_one (t : Nat) : ∀ m, t < m → (List.range m).filter (fun k => k == t) = [t]
  | 0, h => by omega
  | m + 1, h => by
    rw [List.range_succ, List.filter_append]
    by_cases c : t = m
    · subst c; rw [List.filter_eq_nil_iff.2 (by intro x hx; simp at hx ⊢; omega)]; simp
    · rw [filter_one t m (by omega)]; simp; omega
theorem filter_two (t u : Nat) (htu : t < u) : ∀ m, u < m → (List.range m).filter (fun k => k == t || k == u) = [t, u]
  | 0, h => by omega
  | m + 1, h => by
    rw [List.range_succ, List.filter_append]
    by_cases c : u = m
    · subst c
      have : (List.range u).filter (fun k => k == t || k == u) = (List.range u).filter (fun k => k == t) := by
        apply List.filter_congr
        intro x hx
        have h1 : x < u := by simpa using hx
        have h2 : (x == u) = false := by rw [beq_eq_false_iff_ne]; omega
        simp [h2]
      rw [this, filter_one t u htu]; simp
    · rw [filter_two t u htu m (by omega)]; simp; omega

/-- places that it goes on at are those that the reference finds -/
theorem goesList_eq (o : Mz.Op) (pc n : Nat) (h : o.code = 10 ∨ o.code = 11 → 0 ≤ o.a ∧ o.a < n) (hpc : pc < n) : goesList o pc (n + 1) = (Mz.nexts o pc).map (fun (k : Nat) => (k : Int)) := by
  have key : ∀ m, goesList o pc m = ((List.range m).filter (fun k => goesTo o pc k)).map (fun (k : Nat) => (k : Int)) := by
    intro m
    induction m with
    | zero => rfl
    | succ m ih => rw [goesList, ih, List.range_succ, List.filter_append, List.map_append]; congr 1; by_cases c : goesTo o pc m = true <;> simp [c]
  rw [key]
  congr 1
  have one := fun t ht => filter_one t (n + 1) ht
  have two := fun t u htu hu => filter_two t u htu (n + 1) hu
  unfold goesTo Mz.nexts
  by_cases c13 : o.code = 13
  · simp [c13]
  rw [if_neg c13]
  simp only [if_neg c13]
  by_cases c10 : o.code = 10
  · obtain ⟨h1, h2⟩ := h (.inl c10)
    rw [if_pos c10, ← one o.a.toNat (by omega)]
    apply List.filter_congr
    intro k hk
    rw [if_pos c10]
    rw [Bool.eq_iff_iff]; simp only [beq_iff_eq]; omega
  rw [if_neg c10]
  simp only [if_neg c10]
  by_cases c11 : o.code = 11
  · obtain ⟨h1, h2⟩ := h (.inr c11)
    rw [if_pos c11]
    simp only [if_pos c11]
    by_cases e1 : o.a.toNat = pc + 1
    · rw [if_pos e1, ← one (pc + 1) (by omega)]
      apply List.filter_congr
      intro k hk
      rw [Bool.eq_iff_iff]; simp only [Bool.or_eq_true, beq_iff_eq]; omega
    rw [if_neg e1]
    by_cases e2 : o.a.toNat < pc + 1
    · rw [if_pos e2, ← two o.a.toNat (pc + 1) e2 (by omega)]
      apply List.filter_congr
      intro k hk
      rw [Bool.eq_iff_iff]; simp only [Bool.or_eq_true, beq_iff_eq]; omega
    · rw [if_neg e2, ← two (pc + 1) o.a.toNat (by omega) (by omega)]
      apply List.filter_congr
      intro k hk
      rw [Bool.eq_iff_iff]; simp only [Bool.or_eq_true, beq_iff_eq]; omega
  · rw [if_neg c11, ← one (pc + 1) (by omega)]
    apply List.filter_congr
    intro k hk
    rw [if_neg c11, Bool.eq_iff_iff]; simp only [beq_iff_eq]; omega
theorem nexts_le {o : Mz.Op} {pc n : Nat} (h : o.code = 10 ∨ o.code = 11 → 0 ≤ o.a ∧ o.a < n) (hpc : pc < n) : ∀ t ∈ Mz.nexts o pc, t ≤ n := by
  intro t ht
  unfold Mz.nexts at ht
  split at ht
  · simp at ht
  split at ht
  · rename_i c; simp at ht; have := h (.inl c); omega
  split at ht
  · rename_i c; have := h (.inr c)
    split at ht
    · simp at ht; omega
    split at ht <;> simp at ht <;> omega
  · simp at ht; omega

/-- entries: of each place that has been come to its number and its stack -/
def entsTo (st : Mz.St) (k : Nat) : List (Nat × List Int) := (List.range k).filterMap (fun i => (nth st i).map (fun s => (i, s)))
theorem entsTo_succ (st : Mz.St) (k : Nat) : entsTo st (k + 1) = entsTo st k ++ (match nth st k with | none => [] | some s => [(k, s)]) := by
  unfold entsTo; rw [List.range_succ, List.filterMap_append]; congr 1
  cases h : nth st k <;> simp [h]
theorem entsTo_len (st : Mz.St) (k : Nat) : (entsTo st k).length ≤ k := by
  unfold entsTo; exact Nat.le_trans (List.length_filterMap_le _ _) (by simp)
def entCells (x : (Nat × List Int) × Value) : List Value := [.int .i64 x.1.1, x.2]
def REnts (w : World) (B : Nat) (v : Value) (l : List (Nat × List Int)) : Prop :=
  ∃ ps : List ((Nat × List Int) × Value), ps.map (·.1) = l ∧ Sl w B v l.length 2 (ps.flatMap entCells) ∧ ∀ x ∈ ps, RInts w B x.2 x.1.2
theorem REnts.frame {w w' : World} {B : Nat} {v : Value} {l : List (Nat × List Int)} (h : REnts w B v l) (hb : Below B w w') : REnts w' B v l :=
  let ⟨ps, h1, h2, h3⟩ := h; ⟨ps, h1, h2.frame hb, fun x hx => (h3 x hx).frame hb⟩
theorem REnts.mono {w : World} {B B' : Nat} {v : Value} {l : List (Nat × List Int)} (h : REnts w B v l) (hB : B ≤ B') : REnts w B' v l :=
  let ⟨ps, h1, h2, h3⟩ := h; ⟨ps, h1, h2.mono hB, fun x hx => (h3 x hx).mono hB⟩
theorem REnts.open {w : World} {B : Nat} {v : Value} {l : List (Nat × List Int)} (h : REnts w B v l) : ∃ ao c, v = .slice ao l.length c ∧ l.length ≤ c ∧ c ≤ maxLen ∧ l.length * 16 ≤ 140737488351232 := by
  obtain ⟨ps, _, ⟨ao, c, h1, _, h3, h4, h5, _⟩, _⟩ := h; exact ⟨ao, c, h1, h3, h4, by simpa using h5⟩
theorem REnts.at {w : World} {B n c : Nat} {ao : Option Addr} {l : List (Nat × List Int)} (h : REnts w B (.slice ao n c) l) {i : Nat} (hi : i < l.length) :
    ∃ b o sv, ao = some ⟨b, o, none⟩ ∧ b < B ∧ w.cell? ⟨b, o + i * 2, none⟩ = some (.int .i64 (nth l i).1) ∧ w.cell? ⟨b, o + i * 2 + 1, none⟩ = some sv ∧ RInts w B sv (nth l i).2 := by
  obtain ⟨ps, hl, ⟨ao', c', e, h7⟩, h8⟩ := h
  simp only [Value.slice.injEq] at e
  obtain ⟨rfl, rfl, rfl⟩ := e
  obtain ⟨b, o, h1, h2, h3⟩ := Sl.at ⟨ao, c, rfl, h7⟩ hi
  have h3' : ∀ (k j : Nat) u, _ → w.cell? ⟨b, o + k + j, none⟩ = some u := fun k j u hu => by rw [Nat.add_assoc]; exact h3 (k + j) u hu
  have hpl : i < ps.length := by rw [← hl, List.length_map] at hi; exact hi
  have hx := map_get hl hi
  have hm := h8 _ (Mz.getElem!_mem hpl)
  rw [hx] at hm
  refine ⟨b, o, ps[i]!.2, h1, h2, h3 (i * 2 + 0) _ ?_, h3' (i * 2) 1 _ ?_, hm⟩
  all_goals rw [flat_get (sz := 2) (fun _ => rfl) ps i _ hpl (by omega)]; (try rw [show nth l i = _ from hx.symm]); rfl
theorem REnts.of_owns {w : World} {base : Nat} {e : TypeId} {v : Value} {ps : List ((Nat × List Int) × Value)} (h : w.ownsRow base e 2 v ps.length (ps.flatMap entCells)) (hn : ps.length ≤ 1000000) (hr : ∀ x ∈ ps, RInts w w.heap.size x.2 x.1.2) : REnts w w.heap.size v (ps.map (·.1)) :=
  ⟨ps, rfl, by rw [List.length_map]; exact Sl.of_owns h (by omega), hr⟩
end Go.Proofs.YthdomhejkbpabaaGreat

/- The stack of types on which an op is tried: pop, take, put. -/
namespace Go.Proofs.YthdomhejkbpabaaGreat
open Go.RowKit

theorem owns_ne {w : World} {b : Nat} {t e : TypeId} {n : Nat} {f : Nat → Value} {base sz k : Nat} {v : Value} {xs : List Value} (hr : w.rowIs b t n f) (ho : w.ownsRow base e sz v k xs) (hte : e ≠ t) : v.ownBlock ≠ some b := by
  obtain ⟨c, hb, _⟩ := hr
  rcases ho.2 with ⟨rfl, _⟩ | ⟨g, cap, cur, rfl, _, hg, _⟩
  · simp [Value.ownBlock]
  · intro hx
    simp only [Value.ownBlock, Option.some.injEq] at hx
    subst hx
    rw [hg] at hb
    simp only [Option.some.injEq, Obj.cells.injEq] at hb
    exact hte hb.2.1
theorem owns_of_block {w w' : World} {base e sz k : Nat} {v : Value} {xs : List Value} (ho : w.ownsRow base e sz v k xs) (h : ∀ g, v.ownBlock = some g → w'.heap[g]? = w.heap[g]?) : w'.ownsRow base e sz v k xs := by
  refine ⟨ho.1, ?_⟩
  rcases ho.2 with h2 | ⟨g, cap, cur, hv, h3, hg, r⟩
  · exact .inl h2
  · exact .inr ⟨g, cap, cur, hv, h3, by rw [h g (by rw [hv]; rfl)]; exact hg, r⟩
/-- the first k of what is owned -/
theorem owns_take {w : World} {base e sz n c : Nat} {ao : Option Addr} {xs : List Value} (ho : w.ownsRow base e sz (.slice ao n c) n xs) {k : Nat} (hk : k ≤ n) : w.ownsRow base e sz (.slice ao k c) k (xs.take (k * sz)) := by
  have hl := ho.1
  have hkm : k * sz ≤ n * sz := Nat.mul_le_mul_right _ hk
  refine ⟨by rw [List.length_take, hl]; omega, ?_⟩
  rcases ho.2 with ⟨h2, h3⟩ | ⟨g, cap, cur, hv, h3, hg, h4, h5, h6, h7⟩
  · simp only [Value.slice.injEq] at h2
    obtain ⟨rfl, _, rfl⟩ := h2
    obtain rfl : k = 0 := by omega
    exact .inl ⟨rfl, rfl⟩
  · simp only [Value.slice.injEq] at hv
    obtain ⟨rfl, _, rfl⟩ := hv
    refine .inr ⟨g, c, cur, rfl, h3, hg, by omega, h5, h6, ?_⟩
    rw [← h7, List.take_take, Nat.min_eq_left hkm]

/-- nothing but block b has turned -/
structure Only (b : Nat) (w w' : World) : Prop where
  os : w'.os = w.os
  tape : w'.tape = w.tape
  output : w'.output = w.output
  size : w'.heap.size = w.heap.size
  block : ∀ k, k ≠ b → w'.heap[k]? = w.heap[k]?
theorem Only.refl (b : Nat) (w : World) : Only b w w := ⟨rfl, rfl, rfl, rfl, fun _ _ => rfl⟩
theorem Only.trans {b : Nat} {u v w : World} (h : Only b u v) (k : Only b v w) : Only b u w :=
  ⟨k.os.trans h.os, k.tape.trans h.tape, k.output.trans h.output, k.size.trans h.size, fun i hi => (k.block i hi).trans (h.block i hi)⟩
theorem Only.drewN (b : Nat) (w : World) (n : Nat) : Only b w (w.drewN n) := ⟨rfl, rfl, rfl, rfl, fun _ _ => rfl⟩
theorem Only.drew (b : Nat) (w : World) : Only b w w.drew := ⟨rfl, rfl, rfl, rfl, fun _ _ => rfl⟩
theorem Only.setCell {b : Nat} {u w : World} (h : Only b u w) (i : Nat) (v : Value) : Only b u (w.setCell ⟨b, i, none⟩ v) :=
  h.trans ⟨rfl, rfl, rfl, by simp [World.setCell], fun k hk => Below.heap_setCell _ _ _ _ hk⟩
theorem Only.below {b B : Nat} {w w' : World} (h : Only b w w') (hB : B ≤ b) : Below B w w' := ⟨h.os, h.tape, h.output, by rw [h.size]; exact Nat.le_refl _, fun k hk => h.block k (by omega)⟩

/-- the stack in block sb: its list l, whether it was wrong -/
structure Stk (w : World) (lo sb : Nat) (l : List Int) (wr : Bool) : Prop where
  low : lo ≤ sb
  row : ∃ v, w.rowIs sb 202 2 (fun i => if i = 0 then v else .bool wr) ∧ w.ownsRow lo 3 1 v l.length (l.map (Value.int .i64))
theorem Stk.cells {w : World} {lo sb : Nat} {l : List Int} {wr : Bool} (h : Stk w lo sb l wr) : ∃ ao c, w.cell? ⟨sb, 0, none⟩ = some (.slice ao l.length c) ∧ w.cell? ⟨sb, 1, none⟩ = some (.bool wr) ∧ w.frozen? ⟨sb, 0, none⟩ = false ∧ w.frozen? ⟨sb, 1, none⟩ = false ∧ w.ownsRow lo 3 1 (.slice ao l.length c) l.length (l.map (Value.int .i64)) ∧ sb < w.heap.size := by
  obtain ⟨h1, v, h2, h3⟩ := h
  have hv : ∃ ao c, v = .slice ao l.length c := by
    rcases h3.2 with ⟨rfl, h0⟩ | ⟨g, cap, cur, rfl, _⟩
    · exact ⟨_, _, by rw [h0]⟩
    · exact ⟨_, _, rfl⟩
  obtain ⟨ao, c, rfl⟩ := hv
  exact ⟨ao, c, h2.cell (i := 0) (by decide), h2.cell (i := 1) (by decide), h2.frozen 0, h2.frozen 1, h3, h2.lt⟩
/-- a list that it owns laid into it -/
theorem Stk.setL {w : World} {lo sb : Nat} {l l' : List Int} {wr : Bool} {v : Value} (h : Stk w lo sb l wr) (ho : w.ownsRow lo 3 1 v l'.length (l'.map (Value.int .i64))) : Stk (w.setCell ⟨sb, 0, none⟩ v) lo sb l' wr := by
  obtain ⟨h1, v0, h2, h3⟩ := h
  refine ⟨h1, v, (h2.set 0 v).congr (fun i hi => by by_cases c : i = 0 <;> simp [c]), owns_of_block ho fun g hg => Below.heap_setCell _ _ _ _ ?_⟩
  intro e
  exact owns_ne h2 ho (by decide) (by rw [hg, e])
theorem Stk.setW {w : World} {lo sb : Nat} {l : List Int} {wr : Bool} (h : Stk w lo sb l wr) (wr' : Bool) : Stk (w.setCell ⟨sb, 1, none⟩ (.bool wr')) lo sb l wr' := by
  obtain ⟨h1, v0, h2, h3⟩ := h
  refine ⟨h1, v0, (h2.set 1 (.bool wr')).congr (fun i hi => ?_), owns_of_block h3 fun g hg => Below.heap_setCell _ _ _ _ ?_⟩
  · have : i = 0 ∨ i = 1 := by omega
    rcases this with rfl | rfl <;> simp
  · intro e
    exact owns_ne h2 h3 (by decide) (by rw [hg, e])
theorem Stk.frame {w w' : World} {lo sb : Nat} {l : List Int} {wr : Bool} (h : Stk w lo sb l wr) (hb : Below w.heap.size w w') : Stk w' lo sb l wr := by
  obtain ⟨h1, v0, h2, h3⟩ := h
  exact ⟨h1, v0, h2.of_block (hb.block _ h2.lt), owns_of_block h3 fun g hg => hb.block _ (h3.lt g hg).2⟩
/-- a cell with a number lies in another block -/
theorem Stk.ne_of_int {w : World} {lo sb b o : Nat} {l : List Int} {wr : Bool} {x : Int} (h : Stk w lo sb l wr) (hcj : w.cell? ⟨b, o, none⟩ = some (.int .i64 x)) : b ≠ sb := by
  obtain ⟨h1, v0, h2, h3⟩ := h
  rintro rfl
  have hlt2 : o < 2 := by
    obtain ⟨cs, hb, hsz, _⟩ := h2
    simp only [World.cell?, hb] at hcj
    have := (Array.getElem?_eq_some_iff.1 (by simpa using hcj)).1
    omega
  have := h2.cell hlt2
  rw [hcj] at this
  split at this
  · rename_i c0
    rw [Option.some.injEq] at this
    rcases h3.2 with ⟨rfl, _⟩ | ⟨g, cap, cur, rfl, _⟩ <;> cases this
  · cases this
/-- a list of numbers lies in another block -/
theorem Stk.apart {w w' : World} {lo sb B : Nat} {l tk : List Int} {wr : Bool} {tv : Value} (h : Stk w lo sb l wr) (ho : Only sb w w') (ht : RInts w B tv tk) : RInts w' B tv tk := by
  obtain ⟨ao, c, k1, k2, k3, k4, k5, k6, k7⟩ := ht
  refine ⟨ao, c, k1, k2, k3, k4, k5, k6, fun hn => ?_⟩
  obtain ⟨b, o, e, hlt, hc⟩ := k7 hn
  refine ⟨b, o, e, hlt, fun j u hu => ?_⟩
  have hcj := hc j u hu
  have hne : b ≠ sb := by
    rw [List.getElem?_map, Option.map_eq_some_iff] at hu
    obtain ⟨x, _, rfl⟩ := hu
    exact h.ne_of_int hcj
  rw [← hcj]
  exact World.cell?_of_block (ho.block b hne)

def popL (l : List Int) : Int := if l = [] then 0 else nth l (l.length - 1)
set_option maxHeartbeats 1000000 in
set_option maxRecDepth 100000 in
theorem pop_any (w : World) (lo sb : Nat) (l : List Int) (wr : Bool) (h : Stk w lo sb l wr) (hl : l.length ≤ 1000) :
    Calls Tryz.prog 206 #[.pointer (some ⟨sb, 0, none⟩)] w fun e w' => e = .returned (.int .i64 (popL l)) ∧ Stk w' lo sb l.dropLast (wr || l.isEmpty) ∧ Only sb w w' := by
  obtain ⟨ao, c, c0, c1, f0, f1, ho, hsb⟩ := h.cells
  have HO := Lib.hid ho
  have HS := Lib.hid h
  clear h ho
  by_cases hn : l.length = 0
  · have hnil : Hid (l = []) := List.eq_nil_of_length_eq_zero hn
    rw [hn] at c0
    go_enter Tryz.func206, Tryz.ntmps206
    go_wp2_with fail
    go_ret
    refine ⟨ret_int (by rw [hnil.out]; rfl), ?_, (Only.refl _ _).setCell _ _⟩
    have := HS.out.setW true
    rw [hnil.out] at this ⊢
    simpa using this
  · have hne : Hid (l ≠ []) := fun e => hn (by rw [e]; rfl)
    have hr := RInts.of_owns HO.out (by omega)
    obtain ⟨b, o, rfl, hB, cell⟩ := hr.at (i := l.length - 1) (by omega)
    have hc1 : l.length ≤ c := by
      obtain ⟨_, _, hce, hc1, _, _⟩ := hr.open
      simp only [Value.slice.injEq, true_and] at hce
      omega
    clear hr
    have e1 : IntKind.i64.wrap ((l.length : Int) - 1) = l.length - 1 := IntWalk.i64_in _ (by omega)
    have e3 : ((l.length : Int) - 1).toNat = l.length - 1 := by omega
    have e4 : 0 ≤ (l.length : Int) - 1 := by omega
    have e5 : (l.length : Int) - 1 < l.length := by omega
    have e6 : ¬ (l.length : Int) - 1 < 0 := by omega
    have e7 : (l.length : Int) - 1 ≤ c := by omega
    go_enter Tryz.func206, Tryz.ntmps206
    go_wp2_with fail
    go_ret
    refine ⟨ret_int (by rw [popL, if_neg hne.out]), ?_, (Only.refl _ _).setCell _ _⟩
    have hl' : l.dropLast.length = l.length - 1 := by simp
    have := HS.out.setL (l' := l.dropLast) (by
      rw [hl', List.map_dropLast, List.dropLast_eq_take, List.length_map]
      have := owns_take HO.out (k := l.length - 1) (by omega)
      rw [Nat.mul_one] at this
      exact this)
    have he : l.isEmpty = false := by simpa using hne.out
    rw [he, Bool.or_false]
    exact this
end Go.Proofs.YthdomhejkbpabaaGreat

/- What plain ops take and leave, as types, of the program and of the reference. -/
namespace Go.Proofs.YthdomhejkbpabaaGreat
open Go.RowKit

/-- two results: lists of numbers in memory of the call's own -/
def TwoLists (w' : World) (e : Ending) (a b : List Int) : Prop := ∃ u v, e = .returned (.tuple #[u, v]) ∧ RInts w' w'.heap.size u a ∧ RInts w' w'.heap.size v b
theorem below_alloc (w : World) (o : Obj) : Below w.heap.size w (w.alloc o) := (Below.refl _ _).alloc (Nat.le_refl _) _
theorem below_alloc2 (w : World) (o o' : Obj) : Below w.heap.size w ((w.alloc o).alloc o') := (below_alloc w o).alloc (by simp) _
theorem RInts.new (w : World) (l : List Int) (hl : l.length * 8 ≤ 140737488351232) : RInts (w.alloc (.cells (l.map (Value.int .i64)).toArray 3)) (w.alloc (.cells (l.map (Value.int .i64)).toArray 3)).heap.size (.slice (some ⟨w.heap.size, 0, none⟩) l.length l.length) l :=
  (RInts.made w l 3 hl).mono (by simp)
theorem RInts.new1 (w : World) (l : List Int) (o : Obj) (hl : l.length * 8 ≤ 140737488351232) : RInts ((w.alloc (.cells (l.map (Value.int .i64)).toArray 3)).alloc o) ((w.alloc (.cells (l.map (Value.int .i64)).toArray 3)).alloc o).heap.size (.slice (some ⟨w.heap.size, 0, none⟩) l.length l.length) l :=
  ((RInts.new w l hl).frame (below_alloc _ o)).mono (by simp)
theorem RInts.new2 (w : World) (o : Obj) (l : List Int) (hl : l.length * 8 ≤ 140737488351232) : RInts ((w.alloc o).alloc (.cells (l.map (Value.int .i64)).toArray 3)) ((w.alloc o).alloc (.cells (l.map (Value.int .i64)).toArray 3)).heap.size (.slice (some ⟨w.heap.size + 1, 0, none⟩) l.length l.length) l := by
  have := RInts.new (w.alloc o) l hl
  simpa using this
theorem plain_1 (w : World) : Calls Tryz.prog 210 #[.int .i64 1] w fun e w' => TwoLists w' e [] [1] ∧ Below w.heap.size w w' := by
  go_enter Tryz.func210, Tryz.ntmps210
  go_wp2
  go_ret2
  exact ⟨⟨_, _, rfl, RInts.nil _ _, RInts.new w [1] (by decide)⟩, below_alloc _ _⟩
theorem plain_21 (w : World) : Calls Tryz.prog 210 #[.int .i64 21] w fun e w' => TwoLists w' e [] [1] ∧ Below w.heap.size w w' := by
  go_enter Tryz.func210, Tryz.ntmps210
  go_wp2
  go_ret2
  exact ⟨⟨_, _, rfl, RInts.nil _ _, RInts.new w [1] (by decide)⟩, below_alloc _ _⟩
theorem plain_5 (w : World) : Calls Tryz.prog 210 #[.int .i64 5] w fun e w' => TwoLists w' e [1, 1] [1] ∧ Below w.heap.size w w' := by
  go_enter Tryz.func210, Tryz.ntmps210
  go_wp2
  go_ret2
  exact ⟨⟨_, _, rfl, RInts.new1 w [1, 1] _ (by decide), RInts.new2 w _ [1] (by decide)⟩, below_alloc2 _ _ _⟩
theorem plain_6 (w : World) : Calls Tryz.prog 210 #[.int .i64 6] w fun e w' => TwoLists w' e [1, 1] [1] ∧ Below w.heap.size w w' := by
  go_enter Tryz.func210, Tryz.ntmps210
  go_wp2
  go_ret2
  exact ⟨⟨_, _, rfl, RInts.new1 w [1, 1] _ (by decide), RInts.new2 w _ [1] (by decide)⟩, below_alloc2 _ _ _⟩
theorem plain_7 (w : World) : Calls Tryz.prog 210 #[.int .i64 7] w fun e w' => TwoLists w' e [1, 1] [1] ∧ Below w.heap.size w w' := by
  go_enter Tryz.func210, Tryz.ntmps210
  go_wp2
  go_ret2
  exact ⟨⟨_, _, rfl, RInts.new1 w [1, 1] _ (by decide), RInts.new2 w _ [1] (by decide)⟩, below_alloc2 _ _ _⟩
theorem plain_10 (w : World) : Calls Tryz.prog 210 #[.int .i64 10] w fun e w' => TwoLists w' e [] [] ∧ Below w.heap.size w w' := by
  go_enter Tryz.func210, Tryz.ntmps210
  go_wp2
  go_ret2
  exact ⟨⟨_, _, rfl, RInts.nil _ _, RInts.nil _ _⟩, Below.refl _ _⟩
theorem plain_11 (w : World) : Calls Tryz.prog 210 #[.int .i64 11] w fun e w' => TwoLists w' e [1] [] ∧ Below w.heap.size w w' := by
  go_enter Tryz.func210, Tryz.ntmps210
  go_wp2
  go_ret2
  exact ⟨⟨_, _, rfl, RInts.new w [1] (by decide), RInts.nil _ _⟩, below_alloc _ _⟩
theorem plain_20 (w : World) : Calls Tryz.prog 210 #[.int .i64 20] w fun e w' => TwoLists w' e [1] [] ∧ Below w.heap.size w w' := by
  go_enter Tryz.func210, Tryz.ntmps210
  go_wp2
  go_ret2
  exact ⟨⟨_, _, rfl, RInts.new w [1] (by decide), RInts.nil _ _⟩, below_alloc _ _⟩
theorem plain_14 (w : World) : Calls Tryz.prog 210 #[.int .i64 14] w fun e w' => TwoLists w' e [1] [2] ∧ Below w.heap.size w w' := by
  go_enter Tryz.func210, Tryz.ntmps210
  go_wp2
  go_ret2
  exact ⟨⟨_, _, rfl, RInts.new1 w [1] _ (by decide), RInts.new2 w _ [2] (by decide)⟩, below_alloc2 _ _ _⟩
theorem plain_15 (w : World) : Calls Tryz.prog 210 #[.int .i64 15] w fun e w' => TwoLists w' e [2, 1] [1] ∧ Below w.heap.size w w' := by
  go_enter Tryz.func210, Tryz.ntmps210
  go_wp2
  go_ret2
  exact ⟨⟨_, _, rfl, RInts.new1 w [2, 1] _ (by decide), RInts.new2 w _ [1] (by decide)⟩, below_alloc2 _ _ _⟩
theorem plain_16 (w : World) : Calls Tryz.prog 210 #[.int .i64 16] w fun e w' => TwoLists w' e [2, 1, 1] [] ∧ Below w.heap.size w w' := by
  go_enter Tryz.func210, Tryz.ntmps210
  go_wp2
  go_ret2
  exact ⟨⟨_, _, rfl, RInts.new w [2, 1, 1] (by decide), RInts.nil _ _⟩, below_alloc _ _⟩
theorem plain_17 (w : World) : Calls Tryz.prog 210 #[.int .i64 17] w fun e w' => TwoLists w' e [2] [1] ∧ Below w.heap.size w w' := by
  go_enter Tryz.func210, Tryz.ntmps210
  go_wp2
  go_ret2
  exact ⟨⟨_, _, rfl, RInts.new1 w [2] _ (by decide), RInts.new2 w _ [1] (by decide)⟩, below_alloc2 _ _ _⟩
theorem plain_19 (w : World) : Calls Tryz.prog 210 #[.int .i64 19] w fun e w' => TwoLists w' e [2] [1] ∧ Below w.heap.size w w' := by
  go_enter Tryz.func210, Tryz.ntmps210
  go_wp2
  go_ret2
  exact ⟨⟨_, _, rfl, RInts.new1 w [2] _ (by decide), RInts.new2 w _ [1] (by decide)⟩, below_alloc2 _ _ _⟩
theorem plain_18 (w : World) : Calls Tryz.prog 210 #[.int .i64 18] w fun e w' => TwoLists w' e [] [3] ∧ Below w.heap.size w w' := by
  go_enter Tryz.func210, Tryz.ntmps210
  go_wp2
  go_ret2
  exact ⟨⟨_, _, rfl, RInts.nil _ _, RInts.new w [3] (by decide)⟩, below_alloc _ _⟩
def IsPlain (c : Int) : Prop := c = 1 ∨ c = 5 ∨ c = 6 ∨ c = 7 ∨ c = 10 ∨ c = 11 ∨ c = 14 ∨ c = 15 ∨ c = 16 ∨ c = 17 ∨ c = 18 ∨ c = 19 ∨ c = 20 ∨ c = 21
theorem plain_any (c : Int) (h : IsPlain c) (w : World) : Calls Tryz.prog 210 #[.int .i64 c] w fun e w' => TwoLists w' e (Mz.plainOf c 0).1 (Mz.plainOf c 0).2 ∧ Below w.heap.size w w' := by
  rcases h with rfl | rfl | rfl | rfl | rfl | rfl | rfl | rfl | rfl | rfl | rfl | rfl | rfl | rfl
  · exact plain_1 w
  · exact plain_5 w
  · exact plain_6 w
  · exact plain_7 w
  · exact plain_10 w
  · exact plain_11 w
  · exact plain_14 w
  · exact plain_15 w
  · exact plain_16 w
  · exact plain_17 w
  · exact plain_18 w
  · exact plain_19 w
  · exact plain_20 w
  · exact plain_21 w
theorem plainOf_1 (w : World) : Calls Tryz.prog 143 #[.int .i64 1] w fun e w' => e = .returned (.tuple #[.string ⟨#[]⟩, .string ⟨#[105]⟩]) ∧ w = w' := by
  go_enter Tryz.func143, Tryz.ntmps143
  go_wp2
  go_ret2
  exact ⟨rfl, rfl⟩
theorem plainOf_21 (w : World) : Calls Tryz.prog 143 #[.int .i64 21] w fun e w' => e = .returned (.tuple #[.string ⟨#[]⟩, .string ⟨#[105]⟩]) ∧ w = w' := by
  go_enter Tryz.func143, Tryz.ntmps143
  go_wp2
  go_ret2
  exact ⟨rfl, rfl⟩
theorem plainOf_5 (w : World) : Calls Tryz.prog 143 #[.int .i64 5] w fun e w' => e = .returned (.tuple #[.string ⟨#[105, 105]⟩, .string ⟨#[105]⟩]) ∧ w = w' := by
  go_enter Tryz.func143, Tryz.ntmps143
  go_wp2
  go_ret2
  exact ⟨rfl, rfl⟩
theorem plainOf_6 (w : World) : Calls Tryz.prog 143 #[.int .i64 6] w fun e w' => e = .returned (.tuple #[.string ⟨#[105, 105]⟩, .string ⟨#[105]⟩]) ∧ w = w' := by
  go_enter Tryz.func143, Tryz.ntmps143
  go_wp2
  go_ret2
  exact ⟨rfl, rfl⟩
theorem plainOf_7 (w : World) : Calls Tryz.prog 143 #[.int .i64 7] w fun e w' => e = .returned (.tuple #[.string ⟨#[105, 105]⟩, .string ⟨#[105]⟩]) ∧ w = w' := by
  go_enter Tryz.func143, Tryz.ntmps143
  go_wp2
  go_ret2
  exact ⟨rfl, rfl⟩
theorem plainOf_8 (w : World) : Calls Tryz.prog 143 #[.int .i64 8] w fun e w' => e = .returned (.tuple #[.string ⟨#[]⟩, .string ⟨#[108]⟩]) ∧ w = w' := by
  go_enter Tryz.func143, Tryz.ntmps143
  go_wp2
  go_ret2
  exact ⟨rfl, rfl⟩
theorem plainOf_9 (w : World) : Calls Tryz.prog 143 #[.int .i64 9] w fun e w' => e = .returned (.tuple #[.string ⟨#[108]⟩, .string ⟨#[]⟩]) ∧ w = w' := by
  go_enter Tryz.func143, Tryz.ntmps143
  go_wp2
  go_ret2
  exact ⟨rfl, rfl⟩
theorem plainOf_10 (w : World) : Calls Tryz.prog 143 #[.int .i64 10] w fun e w' => e = .returned (.tuple #[.string ⟨#[]⟩, .string ⟨#[]⟩]) ∧ w = w' := by
  go_enter Tryz.func143, Tryz.ntmps143
  go_wp2
  go_ret2
  exact ⟨rfl, rfl⟩
theorem plainOf_11 (w : World) : Calls Tryz.prog 143 #[.int .i64 11] w fun e w' => e = .returned (.tuple #[.string ⟨#[105]⟩, .string ⟨#[]⟩]) ∧ w = w' := by
  go_enter Tryz.func143, Tryz.ntmps143
  go_wp2
  go_ret2
  exact ⟨rfl, rfl⟩
theorem plainOf_20 (w : World) : Calls Tryz.prog 143 #[.int .i64 20] w fun e w' => e = .returned (.tuple #[.string ⟨#[105]⟩, .string ⟨#[]⟩]) ∧ w = w' := by
  go_enter Tryz.func143, Tryz.ntmps143
  go_wp2
  go_ret2
  exact ⟨rfl, rfl⟩
theorem plainOf_14 (w : World) : Calls Tryz.prog 143 #[.int .i64 14] w fun e w' => e = .returned (.tuple #[.string ⟨#[105]⟩, .string ⟨#[114]⟩]) ∧ w = w' := by
  go_enter Tryz.func143, Tryz.ntmps143
  go_wp2
  go_ret2
  exact ⟨rfl, rfl⟩
theorem plainOf_15 (w : World) : Calls Tryz.prog 143 #[.int .i64 15] w fun e w' => e = .returned (.tuple #[.string ⟨#[114, 105]⟩, .string ⟨#[105]⟩]) ∧ w = w' := by
  go_enter Tryz.func143, Tryz.ntmps143
  go_wp2
  go_ret2
  exact ⟨rfl, rfl⟩
theorem plainOf_16 (w : World) : Calls Tryz.prog 143 #[.int .i64 16] w fun e w' => e = .returned (.tuple #[.string ⟨#[114, 105, 105]⟩, .string ⟨#[]⟩]) ∧ w = w' := by
  go_enter Tryz.func143, Tryz.ntmps143
  go_wp2
  go_ret2
  exact ⟨rfl, rfl⟩
theorem plainOf_17 (w : World) : Calls Tryz.prog 143 #[.int .i64 17] w fun e w' => e = .returned (.tuple #[.string ⟨#[114]⟩, .string ⟨#[105]⟩]) ∧ w = w' := by
  go_enter Tryz.func143, Tryz.ntmps143
  go_wp2
  go_ret2
  exact ⟨rfl, rfl⟩
theorem plainOf_19 (w : World) : Calls Tryz.prog 143 #[.int .i64 19] w fun e w' => e = .returned (.tuple #[.string ⟨#[114]⟩, .string ⟨#[105]⟩]) ∧ w = w' := by
  go_enter Tryz.func143, Tryz.ntmps143
  go_wp2
  go_ret2
  exact ⟨rfl, rfl⟩
theorem plainOf_18 (w : World) : Calls Tryz.prog 143 #[.int .i64 18] w fun e w' => e = .returned (.tuple #[.string ⟨#[]⟩, .string ⟨#[110]⟩]) ∧ w = w' := by
  go_enter Tryz.func143, Tryz.ntmps143
  go_wp2
  go_ret2
  exact ⟨rfl, rfl⟩
end Go.Proofs.YthdomhejkbpabaaGreat
