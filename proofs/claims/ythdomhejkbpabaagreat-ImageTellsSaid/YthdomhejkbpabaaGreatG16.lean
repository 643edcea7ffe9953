/- Lemmas: Want3, Concat, Frame, Frames. -/
import Derived.Test.YthdomhejkbpabaaGreatG15
import Derived.Test.YthdomhejkbpabaaGreatG04
import Derived.Lib.AppendZerosOnto
import Derived.Lib.Walk
import Derived.Deep.RegionHeld3
import Derived.Deep.AppendLies
set_option linter.unusedVariables false
set_option linter.unusedSimpArgs false
/- What the checker wants is what is said of it. -/
namespace Go.Proofs.YthdomhejkbpabaaGreat
open Go.RowKit

theorem wantOf_last {p : List Mz.Fun} {m : Mz.Mach} {i k : Nat} (hi : i + 1 = m.frames.length) (hk : (nth m.frames i).fn = (k : Int)) : Mz.wantOf p m i = Mz.entryAt p k (nth m.frames i).pc := by
  unfold Mz.wantOf
  rw [if_neg (by omega)]
  have : (m.frames[i]!).fn = (k : Int) := hk
  rw [this]; rfl
theorem wantOf_wait {p : List Mz.Fun} {m : Mz.Mach} {i k k2 : Nat} (hi : i + 1 < m.frames.length) (hk : (nth m.frames i).fn = (k : Int)) (hk2 : (nth m.frames (i + 1)).fn = (k2 : Int)) : Mz.wantOf p m i = waitOf p k k2 (nth m.frames i).pc := by
  unfold Mz.wantOf waitOf
  rw [if_pos hi]
  have h1 : (m.frames[i]!).fn = (k : Int) := hk
  have h2 : (m.frames[i + 1]!).fn = (k2 : Int) := hk2
  rw [h1, h2, Int.toNat_natCast, Int.toNat_natCast]; rfl
end Go.Proofs.YthdomhejkbpabaaGreat

/- Two slices of values, one behind the other, in a new slice. -/
namespace Go.Proofs.YthdomhejkbpabaaGreat
open Go.RowKit

theorem cell_old {w : World} {o : Obj} {b j : Nat} (h : b < w.heap.size) : (w.alloc o).cell? ⟨b, j, none⟩ = w.cell? ⟨b, j, none⟩ := (bcell ((Below.refl w.heap.size w).alloc (Nat.le_refl _) o)).1 b j h
theorem cell_at {w : World} {cs : Array Value} {t : TypeId} {b j : Nat} {v : Value} (h : b = w.heap.size) (hv : cs[j]? = some v) : (w.alloc (.cells cs t)).cell? ⟨b, j, none⟩ = some v := by subst h; rw [World.cell?_alloc_new]; exact hv
theorem cell_drew {w : World} {a : Addr} : w.drew.cell? a = w.cell? a := rfl
theorem info_val : (Tryz.prog.info? 103).map (fun i => (i.zero, i.size, i.bytes)) = some (some (.agg #[.bool false, .int .i64 0]), 2, 16) := by kernel_rfl
theorem vals_one (l : List Mz.Val) : ∀ u ∈ l.flatMap valCells, u.oneCell' = true := by
  intro u hu; rw [List.mem_flatMap] at hu; obtain ⟨x, _, hx⟩ := hu
  simp only [valCells, List.mem_cons, List.not_mem_nil, or_false] at hx
  rcases hx with rfl | rfl <;> rfl
/-- all values of a slice that can be read, behind a slice that the call owns -/
theorem push_vals {ops : Array Oper} {rest : List Oper} {o : Oper} {a : Act} {Q : Exit → Act → World → Prop} {s x : Operand}
    (hgd : o.guard = none) (ho : o.op = .call { callee := .builtin .append, args := #[s, x], argTypes := #[95, 95] })
    {base n B : Nat} {v xv : Value} {xs : List Value} {l : List Mz.Val} {w : World} (hs : a.eval s = v) (hown : w.ownsRow base 103 2 v n xs) (hx : a.eval x = xv) (hsl : RVals w B xv l)
    (hbytes : (n + l.length) * 16 ≤ 140737488355328) (hb : base ≤ w.heap.size)
    (h : ∀ v' w', w'.ownsRow base 103 2 v' (n + l.length) (xs ++ l.flatMap valCells) → w.grownBy w' v.ownBlock → Below base w w' → wpList Tryz.prog ops Q rest (a.put o.dst v') w') :
    wpList Tryz.prog ops Q (o :: rest) a w :=
  push_sl Tryz.underlying95 info_val rfl (by decide) hgd ho hs hown hx hsl (vals_one l) (by unfold maxLen; omega) hbytes hb h
section
variable {P : Program}
/-- the same at one operation -/
theorem wp_push_sl {o : Oper} {a : Act} {K : Act → World → Prop} {Q : Exit → Act → World → Prop} {s x : Operand} {t e : TypeId} {z : Value} {sz bytes : Nat}
    (ht : P.underlying t = some (.slice e)) (hi : (P.info? e).map (fun i => (i.zero, i.size, i.bytes)) = some (some z, sz, bytes)) (hzs : z.cells.size = sz) (hsz : 0 < sz)
    (ho : o.op = .call { callee := .builtin .append, args := #[s, x], argTypes := #[t, t] })
    {base n m B : Nat} {v xv : Value} {xs cs : List Value} {w : World} (hs : a.eval s = v) (hown : w.ownsRow base e sz v n xs) (hx : a.eval x = xv) (hsl : Sl w B xv m sz cs)
    (h1 : ∀ u ∈ cs, u.oneCell' = true) (hmx : n + m ≤ maxLen) (hbytes : (n + m) * bytes ≤ 140737488355328) (hb : base ≤ w.heap.size)
    (h : ∀ v' w', w'.ownsRow base e sz v' (n + m) (xs ++ cs) → w.grownBy w' v.ownBlock → Below base w w' → K (a.put o.dst v') w') :
    o.wp P a w K Q := by
  obtain ⟨i, hi0, hz0, hz1, hz2⟩ := info_parts hi
  obtain ⟨ao, c, rfl, hl, hmc, hc, hbd, hnil, hcell⟩ := hsl
  have fin : ∀ v' w', w'.ownsRow base e sz v' (n + m) (xs ++ cs) → w.grownBy w' v.ownBlock → K (a.put o.dst v') w' :=
    fun v' w' h1 h2 => h v' w' h1 h2 (Below.grown (Below.refl _ _) h2 hb (fun k hk => (hown.lt k hk).1))
  cases ao with
  | none =>
    obtain ⟨rfl, rfl⟩ := hnil rfl
    obtain rfl : cs = [] := List.eq_nil_of_length_eq_zero (by simpa using hl)
    have hrun := run_append_owned_none (P := P) (w := w) base t o.type e i sz ht hi0 v n xs hown
    unfold Oper.wp
    simp [execOp, ho, resolve, invoke, builtin, hs, hx, hrun, Result.andThen]
    exact fin v w (by simpa using hown) ⟨rfl, rfl, rfl, Nat.le_refl _, fun _ _ _ => rfl⟩
  | some ad =>
    refine wp_append_own _ s x t ho base e i z sz bytes ht hi0 hz0 hz1 hz2 hzs hsz v n xs hs hown ad m c cs hx hl ?_ h1 hmx hbytes hb fun v' w' hown' hg _ => fin v' w' hown' hg
    intro j u hu
    have hm : 0 < m := by
      rcases Nat.eq_zero_or_pos m with h0 | h0
      · subst h0
        have : cs = [] := List.eq_nil_of_length_eq_zero (by simpa using hl)
        subst this; simp at hu
      · exact h0
    obtain ⟨b, o', he, hlt, hcc⟩ := hcell hm
    simp only [Option.some.injEq] at he; subst he
    rw [Addr.add_lit]; exact hcc j u hu
/-- the same at a step of a region that draws its order -/
theorem step_push_sl {ops : Array Oper} {o : Oper} {a : Act} {K : Act → World → Prop} {Q : Exit → Act → World → Prop} {E : Prop} {s x : Operand} {t e : TypeId} {z : Value} {sz bytes : Nat}
    (ht : P.underlying t = some (.slice e)) (hi : (P.info? e).map (fun i => (i.zero, i.size, i.bytes)) = some (some z, sz, bytes)) (hzs : z.cells.size = sz) (hsz : 0 < sz)
    (hgd : o.guard = none) (ho : o.op = .call { callee := .builtin .append, args := #[s, x], argTypes := #[t, t] })
    {base n m B : Nat} {v xv : Value} {xs cs : List Value} {w : World} (hs : a.eval s = v) (hown : w.ownsRow base e sz v n xs) (hx : a.eval x = xv) (hsl : Sl w B xv m sz cs)
    (h1 : ∀ u ∈ cs, u.oneCell' = true) (hmx : n + m ≤ maxLen) (hbytes : (n + m) * bytes ≤ 140737488355328) (hb : base ≤ w.heap.size)
    (h : ∀ v' w', w'.ownsRow base e sz v' (n + m) (xs ++ cs) → w.grownBy w' v.ownBlock → Below base w w' → K (a.put o.dst v') w') :
    if Region.wanted o (yielded ops a.tmps) = true then Oper.wp P o a w K Q else E := by
  have hw : Region.wanted o (yielded ops a.tmps) = true := by simp [Region.wanted, hgd]
  rw [if_pos hw]
  exact wp_push_sl ht hi hzs hsz ho hs hown hx hsl h1 hmx hbytes hb h
end
theorem step_push_vals {ops : Array Oper} {o : Oper} {a : Act} {K : Act → World → Prop} {Q : Exit → Act → World → Prop} {E : Prop} {s x : Operand}
    (hgd : o.guard = none) (ho : o.op = .call { callee := .builtin .append, args := #[s, x], argTypes := #[95, 95] })
    {base n B : Nat} {v xv : Value} {xs : List Value} {l : List Mz.Val} {w : World} (hs : a.eval s = v) (hown : w.ownsRow base 103 2 v n xs) (hx : a.eval x = xv) (hsl : RVals w B xv l)
    (hbytes : (n + l.length) * 16 ≤ 140737488355328) (hb : base ≤ w.heap.size)
    (h : ∀ v' w', w'.ownsRow base 103 2 v' (n + l.length) (xs ++ l.flatMap valCells) → w.grownBy w' v.ownBlock → Below base w w' → K (a.put o.dst v') w') :
    if Region.wanted o (yielded ops a.tmps) = true then Oper.wp Tryz.prog o a w K Q else E :=
  step_push_sl Tryz.underlying95 info_val rfl (by decide) hgd ho hs hown hx hsl (vals_one l) (by unfold maxLen; omega) hbytes hb h
theorem step_push_ints {ops : Array Oper} {o : Oper} {a : Act} {K : Act → World → Prop} {Q : Exit → Act → World → Prop} {E : Prop} {s x : Operand}
    (hgd : o.guard = none) (ho : o.op = .call { callee := .builtin .append, args := #[s, x], argTypes := #[27, 27] })
    {base n B : Nat} {v xv : Value} {xs : List Value} {l : List Int} {w : World} (hs : a.eval s = v) (hown : w.ownsRow base 3 1 v n xs) (hx : a.eval x = xv) (hsl : RInts w B xv l)
    (hbytes : (n + l.length) * 8 ≤ 140737488355328) (hb : base ≤ w.heap.size)
    (h : ∀ v' w', w'.ownsRow base 3 1 v' (n + l.length) (xs ++ l.map (Value.int .i64)) → w.grownBy w' v.ownBlock → Below base w w' → K (a.put o.dst v') w') :
    if Region.wanted o (yielded ops a.tmps) = true then Oper.wp Tryz.prog o a w K Q else E :=
  step_push_sl Tryz.underlying27 info_int rfl (by decide) hgd ho hs hown hx hsl (ints_one l) (by unfold maxLen; omega) hbytes hb h
/-- values that the call owns it can read -/
theorem RVals.of_owns {w : World} {base : Nat} {e : TypeId} {v : Value} {n : Nat} {l : List Mz.Val} (h : w.ownsRow base e 2 v n (l.flatMap valCells)) (hn : n * 16 ≤ 140737488351232) : RVals w w.heap.size v l := by
  have hl : l.length = n := by have := h.1; rw [flat_len (sz := 2) (fun _ => rfl)] at this; omega
  unfold RVals
  rw [hl]
  exact Sl.of_owns h (by omega)

/-- values that the call owns, one by one -/
theorem owns_vals {w : World} {base : Nat} {e : TypeId} {v : Value} {l : List Mz.Val} (h : w.ownsRow base e 2 v l.length (l.flatMap valCells)) :
    ∃ ao c, v = .slice ao l.length c ∧ l.length ≤ c ∧ c ≤ maxLen ∧ ∀ i, i < l.length → ∃ b, ao = some ⟨b, 0, none⟩ ∧ base ≤ b ∧ b < w.heap.size ∧ w.cell? ⟨b, i * 2, none⟩ = some (.bool (nth l i).ref) ∧ w.cell? ⟨b, i * 2 + 1, none⟩ = some (.int .i64 (nth l i).n) := by
  rcases h.2 with ⟨rfl, h0⟩ | ⟨g, cap, cur, rfl, hb, hg, h1, h2, h3, h4⟩
  · rw [h0]; exact ⟨_, _, rfl, Nat.le_refl _, Nat.zero_le _, fun i hi => by omega⟩
  · refine ⟨_, cap, rfl, h1, h2, fun i hi => ⟨g, rfl, hb, (Array.getElem?_eq_some_iff.1 hg).1, ?_, ?_⟩⟩
    · have := World.ownsRow.cells h (g := g) rfl (i * 2 + 0) _ (by rw [flat_get (sz := 2) (fun _ => rfl) l i 0 hi (by omega)]; rfl)
      simp only [Addr.add_lit, Nat.zero_add, Nat.add_zero] at this; exact this
    · have := World.ownsRow.cells h (g := g) rfl (i * 2 + 1) _ (by rw [flat_get (sz := 2) (fun _ => rfl) l i 1 hi (by omega)]; rfl)
      simp only [Addr.add_lit, Nat.zero_add] at this; exact this

def Grown (w : World) (e : Ending) (w' : World) : Prop := ∃ r, e = .returned r ∧ w'.ownsRow w.heap.size 103 2 r 0 [] ∧ Below w.heap.size w w'
set_option maxHeartbeats 1000000 in
theorem growVals_any (n : Nat) (w : World) (hn : n * 16 ≤ 140737488355328) : Calls Tryz.prog 228 #[.slice none 0 0, .int .i64 n] w (Grown w) := by
  rcases Nat.eq_zero_or_pos n with rfl | h0
  · go_enter Tryz.func228, Tryz.ntmps228
    go_wp2_with fail
    go_ret
    exact ⟨_, rfl, World.ownsRow_nil _ _ _ _, Below.refl _ _⟩
  · obtain ⟨i0, hi0, hz0, hs0, hb0⟩ := info_parts info_val
    have hold : (Builtin.firstCells i0.size 0 (.slice none 0 0)).run Tryz.prog w.drew = .ok #[] w.drew := run_firstCells_none w.drew i0.size 0 0 0
    have hrz : ∀ ty, (Builtin.append_ #[95, 3] ty #[.slice none 0 0, .int .i64 n]).run Tryz.prog w =
        .ok (.slice (some ⟨w.heap.size, 0, none⟩) n (grownCap w n 0 103)) (w.drew.alloc (.cells (Builtin.zeroCells #[.bool false, .int .i64 0] n ++ Builtin.zeroCells #[.bool false, .int .i64 0] (grownCap w n 0 103 - n)) 103)) := fun ty => by
      have h := Lib.run_append_grow_zeros w 95 3 ty 103 i0 _ .i64 .i64 Tryz.underlying95 Tryz.underlying3 hi0 hz0 none 0 0 [] hold n h0 (by omega) (by omega) (by omega) (by rw [hb0]; omega) (by rw [Nat.zero_add, hb0]; exact growslice_fits (by omega) (by omega))
      simpa [Value.cells] using h
    have hGn : n ≤ grownCap w n 0 103 := grownCap_ge w _ _ _
    have hGm := grownCap_le_maxLen w n 0 103 (by unfold maxLen; omega)
    obtain ⟨G, hG⟩ : ∃ G, G = grownCap w n 0 103 := ⟨_, rfl⟩
    rw [← hG] at hrz hGn hGm
    have hcs : (Builtin.zeroCells #[Value.bool false, .int .i64 0] n ++ Builtin.zeroCells #[Value.bool false, .int .i64 0] (G - n)).size = G * 2 := by
      rw [Array.size_append, size_zeroCells, size_zeroCells]; simp; omega
    have HM := Lib.hid hGm
    have HCS := Lib.hid hcs
    have h63 : G ≤ 9223372036854775807 := by unfold maxLen at hGm; omega
    have hn0 : (0 : Int) < (n : Int) := by omega
    generalize (Builtin.zeroCells #[Value.bool false, .int .i64 0] n ++ Builtin.zeroCells #[Value.bool false, .int .i64 0] (G - n)) = CS at *
    clear hold hG hGm hcs hi0 hz0 hs0 hb0
    go_enter Tryz.func228, Tryz.ntmps228
    go_wp2_with (at_builtin; refine Lib.wpList_append_run _ rfl _ _ _ _ rfl _ _ rfl rfl _ _ (hrz _) ?_)
    go_ret
    have hd : Below w.heap.size w w.drew := (Below.refl _ _).drew
    exact ⟨_, rfl, World.ownsRow_made w.drew _ _ (Nat.le_refl _) HM.out HCS.out, hd.alloc (Nat.le_refl _) _⟩

theorem owns_drew {w : World} {base e sz n : Nat} {v : Value} {xs : List Value} (h : w.ownsRow base e sz v n xs) : w.drew.ownsRow base e sz v n xs := h
def Joined (w : World) (l : List Mz.Val) (e : Ending) (w' : World) : Prop := ∃ r, e = .returned r ∧ w'.ownsRow w.heap.size 103 2 r l.length (l.flatMap valCells) ∧ Below w.heap.size w w'
/-- how far the second loop has come -/
def JoinAt (w : World) (x y : List Mz.Val) (v : Value) (i : Value) (wr : World) : Prop :=
  Below w.heap.size w wr ∧ ((i = .int .i64 0 ∧ wr.ownsRow w.heap.size 103 2 v 0 []) ∨ (i = .int .i64 1 ∧ wr.ownsRow w.heap.size 103 2 v x.length (x.flatMap valCells)) ∨ (i = .int .i64 2 ∧ wr.ownsRow w.heap.size 103 2 v (x.length + y.length) ((x ++ y).flatMap valCells)))
set_option maxHeartbeats 2000000 in
set_option maxRecDepth 100000 in
theorem concat_any (b B : Nat) (u v : Value) (x y : List Mz.Val) (w : World) (h0 : w.cell? ⟨b, 0, none⟩ = some u) (h1 : w.cell? ⟨b, 1, none⟩ = some v) (hb : b < w.heap.size) (hB : B ≤ w.heap.size) (hu : RVals w B u x) (hv : RVals w B v y) (hn : (x.length + y.length) * 16 ≤ 140737488355328) :
    Calls Tryz.prog 213 #[.slice (some ⟨b, 0, none⟩) 2 2] w (Joined w (x ++ y)) := by
  have HU := Lib.hid hu
  have HV := Lib.hid hv
  obtain ⟨uo, uc, rfl, u1, u2, u3⟩ := hu.open
  obtain ⟨vo, vc, rfl, v1, v2, v3⟩ := hv.open
  unfold maxLen at u2 v2
  clear hu hv
  go_enter Tryz.func213, Tryz.ntmps213
  go_wp2_with fail
  go_loop [3, 11] (fun s i => (i = .int .i64 0 ∧ s = .int .i64 0) ∨ (i = .int .i64 1 ∧ s = .int .i64 x.length) ∨ (i = .int .i64 2 ∧ s = .int .i64 ((x.length + y.length : Nat) : Int))) (fun _ i => 2 - (intOf i).toNat)
  case atStart => exact .inl ⟨rfl, rfl⟩
  case round =>
    rcases hrel with ⟨rfl, rfl⟩ | ⟨rfl, rfl⟩ | ⟨rfl, rfl⟩
    · go_wp2_with fail
      go_round
      case rel => exact .inr (.inl ⟨rfl, by go_num⟩)
      case measure => simp [intOf]
    · go_wp2_with fail
      go_round
      case rel => exact .inr (.inr ⟨rfl, by go_num⟩)
      case measure => simp [intOf]
    · have h0' := Lib.hid h0
      have h1' := Lib.hid h1
      clear h0 h1
      go_wp2_with fail
      refine (growVals_any (x.length + y.length) _ hn).mono ?_
      rintro e w1 ⟨r, rfl, hown, hb1⟩
      have HO := Lib.hid hown
      have HB1 := Lib.hid hb1
      clear hown hb1
      go_wp2_with fail
      go_loopw [6, 27] (fun v i wr => JoinAt w x y v i wr) (fun _ i _ => 2 - (intOf i).toNat)
      case atStart => exact ⟨HB1.out, .inl ⟨rfl, HO.out⟩⟩
      case round =>
        obtain ⟨hbw, hrel⟩ := hrel
        have hsz := hbw.size
        have HBW := Lib.hid hbw
        obtain ⟨hc, hf⟩ := bcell hbw
        rcases hrel with ⟨rfl, ho⟩ | ⟨rfl, ho⟩ | ⟨rfl, ho⟩
        · have g0 : wr.cell? ⟨b, 0, none⟩ = some (.slice uo x.length uc) := (hc _ _ hb).trans h0'.out
          have HOW := Lib.hid ho
          obtain ⟨ao, ac, rfl⟩ := owned_open ho
          clear ho hc hf hbw HO
          go_wp2_with (at_builtin; refine push_vals rfl rfl rfl HOW.out rfl (HU.out.frame (HBW.out.mono hB)) (by omega) (by omega) ?_; intro v' w' hown' hgr hb')
          have HO2 := Lib.hid hown'
          have HB2 := Lib.hid (HBW.out.trans hb')
          clear hown' hgr hb'
          go_wp2_with fail
          go_roundw
          case rel => exact ⟨HB2.out, .inr (.inl ⟨rfl, by simpa using HO2.out⟩)⟩
          case measure => simp [intOf]
        · have g1 : wr.cell? ⟨b, 1, none⟩ = some (.slice vo y.length vc) := (hc _ _ hb).trans h1'.out
          have HOW := Lib.hid ho
          obtain ⟨ao, ac, rfl⟩ := owned_open ho
          clear ho hc hf hbw HO
          go_wp2_with (at_builtin; refine push_vals rfl rfl rfl HOW.out rfl (HV.out.frame (HBW.out.mono hB)) (by omega) (by omega) ?_; intro v' w' hown' hgr hb')
          have HO2 := Lib.hid hown'
          have HB2 := Lib.hid (HBW.out.trans hb')
          clear hown' hgr hb'
          go_wp2_with fail
          go_roundw
          case rel => exact ⟨HB2.out, .inr (.inr ⟨rfl, by rw [List.flatMap_append]; exact HO2.out⟩)⟩
          case measure => simp [intOf]
        · have HOW := Lib.hid ho
          clear ho hc hf hbw HO
          go_wp2_with fail
          go_ret
          exact ⟨_, rfl, by rw [List.length_append]; exact HOW.out, HBW.out⟩
end Go.Proofs.YthdomhejkbpabaaGreat

/- The checker's look at one frame. -/
namespace Go.Proofs.YthdomhejkbpabaaGreat
open Go.RowKit

/-- the first j values are as their types say -/
def AsTo (s : List Mz.Val) (t : List Int) (j : Nat) : Prop := ∀ i, i < j → Mz.asT (nth s i) (nth t i) = true
theorem AsTo.succ {s : List Mz.Val} {t : List Int} {j : Nat} (h : AsTo s t j) (hj : Mz.asT (nth s j) (nth t j) = true) : AsTo s t (j + 1) := fun i hi => by
  by_cases c : i = j
  · rw [c]; exact hj
  · exact h i (by omega)
theorem AsTo.end {s : List Mz.Val} {t : List Int} {j : Nat} (h : AsTo s t j) (hl : s.length = t.length) (hj : ¬ j < t.length) : Mz.asAll s t = true := (Mz.asAll_iff hl).2 fun i hi => h i (by omega)
/-- each frame is of a function that is there -/
def FnsIn (p : List Mz.Fun) (m : Mz.Mach) : Prop := ∀ j, j < m.frames.length → 0 ≤ (nth m.frames j).fn ∧ (nth m.frames j).fn < p.length
theorem FnsIn.nat {p : List Mz.Fun} {m : Mz.Mach} (h : FnsIn p m) {j : Nat} (hj : j < m.frames.length) : ∃ k : Nat, (nth m.frames j).fn = (k : Int) ∧ k < p.length :=
  ⟨((nth m.frames j).fn).toNat, by have := h j hj; omega, by have := h j hj; omega⟩
theorem want_any (w : World) (cb B : Nat) (bv iv ov pv : Value) (fo' : Option Addr) (fc : Nat) (p : List Mz.Fun) (m : Mz.Mach) (h : Chk w cb (.slice fo' m.frames.length fc) bv iv ov pv m) (hB : B ≤ w.heap.size) (hfr : RFrms w B (.slice fo' m.frames.length fc) m.frames) (hp : RFuns w B pv p)
    (hfit : Mz.checkFits p = 0) (i : Nat) (hi : i < m.frames.length) (hn : m.frames.length ≤ 6) (hf : FnsIn p m) :
    Calls Tryz.prog 216 #[.pointer (some ⟨cb, 0, none⟩), .int .i64 i] w fun e w' => SeekRes w' e (Mz.wantOf p m i) ∧ Below w.heap.size w w' := by
  obtain ⟨k, hk, hkl⟩ := hf.nat hi
  by_cases c : i + 1 = m.frames.length
  · rw [wantOf_last c hk]
    exact want_last w cb B bv iv ov pv fo' fc p m h hB hfr hp hfit i k c hn hk hkl
  · obtain ⟨k2, hk2, hk2l⟩ := hf.nat (j := i + 1) (by omega)
    rw [wantOf_wait (by omega) hk hk2]
    exact want_wait w cb B bv iv ov pv fo' fc p m h hB hfr hp hfit i k (by omega) hn hk hkl k2 hk2 hk2l

set_option maxHeartbeats 2000000 in
set_option maxRecDepth 100000 in
theorem frame_any (w : World) (cb B : Nat) (iv ov pv : Value) (fo' bo : Option Addr) (fc bc : Nat) (p : List Mz.Fun) (m : Mz.Mach) (h : Chk w cb (.slice fo' m.frames.length fc) (.slice bo m.blocks.length bc) iv ov pv m) (hB : B ≤ w.heap.size) (hfr : RFrms w B (.slice fo' m.frames.length fc) m.frames) (hp : RFuns w B pv p)
    (hfit : Mz.checkFits p = 0) (i : Nat) (hi : i < m.frames.length) (hn : m.frames.length ≤ 6) (hf : FnsIn p m) (hnb : m.blocks.length ≤ 8) :
    Calls Tryz.prog 180 #[.pointer (some ⟨cb, 0, none⟩), .int .i64 i] w fun e w' => e = .returned (.int .i64 (Mz.checkFrame p m i)) ∧ Below w.heap.size w w' := by
  have WANT := Lib.hid (fun w1 (hb : Below w.heap.size w w1) => want_any w1 cb B _ iv ov pv fo' fc p m (h.frame hb) (Nat.le_trans hB hb.size) (hfr.frame (hb.mono hB)) (hp.frame (hb.mono hB)) hfit i hi hn hf)
  have VALUE := Lib.hid (fun w1 (hb : Below w.heap.size w w1) => value_any w1 cb _ iv ov pv bo m.blocks.length bc m (h.frame hb) (by omega))
  obtain ⟨k, hk, hkl⟩ := hf.nat hi
  obtain ⟨b, o, lv, sv, rfl, hbB, q0, q1, q2, q3, rl, rs⟩ := hfr.at hi
  obtain ⟨lo, lc, rfl, l1, l2, l3⟩ := rl.open
  obtain ⟨so, sc, rfl, s1, s2, s3⟩ := rs.open
  unfold maxLen at l2 s2
  obtain ⟨po, pc', rfl, p1, p2, p3⟩ := hp.open
  unfold maxLen at p2
  obtain ⟨fb, fx, gl, gc, rfl, fB, f0, f1, f2, f3, rgl, rgc⟩ := hp.at hkl
  obtain ⟨glo, glc, rfl, gl1, gl2, gl3⟩ := rgl.open
  obtain ⟨gco, gcc, rfl, gc1, gc2, gc3⟩ := rgc.open
  unfold maxLen at gl2 gc2
  have hfc : m.frames.length ≤ fc := by
    obtain ⟨_, _, e, h1, _, _⟩ := hfr.open
    simp only [Value.slice.injEq] at e; omega
  obtain ⟨g1, c0, _, _, _, _, _, c6⟩ := h
  have g2 : b < w.heap.size := by omega
  have g3 : fb < w.heap.size := by omega
  rw [hk] at q0
  have RL := Lib.hid rl
  have RS := Lib.hid rs
  have RG := Lib.hid rgl
  have HTY : Hid (∀ j, j < (nth p k).locals.length → 1 ≤ nth (nth p k).locals j ∧ nth (nth p k).locals j ≤ 3) := by
    intro j hj
    have := ((Mz.checkProg_zero (Mz.checkFits_zero hfit).1).funs _ (nth_mem hkl)).locals _ (nth_mem hj)
    omega
  have HNL : Hid ((nth p k).locals.length ≤ 6) := ((Mz.checkProg_zero (Mz.checkFits_zero hfit).1).funs _ (nth_mem hkl)).nlocals
  have HE : Hid (Mz.checkFrame p m i = Mz.frameErr m.blocks.length (nth m.frames i) (nth p k).locals (Mz.wantOf p m i)) := by
    unfold Hid; rw [Mz.checkFrame_eq]
    have h1 : (m.frames[i]!).fn = (k : Int) := hk
    rw [h1]; rfl
  have HWT : Hid (∀ t, Mz.wantOf p m i = some t → t.length ≤ 8 ∧ ∀ j, j < t.length → 1 ≤ nth t j ∧ nth t j ≤ 3) := by
    intro t ht
    have hfn : 0 ≤ (m.frames[i]!).fn ∧ (m.frames[i]!).fn < p.length := by have h1 : (m.frames[i]!).fn = (k : Int) := hk; omega
    exact ⟨Mz.wantOf_len hfit hfn ht, fun j hj => Mz.wantOf_ty hfit hfn ht _ (nth_mem hj)⟩
  clear rl rs rgl rgc hf hfr hp hfit
  obtain ⟨x, hx⟩ : ∃ x, x = nth m.frames i := ⟨_, rfl⟩
  obtain ⟨f, hff⟩ : ∃ f, f = nth p k := ⟨_, rfl⟩
  rw [← hx, ← hff] at HE
  rw [← hff] at HTY HNL
  rw [← hx] at q1 q2 q3 RL RS l1 l3 s1 s3 hk
  rw [← hff] at f0 f1 f2 f3 RG gl1 gl3 gc1 gc3
  clear hx hff hk
  obtain ⟨L, hL⟩ : ∃ L, L = x.locals ++ x.stack := ⟨_, rfl⟩
  have HL := Lib.hid hL
  have hLl : L.length = x.locals.length + x.stack.length := by rw [hL, List.length_append]
  have hLb : L.length ≤ 17592186044416 := by omega
  clear hL hLl
  by_cases hll : x.locals.length = f.locals.length
  · have d1 : ((x.locals.length : Int) != (f.locals.length : Int)) = false := by rw [hll]; simp
    have HLL := Lib.hid hll
    clear hll
    go_enter Tryz.func180, Tryz.ntmps180
    go_wp2_with fail
    go_region_held3 (fun w' => w'.cell? ⟨cb, 6, none⟩ = some (.slice (some ⟨fb, fx, none⟩) p.length pc') ∧ w'.cell? ⟨w.heap.size, 0, none⟩ = some (.int .i64 k) ∧ w'.cell? ⟨fb, fx + k * 4, none⟩ = some (.int .i64 f.params) ∧ w'.cell? ⟨fb, fx + k * 4 + 1, none⟩ = some (.slice glo f.locals.length glc) ∧ w'.cell? ⟨fb, fx + k * 4 + 2, none⟩ = some (.int .i64 f.result) ∧ w'.cell? ⟨fb, fx + k * 4 + 3, none⟩ = some (.slice gco f.code.length gcc)) (go_keep) (fail)
    go_wp2_with fail
    have hB3 : Below w.heap.size w (((w.alloc (.cells #[.int .i64 k, .int .i64 x.pc, .slice lo x.locals.length lc, .slice so x.stack.length sc] 97)).alloc (.cells #[.int .i64 f.params, .slice glo f.locals.length glc, .int .i64 f.result, .slice gco f.code.length gcc] 110)).alloc (.cells #[.slice lo x.locals.length lc, .slice so x.stack.length sc] 95)).drew :=
      ((((Below.refl _ _).alloc (Nat.le_refl _) _).alloc (by simp) _).alloc (by simp; omega) _).drew
    refine (concat_any (w.heap.size + 1 + 1) B _ _ x.locals x.stack _ (by rw [cell_drew]; exact cell_at (by simp) rfl) (by rw [cell_drew]; exact cell_at (by simp) rfl) (by simp) (by simp; omega) (RL.out.frame (hB3.mono hB)) (RS.out.frame (hB3.mono hB)) (by have := HLL.out; have := HNL.out; omega)).mono ?_
    rintro e w4 ⟨r, rfl, hown, hb4⟩
    rw [← HL.out] at hown
    have hw4 : w.heap.size + 3 ≤ w4.heap.size := by have := hb4.size; simp at this; omega
    have z2 : Hid (w4.cell? ⟨w.heap.size, 2, none⟩ = some (.slice lo x.locals.length lc)) := by unfold Hid; rw [(bcell hb4).1 _ _ (by simp; omega), cell_drew, cell_old (by simp; omega), cell_old (by simp)]; exact cell_at rfl rfl
    have z3 : Hid (w4.cell? ⟨w.heap.size, 3, none⟩ = some (.slice so x.stack.length sc)) := by unfold Hid; rw [(bcell hb4).1 _ _ (by simp; omega), cell_drew, cell_old (by simp; omega), cell_old (by simp)]; exact cell_at rfl rfl
    have zf : Hid (w4.cell? ⟨w.heap.size + 1, 1, none⟩ = some (.slice glo f.locals.length glc)) := by unfold Hid; rw [(bcell hb4).1 _ _ (by simp), cell_drew, cell_old (by simp)]; exact cell_at (by simp) rfl
    have HB4 := Lib.hid (hB3.trans (hb4.mono (by simp; omega)))
    obtain ⟨ro, rc, rfl, r1, r2, r3⟩ := owns_vals hown
    unfold maxLen at r2
    have R3 := Lib.hid r3
    clear hB3 hb4 hown r3
    go_wp2_with fail
    go_loopw [47] (fun i wr => ∃ j : Nat, j ≤ L.length ∧ i = .int .i64 j ∧ AllTo (Mz.valOk m.blocks.length) L j ∧ Below w4.heap.size w4 wr) (fun i _ => L.length - (intOf i).toNat)
    case atStart => exact ⟨0, Nat.zero_le _, rfl, fun i hi => by omega, Below.refl _ _⟩
    case round =>
      obtain ⟨j, hj, rfl, hall, hbw⟩ := hrel
      have hsw := hbw.size
      have HBW := Lib.hid hbw
      by_cases hlt : j < L.length
      · obtain ⟨rb, rfl, hrb0, hrb, cr0, cr1⟩ := R3.out j hlt
        have v0 := ((bcell hbw).1 _ _ hrb).trans cr0
        have v1 := ((bcell hbw).1 _ _ hrb).trans cr1
        have hrb' : rb < wr.heap.size := by omega
        clear hbw cr0 cr1
        go_wp2_with fail
        refine (VALUE.out _ ((HB4.out.trans (HBW.out.mono (by omega))).alloc (by omega) _) (nth L j)).mono ?_
        rintro e w5 ⟨rfl, hb5⟩
        have HB5 := Lib.hid (via1 HBW.out hsw hb5)
        clear hb5
        cases hv : Mz.valOk m.blocks.length (nth L j) with
        | true =>
          have HV := Lib.hid hv
          have d2 : (valErr m.blocks.length (nth L j) != 0) = false := by unfold valErr; rw [hv]; rfl
          clear hv
          go_wp2_with fail
          go_roundw
          case rel => exact ⟨j + 1, by omega, by go_num, hall.succ HV.out, HB5.out⟩
          case measure => simp [intOf]; omega
        | false =>
          have HV := Lib.hid hv
          have d2 : (valErr m.blocks.length (nth L j) != 0) = true := by unfold valErr; rw [hv]; rfl
          have HR : Hid (valErr m.blocks.length (nth L j) = 3) := by unfold Hid valErr; rw [hv]; rfl
          clear hv
          go_wp2_with fail
          go_ret
          exact ⟨ret_int (by rw [HR.out, HE.out, Mz.frameErr_val HLL.out (by rw [← HL.out]; exact all_stop hlt HV.out)]), HB4.out.trans (HB5.out.mono (by omega))⟩
      · obtain rfl : j = L.length := by omega
        have HALL := Lib.hid (hall.end hlt)
        clear hall R3
        obtain ⟨w5, rfl⟩ : ∃ w5 : World, w5 = wr := ⟨_, rfl⟩
        have y2 := ((bcell hbw).1 _ _ (by omega)).trans z2.out
        have y3 := Lib.hid (((bcell hbw).1 _ _ (by omega)).trans z3.out)
        have yf := Lib.hid (((bcell hbw).1 _ _ (by omega)).trans zf.out)
        have HB5 := Lib.hid (HB4.out.trans (hbw.mono (by omega)))
        have g5 : w.heap.size + 3 ≤ w5.heap.size := by omega
        clear hbw HBW hsw hw4 z2 z3 zf HB4
        go_wp2_with fail
        have Y2 := Lib.hid y2
        clear y2
        go_loopw [61] (fun i wr => ∃ j : Nat, j ≤ x.locals.length ∧ i = .int .i64 j ∧ AsTo x.locals f.locals j ∧ Below w5.heap.size w5 wr) (fun i _ => x.locals.length - (intOf i).toNat)
        case atStart => exact ⟨0, Nat.zero_le _, rfl, fun i hi => by omega, Below.refl _ _⟩
        case round =>
          obtain ⟨j, hj, rfl, hall, hbw⟩ := hrel
          have hsw := hbw.size
          have HBW := Lib.hid hbw
          have HBR := Lib.hid (HB5.out.trans (hbw.mono (by omega)))
          by_cases hlt : j < x.locals.length
          · have hltf : j < f.locals.length := by have := HLL.out; omega
            obtain ⟨vb, vo, rfl, hvB, cr0, cr1⟩ := (RL.out.frame (HBR.out.mono hB)).at hlt
            obtain ⟨tb, tx, rfl, htB, ct⟩ := (RG.out.frame (HBR.out.mono hB)).at hltf
            have hvs : vb < wr.heap.size := by omega
            have hts : tb < wr.heap.size := by omega
            have yf' := ((bcell hbw).1 _ _ (by omega)).trans yf.out
            have hty := HTY.out j hltf
            have hgs : w.heap.size + 1 < wr.heap.size := by omega
            have hlo : (0 : Int) ≤ (j : Int) := by omega
            have hlf : (j : Int) < (f.locals.length : Int) := by omega
            obtain ⟨v, hv⟩ : ∃ v, v = nth x.locals j := ⟨_, rfl⟩
            obtain ⟨t, ht⟩ : ∃ t, t = nth f.locals j := ⟨_, rfl⟩
            rw [← hv] at cr0 cr1
            rw [← ht] at ct hty
            have HVT := Lib.hid (And.intro hv ht)
            have HTT := Lib.hid hty
            have AS := Lib.hid (as_any v t (wr.alloc (.cells #[.bool v.ref, .int .i64 v.n] 103)).drew hty)
            have hb0 : Below wr.heap.size wr (wr.alloc (.cells #[.bool v.ref, .int .i64 v.n] 103)) := (Below.refl _ _).alloc (Nat.le_refl _) _
            have hc0 := (bcell hb0).1
            have Z0 : Hid ((wr.alloc (.cells #[.bool v.ref, .int .i64 v.n] 103)).cell? ⟨wr.heap.size, 0, none⟩ = some (.bool v.ref)) := by unfold Hid; exact cell_at rfl rfl
            have Z1 : Hid ((wr.alloc (.cells #[.bool v.ref, .int .i64 v.n] 103)).cell? ⟨wr.heap.size, 1, none⟩ = some (.int .i64 v.n)) := by unfold Hid; exact cell_at rfl rfl
            have ZF : Hid ((wr.alloc (.cells #[.bool v.ref, .int .i64 v.n] 103)).cell? ⟨w.heap.size + 1, 1, none⟩ = some (.slice (some ⟨tb, tx, none⟩) f.locals.length glc)) := (hc0 _ _ (by omega)).trans yf'
            have ZT : Hid ((wr.alloc (.cells #[.bool v.ref, .int .i64 v.n] 103)).cell? ⟨tb, tx + j, none⟩ = some (.int .i64 t)) := (hc0 _ _ (by omega)).trans ct
            have HB0 := Lib.hid hb0
            clear hbw hv ht hty hb0 hc0
            go_wp2_with fail
            go_region_held3 (fun w' => w'.cell? ⟨wr.heap.size, 0, none⟩ = some (.bool v.ref) ∧ w'.cell? ⟨wr.heap.size, 1, none⟩ = some (.int .i64 v.n) ∧ w'.cell? ⟨w.heap.size + 1, 1, none⟩ = some (.slice (some ⟨tb, tx, none⟩) f.locals.length glc) ∧ w'.cell? ⟨tb, tx + j, none⟩ = some (.int .i64 t)) (first | go_keep | exact kk) (first | (go_at_call 215; refine AS.out.mono ?_; rintro e w6 ⟨rfl, hb6⟩; have hcc := (bcell hb6).1; have kk : w6.cell? ⟨wr.heap.size, 0, none⟩ = some (.bool v.ref) ∧ w6.cell? ⟨wr.heap.size, 1, none⟩ = some (.int .i64 v.n) ∧ w6.cell? ⟨w.heap.size + 1, 1, none⟩ = some (.slice (some ⟨tb, tx, none⟩) f.locals.length glc) ∧ w6.cell? ⟨tb, tx + j, none⟩ = some (.int .i64 t) := ⟨(hcc _ _ (by simp)).trans Z0.out, (hcc _ _ (by simp)).trans Z1.out, (hcc _ _ (by simp; omega)).trans ZF.out, (hcc _ _ (by simp; omega)).trans ZT.out⟩))
            have HB6 := Lib.hid (HBW.out.trans (((HB0.out.drew).trans (hb6.mono (by simp))).mono hsw))
            clear hcc hb6 kk
            cases hx : Mz.asT v t with
            | true =>
              have HX := Lib.hid hx
              clear hx
              go_wp2_with fail
              go_roundw
              case rel => exact ⟨j + 1, by omega, by go_num, hall.succ (by rw [← HVT.out.1, ← HVT.out.2]; exact HX.out), HB6.out⟩
              case measure => simp [intOf]; omega
            | false =>
              have HX := Lib.hid hx
              clear hx
              go_wp2_with fail
              go_ret
              exact ⟨ret_int (by rw [HE.out, Mz.frameErr_as HLL.out (by rw [← HL.out]; exact HALL.out) (Mz.asAll_stop HLL.out hltf (by have h1 := HX.out; rw [HVT.out.1, HVT.out.2] at h1; exact h1))]), HB5.out.trans (HB6.out.mono (by omega))⟩
          · obtain rfl : j = x.locals.length := by omega
            have HAS := Lib.hid (hall.end HLL.out (by have := HLL.out; omega))
            have y3' := Lib.hid (((bcell hbw).1 _ _ (by omega)).trans y3.out)
            obtain ⟨w6, rfl⟩ : ∃ w6 : World, w6 = wr := ⟨_, rfl⟩
            have g6 : w.heap.size + 3 ≤ w6.heap.size := by omega
            have HEQ : Hid (Mz.checkFrame p m i = Mz.checkStack (Mz.wantOf p m i) x.stack) := by
              unfold Hid; rw [HE.out]; exact Mz.frameErr_want HLL.out (by rw [← HL.out]; exact HALL.out) HAS.out
            clear hbw HBW hall HE HALL HAS HTY y3 yf Y2 HB5 RG
            go_wp2_with fail
            refine (WANT.out _ HBR.out).mono ?_
            rintro e w7 ⟨⟨r, rfl, hr⟩, hb7⟩
            have HB7 := Lib.hid (HBR.out.trans (hb7.mono (by omega)))
            have y7 := ((bcell hb7).1 _ _ (by omega)).trans y3'.out
            have g7 : w.heap.size + 3 ≤ w7.heap.size := by have := hb7.size; omega
            clear hb7 y3' HBR
            cases hw : Mz.wantOf p m i with
            | none =>
              have HW := Lib.hid hw
              have hs : (Mz.wantOf p m i).isSome = false := by rw [hw]; rfl
              clear hw hr y7
              go_wp2_with fail
              go_ret
              exact ⟨ret_int (by rw [HEQ.out, HW.out]; rfl), HB7.out⟩
            | some t =>
              have HW := Lib.hid hw
              have hs : (Mz.wantOf p m i).isSome = true := by rw [hw]; rfl
              have HT := Lib.hid (HWT.out t hw)
              rw [hw] at hr
              simp only [Option.getD_some] at hr
              obtain ⟨to', tc, rfl, t1, t2, t3⟩ := hr.open
              unfold maxLen at t2
              have HR := Lib.hid hr
              clear hw hr
              by_cases hsl : t.length = x.stack.length
              · have d3 : ((t.length : Int) != (x.stack.length : Int)) = false := by rw [hsl]; simp
                have HSL := Lib.hid hsl
                have hsl1 : t.length ≤ x.stack.length := by omega
                have hsl2 : x.stack.length ≤ t.length := by omega
                clear hsl
                go_wp2_with fail
                go_loopw [92] (fun i wr => ∃ j : Nat, j ≤ x.stack.length ∧ i = .int .i64 j ∧ AsTo x.stack t j ∧ Below w7.heap.size w7 wr) (fun i _ => x.stack.length - (intOf i).toNat)
                case atStart => exact ⟨0, Nat.zero_le _, rfl, fun i hi => by omega, Below.refl _ _⟩
                case round =>
                  obtain ⟨j, hj, rfl, hall, hbw⟩ := hrel
                  have hsw := hbw.size
                  have HBW := Lib.hid hbw
                  have HBR := Lib.hid (HB7.out.trans (hbw.mono (by omega)))
                  by_cases hlt : j < x.stack.length
                  · have hltf : j < t.length := by omega
                    obtain ⟨vb, vo, rfl, hvB, cr0, cr1⟩ := (RS.out.frame (HBR.out.mono hB)).at hlt
                    obtain ⟨tb, tx, rfl, htB, ct⟩ := (HR.out.frame hbw).at hltf
                    have hvs : vb < wr.heap.size := by omega
                    have hts : tb < wr.heap.size := by omega
                    have hty := HT.out.2 j hltf
                    have hlo : (0 : Int) ≤ (j : Int) := by omega
                    have hlf : (j : Int) < (t.length : Int) := by omega
                    obtain ⟨v, hv⟩ : ∃ v, v = nth x.stack j := ⟨_, rfl⟩
                    obtain ⟨ty, ht⟩ : ∃ ty, ty = nth t j := ⟨_, rfl⟩
                    rw [← hv] at cr0 cr1
                    rw [← ht] at ct hty
                    have HVT := Lib.hid (And.intro hv ht)
                    have AS := Lib.hid (as_any v ty (wr.alloc (.cells #[.bool v.ref, .int .i64 v.n] 103)).drew hty)
                    have hb0 : Below wr.heap.size wr (wr.alloc (.cells #[.bool v.ref, .int .i64 v.n] 103)) := (Below.refl _ _).alloc (Nat.le_refl _) _
                    have hc0 := (bcell hb0).1
                    have Z0 : Hid ((wr.alloc (.cells #[.bool v.ref, .int .i64 v.n] 103)).cell? ⟨wr.heap.size, 0, none⟩ = some (.bool v.ref)) := by unfold Hid; exact cell_at rfl rfl
                    have Z1 : Hid ((wr.alloc (.cells #[.bool v.ref, .int .i64 v.n] 103)).cell? ⟨wr.heap.size, 1, none⟩ = some (.int .i64 v.n)) := by unfold Hid; exact cell_at rfl rfl
                    have ZT : Hid ((wr.alloc (.cells #[.bool v.ref, .int .i64 v.n] 103)).cell? ⟨tb, tx + j, none⟩ = some (.int .i64 ty)) := (hc0 _ _ (by omega)).trans ct
                    have HB0 := Lib.hid hb0
                    clear hbw hv ht hty hb0 hc0
                    go_wp2_with fail
                    go_region_held3 (fun w' => w'.cell? ⟨wr.heap.size, 0, none⟩ = some (.bool v.ref) ∧ w'.cell? ⟨wr.heap.size, 1, none⟩ = some (.int .i64 v.n) ∧ w'.cell? ⟨tb, tx + j, none⟩ = some (.int .i64 ty)) (first | go_keep | exact kk) (first | (go_at_call 215; refine AS.out.mono ?_; rintro e w8 ⟨rfl, hb8⟩; have hcc := (bcell hb8).1; have kk : w8.cell? ⟨wr.heap.size, 0, none⟩ = some (.bool v.ref) ∧ w8.cell? ⟨wr.heap.size, 1, none⟩ = some (.int .i64 v.n) ∧ w8.cell? ⟨tb, tx + j, none⟩ = some (.int .i64 ty) := ⟨(hcc _ _ (by simp)).trans Z0.out, (hcc _ _ (by simp)).trans Z1.out, (hcc _ _ (by simp; omega)).trans ZT.out⟩))
                    have HB8 := Lib.hid (HBW.out.trans (((HB0.out.drew).trans (hb8.mono (by simp))).mono hsw))
                    clear hcc hb8 kk
                    cases hx : Mz.asT v ty with
                    | true =>
                      have HX := Lib.hid hx
                      clear hx
                      go_wp2_with fail
                      go_roundw
                      case rel => exact ⟨j + 1, by omega, by go_num, hall.succ (by rw [← HVT.out.1, ← HVT.out.2]; exact HX.out), HB8.out⟩
                      case measure => simp [intOf]; omega
                    | false =>
                      have HX := Lib.hid hx
                      clear hx
                      go_wp2_with fail
                      go_ret
                      refine ⟨ret_int ?_, HB7.out.trans (HB8.out.mono (by omega))⟩
                      rw [HEQ.out, HW.out]; unfold Mz.checkStack; simp only
                      rw [if_neg (by have := HSL.out; omega), if_pos (Mz.asAll_stop HSL.out.symm hltf (by have h1 := HX.out; rw [HVT.out.1, HVT.out.2] at h1; exact h1))]
                  · obtain rfl : j = x.stack.length := by omega
                    have HAS := Lib.hid (hall.end HSL.out.symm (by omega))
                    clear hbw hall
                    go_wp2_with fail
                    go_ret
                    refine ⟨ret_int ?_, HBR.out⟩
                    rw [HEQ.out, HW.out]; unfold Mz.checkStack; simp only
                    rw [if_neg (by have := HSL.out; omega), if_neg (by rw [HAS.out]; decide)]
              · have d3 : ((t.length : Int) != (x.stack.length : Int)) = true := by simpa [Int.natCast_inj] using hsl
                have HSL := Lib.hid hsl
                clear hsl
                go_wp2_with fail
                go_ret
                refine ⟨ret_int ?_, HB7.out⟩
                rw [HEQ.out, HW.out]; unfold Mz.checkStack; simp only
                rw [if_pos HSL.out]
  · have d1 : ((x.locals.length : Int) != (f.locals.length : Int)) = true := by simpa [Int.natCast_inj] using hll
    have HLL := Lib.hid hll
    clear hll
    go_enter Tryz.func180, Tryz.ntmps180
    go_wp2_with fail
    go_region_held3 (fun w' => w'.cell? ⟨cb, 6, none⟩ = some (.slice (some ⟨fb, fx, none⟩) p.length pc') ∧ w'.cell? ⟨w.heap.size, 0, none⟩ = some (.int .i64 k) ∧ w'.cell? ⟨fb, fx + k * 4, none⟩ = some (.int .i64 f.params) ∧ w'.cell? ⟨fb, fx + k * 4 + 1, none⟩ = some (.slice glo f.locals.length glc) ∧ w'.cell? ⟨fb, fx + k * 4 + 2, none⟩ = some (.int .i64 f.result) ∧ w'.cell? ⟨fb, fx + k * 4 + 3, none⟩ = some (.slice gco f.code.length gcc)) (go_keep) (fail)
    go_wp2_with fail
    go_ret
    exact ⟨ret_int (by rw [HE.out, Mz.frameErr_len HLL.out]), (((Below.refl _ _).alloc (Nat.le_refl _) _).alloc (by simp) _).drew⟩
end Go.Proofs.YthdomhejkbpabaaGreat

/- The checker's look at all frames. -/
namespace Go.Proofs.YthdomhejkbpabaaGreat
open Go.RowKit

theorem nth_range {n i : Nat} (h : i < n) : nth (List.range n) i = i := Mz.range_get h
theorem firstErr_range {f : Nat → Int} {n j : Nat} (hj : j < n) (hall : ∀ i, i < j → f i = 0) (h : f j ≠ 0) : Mz.firstErr f (List.range n) = f j := by
  have := firstErr_at (f := f) (l := List.range n) (k := j) (by simpa using hj) (fun i hi => by rw [nth_range (by omega)]; exact hall i hi) (by rw [nth_range hj]; exact h)
  rw [nth_range hj] at this; exact this
theorem firstErr_range0 {f : Nat → Int} {n : Nat} (hall : ∀ i, i < n → f i = 0) : Mz.firstErr f (List.range n) = 0 :=
  firstErr_none fun i hi => by rw [List.length_range] at hi; rw [nth_range hi]; exact hall i hi

set_option maxHeartbeats 2000000 in
set_option maxRecDepth 100000 in
theorem frames_any (w : World) (cb B : Nat) (iv ov pv : Value) (fo' bo : Option Addr) (fc bc : Nat) (p : List Mz.Fun) (m : Mz.Mach) (h : Chk w cb (.slice fo' m.frames.length fc) (.slice bo m.blocks.length bc) iv ov pv m) (hB : B ≤ w.heap.size) (hfr : RFrms w B (.slice fo' m.frames.length fc) m.frames) (hp : RFuns w B pv p)
    (hfit : Mz.checkFits p = 0) (hnb : m.blocks.length ≤ 8) :
    Calls Tryz.prog 142 #[.pointer (some ⟨cb, 0, none⟩)] w fun e w' => e = .returned (.int .i64 (Mz.framesErr p m)) ∧ Below w.heap.size w w' := by
  have HCH := Lib.hid h
  have HFR := Lib.hid hfr
  have HP := Lib.hid hp
  have HFIT := Lib.hid hfit
  obtain ⟨_, _, he, h1, h2, h3⟩ := hfr.open
  simp only [Value.slice.injEq] at he
  obtain ⟨rfl, _, rfl⟩ := he
  unfold maxLen at h2
  obtain ⟨po, pc', rfl, p1, p2, p3⟩ := hp.open
  unfold maxLen at p2
  obtain ⟨g1, c0, _, _, _, c4, _, c6⟩ := h
  clear hfr hp hfit
  by_cases h6 : 6 < m.frames.length
  · have HE := Lib.hid (Mz.framesErr_many (p := p) h6)
    go_enter Tryz.func142, Tryz.ntmps142
    go_wp2_with fail
    go_ret
    exact ⟨ret_int (by rw [HE.out]), Below.refl _ _⟩
  have d6 : decide ((6 : Int) < (m.frames.length : Int)) = false := by rw [decide_eq_false_iff_not]; omega
  by_cases hn : m.frames.length = 0
  · by_cases hs : m.status = 2
    · have HE : Hid (Mz.framesErr p m = 0) := by unfold Hid; rw [Mz.framesErr_none hn, if_pos hs]
      have dn : ((m.frames.length : Int) == 0) = true := by rw [beq_iff_eq]; omega
      have dp : decide ((0 : Int) < (m.frames.length : Int)) = false := by rw [decide_eq_false_iff_not]; omega
      have dl : decide (0 < m.frames.length) = false := by rw [decide_eq_false_iff_not]; omega
      have ds : (m.status != 2) = false := by simpa using hs
      clear hn hs
      go_enter Tryz.func142, Tryz.ntmps142
      go_wp2_with fail
      go_loopw [46] (fun i wr => i = .int .i64 0 ∧ wr = w) (fun i _ => 0)
      case atStart => exact ⟨rfl, rfl⟩
      case round =>
        obtain ⟨rfl, rfl⟩ := hrel
        go_wp2_with fail
        go_loopw [68] (fun i wx => i = .int .i64 0 ∧ wx = wr) (fun i _ => 0)
        case atStart => exact ⟨rfl, rfl⟩
        case round =>
          obtain ⟨rfl, rfl⟩ := hrel
          go_wp2_with fail
          go_ret
          exact ⟨ret_int (by rw [HE.out]), Below.refl _ _⟩
    · have HE : Hid (Mz.framesErr p m = 5) := by unfold Hid; rw [Mz.framesErr_none hn, if_neg hs]
      have ds : (m.status != 2) = true := by simpa using hs
      have dn : ((m.frames.length : Int) == 0) = true := by rw [beq_iff_eq]; omega
      clear hn hs
      go_enter Tryz.func142, Tryz.ntmps142
      go_wp2_with fail
      go_ret
      exact ⟨ret_int (by rw [HE.out]), Below.refl _ _⟩
  have dn : ((m.frames.length : Int) == 0) = false := by rw [beq_eq_false_iff_ne]; omega
  have dp : decide ((0 : Int) < (m.frames.length : Int)) = true := by rw [decide_eq_true_iff]; omega
  by_cases hs : m.status = 2
  · have HE := Lib.hid (Mz.framesErr_done (p := p) (m := m) (by omega) (by omega) hs)
    have ds : (m.status == 2) = true := by simpa using hs
    clear hs
    go_enter Tryz.func142, Tryz.ntmps142
    go_wp2_with fail
    go_ret
    exact ⟨ret_int (by rw [HE.out]), Below.refl _ _⟩
  have ds : (m.status == 2) = false := by simpa using hs
  have HS := Lib.hid hs
  clear hs
  have eP : IntKind.i64.wrap ((p.length : Int) - 1) = p.length - 1 := IntWalk.i64_in _ (by omega)
  go_enter Tryz.func142, Tryz.ntmps142
  go_wp2_with fail
  go_loopw [46] (fun i wr => ∃ j : Nat, j ≤ m.frames.length ∧ i = .int .i64 j ∧ AllTo (Mz.fnIn p) m.frames j ∧ Below w.heap.size w wr) (fun i _ => m.frames.length - (intOf i).toNat)
  case atStart => exact ⟨0, Nat.zero_le _, rfl, fun i hi => by omega, Below.refl _ _⟩
  case round =>
    obtain ⟨j, hj, rfl, hall, hbw⟩ := hrel
    have hsw := hbw.size
    have HBW := Lib.hid hbw
    have c0' := ((bcell hbw).1 _ _ g1).trans c0
    have c6' := ((bcell hbw).1 _ _ g1).trans c6
    have g1' : cb < wr.heap.size := by omega
    by_cases hlt : j < m.frames.length
    · obtain ⟨b, o, lv, sv, rfl, hbB, q0, q1, q2, q3, rl, rs⟩ := (HFR.out.frame (hbw.mono hB)).at hlt
      obtain ⟨lo, lc, rfl, _, _, _⟩ := rl.open
      obtain ⟨so, sc, rfl, _, _, _⟩ := rs.open
      have hbs : b < wr.heap.size := by omega
      clear hbw rl rs c0
      go_wp2_with fail
      go_quiet ((go_at_call 139; exact Calls.quiet_of_same ((mwithin_any _ _ _ _).mono fun _ _ ⟨h, h'⟩ => ⟨h, h'.symm⟩)))
      have HB5 := Lib.hid (HBW.out.trans (((Below.refl _ _).alloc (Nat.le_refl _) (.cells #[.int .i64 (nth m.frames j).fn, .int .i64 (nth m.frames j).pc, .slice lo (nth m.frames j).locals.length lc, .slice so (nth m.frames j).stack.length sc] 97)).mono hsw |>.trans (below_drewN _ _ nq)))
      cases hx : Mz.btw (nth m.frames j).fn 0 ((p.length : Int) - 1) with
      | true =>
        have HX : Hid (Mz.fnIn p (nth m.frames j) = true) := hx
        go_wp2_with fail
        go_roundw
        case rel => exact ⟨j + 1, by omega, by go_num, hall.succ HX.out, HB5.out⟩
        case measure => simp [intOf]; omega
      | false =>
        have HX : Hid (Mz.fnIn p (nth m.frames j) = false) := hx
        go_wp2_with fail
        go_ret
        exact ⟨ret_int (by rw [Mz.framesErr_fn (by omega) (by omega) HS.out (all_stop hlt HX.out)]), HB5.out⟩
    · obtain rfl : j = m.frames.length := by omega
      have HF := Lib.hid (hall.end hlt)
      have HFN : Hid (FnsIn p m) := by
        intro j hj
        have := Mz.all_btw (p := p) (l := m.frames) HF.out j hj
        exact this
      clear hall c0 c6
      obtain ⟨w5, rfl⟩ : ∃ w5 : World, w5 = wr := ⟨_, rfl⟩
      go_wp2_with fail
      go_loopw [68] (fun i wr => ∃ j : Nat, j ≤ m.frames.length ∧ i = .int .i64 j ∧ Hid (∀ i, i < j → Mz.checkFrame p m i = 0) ∧ Hid (0 < j → (nth m.frames 0).fn = 0) ∧ Below w.heap.size w wr) (fun i _ => m.frames.length - (intOf i).toNat)
      case atStart => exact ⟨0, Nat.zero_le _, rfl, fun i hi => by omega, fun h => by omega, HBW.out⟩
      case round =>
        obtain ⟨j, hj, rfl, hall, h0, hbw⟩ := hrel
        have hsw := hbw.size
        have HBW := Lib.hid hbw
        by_cases hlt : j < m.frames.length
        · obtain ⟨b, o, lv, sv, rfl, hbB, q0, q1, q2, q3, rl, rs⟩ := (HFR.out.frame (hbw.mono hB)).at hlt
          have hbs : b < wr.heap.size := by omega
          obtain ⟨lo, lc, rfl, _, _, _⟩ := rl.open
          obtain ⟨so, sc, rfl, _, _, _⟩ := rs.open
          clear hbw rl rs
          have HB0 := Lib.hid ((HBW.out.alloc (by omega) (.cells #[.int .i64 (nth m.frames j).fn, .int .i64 (nth m.frames j).pc, .slice lo (nth m.frames j).locals.length lc, .slice so (nth m.frames j).stack.length sc] 97)))
          by_cases hz : j = 0 ∧ (nth m.frames j).fn ≠ 0
          · have dj : ((j : Int) == 0) = true := by rw [beq_iff_eq]; omega
            have df : ((nth m.frames j).fn != 0) = true := by simpa using hz.2
            have HZ : Hid ((nth m.frames 0).fn ≠ 0) := by rw [← hz.1]; exact hz.2
            clear hz
            go_wp2_with fail
            go_ret
            exact ⟨ret_int (by rw [Mz.framesErr_first (by omega) (by omega) HS.out HF.out HZ.out]), HB0.out⟩
          · have HZ0 : Hid ((nth m.frames 0).fn = 0) := by
              by_cases c : j = 0
              · by_cases c2 : (nth m.frames j).fn = 0
                · rw [c] at c2; exact c2
                · exact absurd ⟨c, c2⟩ hz
              · exact h0.out (by omega)
            have FRAME := Lib.hid (frame_any (wr.alloc (.cells #[.int .i64 (nth m.frames j).fn, .int .i64 (nth m.frames j).pc, .slice lo (nth m.frames j).locals.length lc, .slice so (nth m.frames j).stack.length sc] 97)) cb B iv ov _ _ bo fc bc p m (HCH.out.frame HB0.out) (by simp; omega) (HFR.out.frame (HB0.out.mono hB)) (HP.out.frame (HB0.out.mono hB)) HFIT.out j hlt (by omega) HFN.out hnb)
            have hjz : (((j : Int) == 0) = true ∧ ((nth m.frames j).fn != 0) = false) ∨ ((j : Int) == 0) = false := by
              by_cases c : j = 0
              · left; refine ⟨by rw [beq_iff_eq]; omega, ?_⟩
                by_cases c2 : (nth m.frames j).fn = 0
                · simpa using c2
                · exact absurd ⟨c, c2⟩ hz
              · right; rw [beq_eq_false_iff_ne]; omega
            clear hz
            rcases hjz with ⟨dj, df⟩ | dj
            all_goals
              go_wp2_with fail
              refine FRAME.out.mono ?_
              rintro e w7 ⟨rfl, hb7⟩
              have HB7 := Lib.hid (HB0.out.trans (hb7.mono (by simp; omega)))
              clear hb7 FRAME
              by_cases hx : Mz.checkFrame p m j = 0
              · have dx : (Mz.checkFrame p m j != 0) = false := by simpa using hx
                have HX := Lib.hid hx
                clear hx
                go_wp2_with fail
                go_roundw
                case rel => exact ⟨j + 1, by omega, by go_num, fun i hi => by
                  by_cases c : i = j
                  · rw [c]; exact HX.out
                  · exact hall.out i (by omega), fun _ => HZ0.out, HB7.out⟩
                case measure => simp [intOf]; omega
              · have dx : (Mz.checkFrame p m j != 0) = true := by simpa using hx
                have HX := Lib.hid hx
                clear hx
                go_wp2_with fail
                go_ret
                exact ⟨ret_int (by rw [Mz.framesErr_each (by omega) (by omega) HS.out HF.out HZ0.out, firstErr_range hlt hall.out HX.out]), HB7.out⟩
        · obtain rfl : j = m.frames.length := by omega
          clear hbw
          go_wp2_with fail
          go_ret
          refine ⟨ret_int ?_, HBW.out⟩
          rw [Mz.framesErr_each (by omega) (by omega) HS.out HF.out (h0.out (by omega)), firstErr_range0 hall.out]
end Go.Proofs.YthdomhejkbpabaaGreat
