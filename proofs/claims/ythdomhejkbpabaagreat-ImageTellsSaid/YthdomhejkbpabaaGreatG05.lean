/- Lemmas: Mem, Leaf, Ops, Push. -/
import Derived.Test.YthdomhejkbpabaaGreatProg
import Derived.Test.YthdomhejkbpabaaGreatG02
import Derived.WalkKit
import Derived.WalkSpells
import Derived.WalkLawsBesides
import Derived.Lib.Hide
import Derived.Lib.SliceRun
set_option linter.unusedVariables false
set_option linter.unusedSimpArgs false
/- How lists and records lie in memory: readings of slices of numbers, ops, values, functions, frames; they stay while memory below them stays. -/
namespace Go.Proofs.YthdomhejkbpabaaGreat
open Go.RowKit

/-- a slice value of n elements of sz cells each; cs: its cells; they lie in a block below B -/
def Sl (w : World) (B : Nat) (v : Value) (n sz : Nat) (cs : List Value) : Prop :=
  ∃ ao c, v = .slice ao n c ∧ cs.length = n * sz ∧ n ≤ c ∧ c ≤ maxLen ∧ n * (8 * sz) ≤ 140737488351232 ∧ (ao = none → n = 0 ∧ c = 0) ∧
    (0 < n → ∃ b o, ao = some ⟨b, o, none⟩ ∧ b < B ∧ ∀ (j : Nat) u, cs[j]? = some u → w.cell? ⟨b, o + j, none⟩ = some u)

theorem Sl.frame {w w' : World} {B n sz : Nat} {v : Value} {cs : List Value} (h : Sl w B v n sz cs) (hb : Below B w w') : Sl w' B v n sz cs := by
  obtain ⟨ao, c, h1, h2, h3, h4, h5, h6, h7⟩ := h
  refine ⟨ao, c, h1, h2, h3, h4, h5, h6, fun hn => ?_⟩
  obtain ⟨b, o, e, hlt, hc⟩ := h7 hn
  exact ⟨b, o, e, hlt, fun j u hu => by rw [hb.cell (p := ⟨b, o + j, none⟩) hlt]; exact hc j u hu⟩
theorem Sl.mono {w : World} {B B' n sz : Nat} {v : Value} {cs : List Value} (h : Sl w B v n sz cs) (hB : B ≤ B') : Sl w B' v n sz cs := by
  obtain ⟨ao, c, h1, h2, h3, h4, h5, h6, h7⟩ := h
  refine ⟨ao, c, h1, h2, h3, h4, h5, h6, fun hn => ?_⟩
  obtain ⟨b, o, e, hlt, hc⟩ := h7 hn
  exact ⟨b, o, e, by omega, hc⟩
theorem Sl.nil (w : World) (B sz : Nat) : Sl w B (.slice none 0 0) 0 sz [] :=
  ⟨none, 0, rfl, by simp, Nat.le_refl _, Nat.zero_le _, by simp, fun _ => ⟨rfl, rfl⟩, fun h => by omega⟩
/-- one element of it -/
theorem Sl.at {w : World} {B n sz c : Nat} {ao : Option Addr} {cs : List Value} (h : Sl w B (.slice ao n c) n sz cs) {i : Nat} (hi : i < n) :
    ∃ b o, ao = some ⟨b, o, none⟩ ∧ b < B ∧ ∀ (j : Nat) u, cs[j]? = some u → w.cell? ⟨b, o + j, none⟩ = some u := by
  obtain ⟨ao', c', e, _, _, _, _, _, h7⟩ := h
  simp only [Value.slice.injEq] at e
  obtain ⟨rfl, _, rfl⟩ := e
  exact h7 (by omega)
theorem Sl.len {w : World} {B n sz : Nat} {v : Value} {cs : List Value} (h : Sl w B v n sz cs) : n ≤ 17592186043904 ∨ sz = 0 := by
  obtain ⟨_, _, _, _, _, _, h5, _, _⟩ := h
  rcases Nat.eq_zero_or_pos sz with h0 | h0
  · exact .inr h0
  · left
    have : n * 8 ≤ n * (8 * sz) := Nat.mul_le_mul_left _ (by omega)
    omega
/-- what the call itself owns it can read -/
theorem Sl.of_owns {w : World} {base e size n : Nat} {v : Value} {xs : List Value} (h : w.ownsRow base e size v n xs) (hn : n * (8 * size) ≤ 140737488351232) : Sl w w.heap.size v n size xs := by
  obtain ⟨hl, hr⟩ := h
  rcases hr with ⟨rfl, rfl⟩ | ⟨g, cap, cur, rfl, hb, hg, h1, h2, h3, h4⟩
  · have : xs = [] := List.eq_nil_of_length_eq_zero (by simpa using hl)
    subst this; exact Sl.nil w _ size
  · refine ⟨_, cap, rfl, hl, h1, h2, hn, by simp, fun _ => ⟨g, 0, rfl, (Array.getElem?_eq_some_iff.1 hg).1, fun j u hu => ?_⟩⟩
    rw [Nat.zero_add, cell_of_row w g j cur e (0, 0) hg]
    rw [← h4, List.getElem?_take] at hu
    split at hu
    · simpa using hu
    · cases hu

theorem flat_len {α : Type} {f : α → List Value} {sz : Nat} (hf : ∀ x, (f x).length = sz) (l : List α) : (l.flatMap f).length = l.length * sz := by
  induction l with
  | nil => simp
  | cons a l ih => simp only [List.flatMap_cons, List.length_append, hf, ih, List.length_cons, Nat.add_mul]; omega
theorem flat_get {α : Type} [Inhabited α] {f : α → List Value} {sz : Nat} (hf : ∀ x, (f x).length = sz) : ∀ (l : List α) (i j : Nat), i < l.length → j < sz → (l.flatMap f)[i * sz + j]? = (f l[i]!)[j]?
  | a :: l, 0, j, _, hj => by
    simp only [List.flatMap_cons, Nat.zero_mul, Nat.zero_add]
    rw [List.getElem?_append_left (by rw [hf]; exact hj)]; rfl
  | a :: l, i + 1, j, hi, hj => by
    simp only [List.flatMap_cons]
    rw [List.getElem?_append_right (by rw [hf, Nat.add_mul]; omega), hf]
    have : (i + 1) * sz + j - sz = i * sz + j := by rw [Nat.add_mul]; omega
    rw [this, flat_get hf l i j (by simpa using hi) hj]; rfl

def RInts (w : World) (B : Nat) (v : Value) (l : List Int) : Prop := Sl w B v l.length 1 (l.map (Value.int .i64))
def opCells (o : Mz.Op) : List Value := [.int .i64 o.code, .int .i64 o.a]
def ROps (w : World) (B : Nat) (v : Value) (l : List Mz.Op) : Prop := Sl w B v l.length 2 (l.flatMap opCells)
def valCells (x : Mz.Val) : List Value := [.bool x.ref, .int .i64 x.n]
def RVals (w : World) (B : Nat) (v : Value) (l : List Mz.Val) : Prop := Sl w B v l.length 2 (l.flatMap valCells)
/-- slices of slices of numbers -/
def RBlocks (w : World) (B : Nat) (v : Value) (l : List (List Int)) : Prop :=
  ∃ vs : List Value, vs.length = l.length ∧ Sl w B v l.length 1 vs ∧ ∀ i, i < l.length → RInts w B vs[i]! l[i]!
def funCells (x : Mz.Fun × Value × Value) : List Value := [.int .i64 x.1.params, x.2.1, .int .i64 x.1.result, x.2.2]
/-- slices of functions: two slices each -/
def RFuns (w : World) (B : Nat) (v : Value) (l : List Mz.Fun) : Prop :=
  ∃ ps : List (Mz.Fun × Value × Value), ps.map (·.1) = l ∧ Sl w B v l.length 4 (ps.flatMap funCells) ∧ ∀ x ∈ ps, RInts w B x.2.1 x.1.locals ∧ ROps w B x.2.2 x.1.code
def frmCells (x : Mz.Frm × Value × Value) : List Value := [.int .i64 x.1.fn, .int .i64 x.1.pc, x.2.1, x.2.2]
/-- slices of frames: two slices each -/
def RFrms (w : World) (B : Nat) (v : Value) (l : List Mz.Frm) : Prop :=
  ∃ ps : List (Mz.Frm × Value × Value), ps.map (·.1) = l ∧ Sl w B v l.length 4 (ps.flatMap frmCells) ∧ ∀ x ∈ ps, RVals w B x.2.1 x.1.locals ∧ RVals w B x.2.2 x.1.stack
def RProg (w : World) (B : Nat) (v : Value) (p : List Mz.Fun) : Prop := ∃ fv, v = .agg #[fv] ∧ RFuns w B fv p
def RMach (w : World) (B : Nat) (v : Value) (m : Mz.Mach) : Prop :=
  ∃ fv bv iv ov, v = .agg #[fv, bv, iv, ov, .int .i64 m.status, .int .i64 m.trap] ∧ RFrms w B fv m.frames ∧ RBlocks w B bv m.blocks ∧ RInts w B iv m.inp ∧ RInts w B ov m.out

theorem RInts.frame {w w' : World} {B : Nat} {v : Value} {l : List Int} (h : RInts w B v l) (hb : Below B w w') : RInts w' B v l := Sl.frame h hb
theorem ROps.frame {w w' : World} {B : Nat} {v : Value} {l : List Mz.Op} (h : ROps w B v l) (hb : Below B w w') : ROps w' B v l := Sl.frame h hb
theorem RVals.frame {w w' : World} {B : Nat} {v : Value} {l : List Mz.Val} (h : RVals w B v l) (hb : Below B w w') : RVals w' B v l := Sl.frame h hb
theorem RBlocks.frame {w w' : World} {B : Nat} {v : Value} {l : List (List Int)} (h : RBlocks w B v l) (hb : Below B w w') : RBlocks w' B v l :=
  let ⟨vs, h1, h2, h3⟩ := h; ⟨vs, h1, h2.frame hb, fun i hi => (h3 i hi).frame hb⟩
theorem RFuns.frame {w w' : World} {B : Nat} {v : Value} {l : List Mz.Fun} (h : RFuns w B v l) (hb : Below B w w') : RFuns w' B v l :=
  let ⟨ps, h1, h2, h3⟩ := h; ⟨ps, h1, h2.frame hb, fun x hx => ⟨(h3 x hx).1.frame hb, (h3 x hx).2.frame hb⟩⟩
theorem RFrms.frame {w w' : World} {B : Nat} {v : Value} {l : List Mz.Frm} (h : RFrms w B v l) (hb : Below B w w') : RFrms w' B v l :=
  let ⟨ps, h1, h2, h3⟩ := h; ⟨ps, h1, h2.frame hb, fun x hx => ⟨(h3 x hx).1.frame hb, (h3 x hx).2.frame hb⟩⟩
theorem RProg.frame {w w' : World} {B : Nat} {v : Value} {p : List Mz.Fun} (h : RProg w B v p) (hb : Below B w w') : RProg w' B v p :=
  let ⟨fv, h1, h2⟩ := h; ⟨fv, h1, h2.frame hb⟩
theorem RMach.frame {w w' : World} {B : Nat} {v : Value} {m : Mz.Mach} (h : RMach w B v m) (hb : Below B w w') : RMach w' B v m :=
  let ⟨fv, bv, iv, ov, h0, h1, h2, h3, h4⟩ := h; ⟨fv, bv, iv, ov, h0, h1.frame hb, h2.frame hb, h3.frame hb, h4.frame hb⟩
theorem RInts.mono {w : World} {B B' : Nat} {v : Value} {l : List Int} (h : RInts w B v l) (hB : B ≤ B') : RInts w B' v l := Sl.mono h hB
theorem ROps.mono {w : World} {B B' : Nat} {v : Value} {l : List Mz.Op} (h : ROps w B v l) (hB : B ≤ B') : ROps w B' v l := Sl.mono h hB
theorem RVals.mono {w : World} {B B' : Nat} {v : Value} {l : List Mz.Val} (h : RVals w B v l) (hB : B ≤ B') : RVals w B' v l := Sl.mono h hB
theorem RBlocks.mono {w : World} {B B' : Nat} {v : Value} {l : List (List Int)} (h : RBlocks w B v l) (hB : B ≤ B') : RBlocks w B' v l :=
  let ⟨vs, h1, h2, h3⟩ := h; ⟨vs, h1, h2.mono hB, fun i hi => (h3 i hi).mono hB⟩
theorem RFuns.mono {w : World} {B B' : Nat} {v : Value} {l : List Mz.Fun} (h : RFuns w B v l) (hB : B ≤ B') : RFuns w B' v l :=
  let ⟨ps, h1, h2, h3⟩ := h; ⟨ps, h1, h2.mono hB, fun x hx => ⟨(h3 x hx).1.mono hB, (h3 x hx).2.mono hB⟩⟩
theorem RFrms.mono {w : World} {B B' : Nat} {v : Value} {l : List Mz.Frm} (h : RFrms w B v l) (hB : B ≤ B') : RFrms w B' v l :=
  let ⟨ps, h1, h2, h3⟩ := h; ⟨ps, h1, h2.mono hB, fun x hx => ⟨(h3 x hx).1.mono hB, (h3 x hx).2.mono hB⟩⟩
theorem RProg.mono {w : World} {B B' : Nat} {v : Value} {p : List Mz.Fun} (h : RProg w B v p) (hB : B ≤ B') : RProg w B' v p :=
  let ⟨fv, h1, h2⟩ := h; ⟨fv, h1, h2.mono hB⟩
theorem RMach.mono {w : World} {B B' : Nat} {v : Value} {m : Mz.Mach} (h : RMach w B v m) (hB : B ≤ B') : RMach w B' v m :=
  let ⟨fv, bv, iv, ov, h0, h1, h2, h3, h4⟩ := h; ⟨fv, bv, iv, ov, h0, h1.mono hB, h2.mono hB, h3.mono hB, h4.mono hB⟩

/-- the value of a list of numbers is a slice -/
theorem RInts.open {w : World} {B : Nat} {v : Value} {l : List Int} (h : RInts w B v l) : ∃ ao c, v = .slice ao l.length c ∧ l.length ≤ c ∧ c ≤ maxLen ∧ l.length * 8 ≤ 140737488351232 := by
  obtain ⟨ao, c, h1, _, h3, h4, h5, _⟩ := h; exact ⟨ao, c, h1, h3, h4, by simpa using h5⟩
theorem ROps.open {w : World} {B : Nat} {v : Value} {l : List Mz.Op} (h : ROps w B v l) : ∃ ao c, v = .slice ao l.length c ∧ l.length ≤ c ∧ c ≤ maxLen ∧ l.length * 16 ≤ 140737488351232 := by
  obtain ⟨ao, c, h1, _, h3, h4, h5, _⟩ := h; exact ⟨ao, c, h1, h3, h4, by simpa using h5⟩
theorem RVals.open {w : World} {B : Nat} {v : Value} {l : List Mz.Val} (h : RVals w B v l) : ∃ ao c, v = .slice ao l.length c ∧ l.length ≤ c ∧ c ≤ maxLen ∧ l.length * 16 ≤ 140737488351232 := by
  obtain ⟨ao, c, h1, _, h3, h4, h5, _⟩ := h; exact ⟨ao, c, h1, h3, h4, by simpa using h5⟩
theorem RBlocks.open {w : World} {B : Nat} {v : Value} {l : List (List Int)} (h : RBlocks w B v l) : ∃ ao c, v = .slice ao l.length c ∧ l.length ≤ c ∧ c ≤ maxLen ∧ l.length * 8 ≤ 140737488351232 := by
  obtain ⟨vs, _, ⟨ao, c, h1, _, h3, h4, h5, _⟩, _⟩ := h; exact ⟨ao, c, h1, h3, h4, by simpa using h5⟩
theorem RFuns.open {w : World} {B : Nat} {v : Value} {l : List Mz.Fun} (h : RFuns w B v l) : ∃ ao c, v = .slice ao l.length c ∧ l.length ≤ c ∧ c ≤ maxLen ∧ l.length * 32 ≤ 140737488351232 := by
  obtain ⟨ps, _, ⟨ao, c, h1, _, h3, h4, h5, _⟩, _⟩ := h; exact ⟨ao, c, h1, h3, h4, by simpa using h5⟩
theorem RFrms.open {w : World} {B : Nat} {v : Value} {l : List Mz.Frm} (h : RFrms w B v l) : ∃ ao c, v = .slice ao l.length c ∧ l.length ≤ c ∧ c ≤ maxLen ∧ l.length * 32 ≤ 140737488351232 := by
  obtain ⟨ps, _, ⟨ao, c, h1, _, h3, h4, h5, _⟩, _⟩ := h; exact ⟨ao, c, h1, h3, h4, by simpa using h5⟩

theorem getElem!_lt {α : Type} [Inhabited α] {l : List α} {i : Nat} (h : i < l.length) : l[i]? = some l[i]! := by
  rw [List.getElem!_eq_getElem?_getD, List.getElem?_eq_getElem h]; rfl

/-- element k of a list; simp does not look behind this name -/
def nth {α : Type} [Inhabited α] (l : List α) (k : Nat) : α := l[k]!
theorem nth_lt {α : Type} [Inhabited α] {l : List α} {k : Nat} (h : k < l.length) : nth l k = l[k] := by
  unfold nth; rw [List.getElem!_eq_getElem?_getD, List.getElem?_eq_getElem h]; rfl

/-- one element -/
theorem RInts.at {w : World} {B n c : Nat} {ao : Option Addr} {l : List Int} (h : RInts w B (.slice ao n c) l) {i : Nat} (hi : i < l.length) :
    ∃ b o, ao = some ⟨b, o, none⟩ ∧ b < B ∧ w.cell? ⟨b, o + i, none⟩ = some (.int .i64 (nth l i)) := by
  obtain ⟨ao', c', e, h7⟩ := h
  have e' := e
  simp only [Value.slice.injEq] at e
  obtain ⟨rfl, rfl, rfl⟩ := e
  obtain ⟨b, o, h1, h2, h3⟩ := Sl.at ⟨ao, c, rfl, h7⟩ hi
  exact ⟨b, o, h1, h2, h3 i _ (by rw [List.getElem?_map, getElem!_lt hi]; rfl)⟩
theorem ROps.at {w : World} {B n c : Nat} {ao : Option Addr} {l : List Mz.Op} (h : ROps w B (.slice ao n c) l) {i : Nat} (hi : i < l.length) :
    ∃ b o, ao = some ⟨b, o, none⟩ ∧ b < B ∧ w.cell? ⟨b, o + i * 2, none⟩ = some (.int .i64 (nth l i).code) ∧ w.cell? ⟨b, o + i * 2 + 1, none⟩ = some (.int .i64 (nth l i).a) := by
  obtain ⟨ao', c', e, h7⟩ := h
  simp only [Value.slice.injEq] at e
  obtain ⟨rfl, rfl, rfl⟩ := e
  obtain ⟨b, o, h1, h2, h3⟩ := Sl.at ⟨ao, c, rfl, h7⟩ hi
  have h3' : ∀ (k j : Nat) u, _ → w.cell? ⟨b, o + k + j, none⟩ = some u := fun k j u hu => by rw [Nat.add_assoc]; exact h3 (k + j) u hu
  refine ⟨b, o, h1, h2, h3 (i * 2 + 0) _ ?_, h3' (i * 2) 1 _ ?_⟩
  all_goals rw [flat_get (sz := 2) (fun _ => rfl) l i _ hi (by omega)]; rfl
theorem RVals.at {w : World} {B n c : Nat} {ao : Option Addr} {l : List Mz.Val} (h : RVals w B (.slice ao n c) l) {i : Nat} (hi : i < l.length) :
    ∃ b o, ao = some ⟨b, o, none⟩ ∧ b < B ∧ w.cell? ⟨b, o + i * 2, none⟩ = some (.bool (nth l i).ref) ∧ w.cell? ⟨b, o + i * 2 + 1, none⟩ = some (.int .i64 (nth l i).n) := by
  obtain ⟨ao', c', e, h7⟩ := h
  simp only [Value.slice.injEq] at e
  obtain ⟨rfl, rfl, rfl⟩ := e
  obtain ⟨b, o, h1, h2, h3⟩ := Sl.at ⟨ao, c, rfl, h7⟩ hi
  have h3' : ∀ (k j : Nat) u, _ → w.cell? ⟨b, o + k + j, none⟩ = some u := fun k j u hu => by rw [Nat.add_assoc]; exact h3 (k + j) u hu
  refine ⟨b, o, h1, h2, h3 (i * 2 + 0) _ ?_, h3' (i * 2) 1 _ ?_⟩
  all_goals rw [flat_get (sz := 2) (fun _ => rfl) l i _ hi (by omega)]; rfl
theorem RBlocks.at {w : World} {B n c : Nat} {ao : Option Addr} {l : List (List Int)} (h : RBlocks w B (.slice ao n c) l) {i : Nat} (hi : i < l.length) :
    ∃ b o v, ao = some ⟨b, o, none⟩ ∧ b < B ∧ w.cell? ⟨b, o + i, none⟩ = some v ∧ RInts w B v (nth l i) := by
  obtain ⟨vs, hl, ⟨ao', c', e, h7⟩, h8⟩ := h
  simp only [Value.slice.injEq] at e
  obtain ⟨rfl, rfl, rfl⟩ := e
  obtain ⟨b, o, h1, h2, h3⟩ := Sl.at ⟨ao, c, rfl, h7⟩ hi
  exact ⟨b, o, vs[i]!, h1, h2, h3 i _ (getElem!_lt (by omega)), h8 i hi⟩
theorem map_get {α β : Type} [Inhabited α] [Inhabited β] {f : α → β} {l : List α} {k : List β} (h : l.map f = k) {i : Nat} (hi : i < k.length) : f l[i]! = k[i]! := by
  have hl : l.length = k.length := by rw [← h, List.length_map]
  have := congrArg (fun x : List β => x[i]?) h
  simp only [List.getElem?_map, getElem!_lt (show i < l.length by omega), getElem!_lt hi, Option.map_some, Option.some.injEq] at this
  exact this
theorem RFuns.at {w : World} {B n c : Nat} {ao : Option Addr} {l : List Mz.Fun} (h : RFuns w B (.slice ao n c) l) {i : Nat} (hi : i < l.length) :
    ∃ b o lv cv, ao = some ⟨b, o, none⟩ ∧ b < B ∧ w.cell? ⟨b, o + i * 4, none⟩ = some (.int .i64 (nth l i).params) ∧ w.cell? ⟨b, o + i * 4 + 1, none⟩ = some lv ∧
      w.cell? ⟨b, o + i * 4 + 2, none⟩ = some (.int .i64 (nth l i).result) ∧ w.cell? ⟨b, o + i * 4 + 3, none⟩ = some cv ∧ RInts w B lv (nth l i).locals ∧ ROps w B cv (nth l i).code := by
  obtain ⟨ps, hl, ⟨ao', c', e, h7⟩, h8⟩ := h
  simp only [Value.slice.injEq] at e
  obtain ⟨rfl, rfl, rfl⟩ := e
  obtain ⟨b, o, h1, h2, h3⟩ := Sl.at ⟨ao, c, rfl, h7⟩ hi
  have h3' : ∀ (k j : Nat) u, _ → w.cell? ⟨b, o + k + j, none⟩ = some u := fun k j u hu => by rw [Nat.add_assoc]; exact h3 (k + j) u hu
  have hpl : i < ps.length := by rw [← hl, List.length_map] at hi; exact hi
  have hx := map_get hl hi
  have hm := h8 _ (Mz.getElem!_mem hpl)
  rw [hx] at hm
  refine ⟨b, o, ps[i]!.2.1, ps[i]!.2.2, h1, h2, h3 (i * 4 + 0) _ ?_, h3' (i * 4) 1 _ ?_, h3' (i * 4) 2 _ ?_, h3' (i * 4) 3 _ ?_, hm⟩
  all_goals rw [flat_get (sz := 4) (fun _ => rfl) ps i _ hpl (by omega)]; (try rw [show nth l i = _ from hx.symm]); rfl
theorem RFrms.at {w : World} {B n c : Nat} {ao : Option Addr} {l : List Mz.Frm} (h : RFrms w B (.slice ao n c) l) {i : Nat} (hi : i < l.length) :
    ∃ b o lv sv, ao = some ⟨b, o, none⟩ ∧ b < B ∧ w.cell? ⟨b, o + i * 4, none⟩ = some (.int .i64 (nth l i).fn) ∧ w.cell? ⟨b, o + i * 4 + 1, none⟩ = some (.int .i64 (nth l i).pc) ∧
      w.cell? ⟨b, o + i * 4 + 2, none⟩ = some lv ∧ w.cell? ⟨b, o + i * 4 + 3, none⟩ = some sv ∧ RVals w B lv (nth l i).locals ∧ RVals w B sv (nth l i).stack := by
  obtain ⟨ps, hl, ⟨ao', c', e, h7⟩, h8⟩ := h
  simp only [Value.slice.injEq] at e
  obtain ⟨rfl, rfl, rfl⟩ := e
  obtain ⟨b, o, h1, h2, h3⟩ := Sl.at ⟨ao, c, rfl, h7⟩ hi
  have h3' : ∀ (k j : Nat) u, _ → w.cell? ⟨b, o + k + j, none⟩ = some u := fun k j u hu => by rw [Nat.add_assoc]; exact h3 (k + j) u hu
  have hpl : i < ps.length := by rw [← hl, List.length_map] at hi; exact hi
  have hx := map_get hl hi
  have hm := h8 _ (Mz.getElem!_mem hpl)
  rw [hx] at hm
  refine ⟨b, o, ps[i]!.2.1, ps[i]!.2.2, h1, h2, h3 (i * 4 + 0) _ ?_, h3' (i * 4) 1 _ ?_, h3' (i * 4) 2 _ ?_, h3' (i * 4) 3 _ ?_, hm⟩
  all_goals rw [flat_get (sz := 4) (fun _ => rfl) ps i _ hpl (by omega)]; (try rw [show nth l i = _ from hx.symm]); rfl

/-- old cells and old marks behind a call that made memory -/
theorem bcell {W w1 : World} {B : Nat} (hb : Below B W w1) : (∀ b o, b < B → w1.cell? ⟨b, o, none⟩ = W.cell? ⟨b, o, none⟩) ∧ (∀ b o, b < B → w1.frozen? ⟨b, o, none⟩ = W.frozen? ⟨b, o, none⟩) :=
  ⟨fun b o h => hb.cell (p := ⟨b, o, none⟩) h, fun b o h => hb.frozen (p := ⟨b, o, none⟩) h⟩
/-- a call behind what was, and behind new blocks -/
theorem via0 {B : Nat} {w wr w2 : World} (hb : Below B w wr) (hB : B ≤ wr.heap.size) (h2 : Below wr.heap.size wr w2) : Below B w w2 := hb.trans (h2.mono hB)
theorem via1 {B : Nat} {w wr w2 : World} {o : Obj} (hb : Below B w wr) (hB : B ≤ wr.heap.size) (h2 : Below (wr.alloc o).heap.size (wr.alloc o) w2) : Below B w w2 :=
  (hb.alloc hB _).trans (h2.mono (by simp; omega))
theorem via2 {B : Nat} {w wr w2 : World} {o o' : Obj} (hb : Below B w wr) (hB : B ≤ wr.heap.size) (h2 : Below ((wr.alloc o).alloc o').heap.size ((wr.alloc o).alloc o') w2) : Below B w w2 :=
  ((hb.alloc hB _).alloc (by simp; omega) _).trans (h2.mono (by simp; omega))
theorem via3 {B : Nat} {w wr w2 : World} {o o' o'' : Obj} (hb : Below B w wr) (hB : B ≤ wr.heap.size) (h2 : Below (((wr.alloc o).alloc o').alloc o'').heap.size (((wr.alloc o).alloc o').alloc o'') w2) : Below B w w2 :=
  (((hb.alloc hB _).alloc (by simp; omega) _).alloc (by simp; omega) _).trans (h2.mono (by simp; omega))
theorem ret_int {k : IntKind} {a b : Int} (h : a = b) : Ending.returned (.int k a) = .returned (.int k b) := by rw [h]
theorem ret_bool {a b : Bool} (h : a = b) : Ending.returned (.bool a) = .returned (.bool b) := by rw [h]
end Go.Proofs.YthdomhejkbpabaaGreat

/- What the small functions of numbers answer, of the program and of the reference. -/
namespace Go.Proofs.YthdomhejkbpabaaGreat
open Go.RowKit

theorem not_any (x : Bool) (w : World) : (Op.unary .not (.bool x)).run Tryz.prog w = .ok (.bool (!x)) w := rfl

set_option maxHeartbeats 400000 in
theorem between_any (a b c : Int) (w : World) :
    Calls Tryz.prog 68 #[.int .i64 a, .int .i64 b, .int .i64 c] w fun e w' => e = .returned (.bool (Mz.btw a b c)) ∧ w = w' := by
  go_enter Tryz.func68, Tryz.ntmps68
  go_wp2
  all_goals go_ret
  all_goals exact ⟨ret_bool (by simp [Mz.btw, *] <;> (intros; omega)), rfl⟩
set_option maxHeartbeats 400000 in
theorem mwithin_any (a b c : Int) (w : World) :
    Calls Tryz.prog 139 #[.int .i64 a, .int .i64 b, .int .i64 c] w fun e w' => e = .returned (.bool (Mz.btw a b c)) ∧ w = w' := by
  go_enter Tryz.func139, Tryz.ntmps139
  go_wp2
  all_goals go_ret
  all_goals exact ⟨ret_bool (by simp [Mz.btw, *] <;> (intros; omega)), rfl⟩
set_option maxHeartbeats 400000 in
theorem pwithin_any (a b c : Int) (w : World) :
    Calls Tryz.prog 158 #[.int .i64 a, .int .i64 b, .int .i64 c] w fun e w' => e = .returned (.bool (Mz.btw a b c)) ∧ w = w' := by
  go_enter Tryz.func158, Tryz.ntmps158
  go_wp2
  all_goals go_ret
  all_goals exact ⟨ret_bool (by simp [Mz.btw, *] <;> (intros; omega)), rfl⟩
set_option maxHeartbeats 400000 in
theorem refIsInt_any (a : Int) (w : World) :
    Calls Tryz.prog 44 #[.int .i64 a] w fun e w' => e = .returned (.bool (Mz.isInt a)) ∧ w = w' := by
  go_enter Tryz.func44, Tryz.ntmps44
  go_wp2_with fail
  refine (between_any _ _ _ _).mono ?_
  rintro e w' ⟨rfl, rfl⟩
  go_wp2_with fail
  go_ret
  exact ⟨rfl, rfl⟩
set_option maxHeartbeats 400000 in
theorem opInt_any (a : Int) (w : World) :
    Calls Tryz.prog 93 #[.int .i64 a] w fun e w' => e = .returned (.bool (Mz.isInt a)) ∧ w = w' := by
  go_enter Tryz.func93, Tryz.ntmps93
  go_wp2
  all_goals go_ret
  all_goals exact ⟨ret_bool (by simp [Mz.isInt, Mz.btw, *] <;> (intros; omega)), rfl⟩
set_option maxHeartbeats 400000 in
theorem refHasA_any (a : Int) (w : World) :
    Calls Tryz.prog 87 #[.int .i64 a] w fun e w' => e = .returned (.bool (Mz.hasA a)) ∧ w = w' := by
  go_enter Tryz.func87, Tryz.ntmps87
  go_wp2
  all_goals go_ret
  all_goals exact ⟨ret_bool (by simp_all [Mz.hasA]), rfl⟩
set_option maxHeartbeats 400000 in
theorem opIs_any (a : Int) (w : World) :
    Calls Tryz.prog 120 #[.int .i64 a] w fun e w' => e = .returned (.bool (Mz.isOp a)) ∧ w = w' := by
  go_enter Tryz.func120, Tryz.ntmps120
  go_wp2
  all_goals go_ret
  all_goals exact ⟨ret_bool (by simp [Mz.isOp, Mz.btw, *] <;> (intros; omega)), rfl⟩
set_option maxHeartbeats 400000 in
theorem stands_any (a b : Int) (w : World) :
    Calls Tryz.prog 227 #[.int .i64 a, .int .i64 b] w fun e w' => e = .returned (.bool (Mz.stands a b)) ∧ w = w' := by
  go_enter Tryz.func227, Tryz.ntmps227
  go_wp2
  all_goals go_ret
  all_goals exact ⟨ret_bool (by simp_all [Mz.stands]), rfl⟩
set_option maxHeartbeats 400000 in
theorem refDoesStand_any (a b : Int) (w : World) :
    Calls Tryz.prog 145 #[.int .i64 a, .int .i64 b] w fun e w' => e = .returned (.bool (Mz.stands a b)) ∧ w = w' := by
  go_enter Tryz.func145, Tryz.ntmps145
  go_wp2
  all_goals go_ret
  all_goals exact ⟨ret_bool (by simp_all [Mz.stands]), rfl⟩
set_option maxHeartbeats 400000 in
theorem both_any (a b : Int) (w : World) :
    Calls Tryz.prog 205 #[.int .i64 a, .int .i64 b] w fun e w' => e = .returned (.int .i64 (Mz.joinT a b)) ∧ w = w' := by
  by_cases h1 : Mz.stands a b = true
  · go_enter Tryz.func205, Tryz.ntmps205
    go_wp2_with fail
    refine (stands_any _ _ _).mono ?_
    rintro e w' ⟨rfl, rfl⟩
    go_wp2_with fail
    go_ret
    exact ⟨ret_int (by simp [Mz.joinT, h1]), rfl⟩
  · have h1' : Mz.stands a b = false := by simpa using h1
    clear h1
    by_cases h2 : Mz.stands b a = true
    · go_enter Tryz.func205, Tryz.ntmps205
      go_wp2_with fail
      refine (stands_any _ _ _).mono ?_
      rintro e w' ⟨rfl, rfl⟩
      go_wp2_with fail
      refine (stands_any _ _ _).mono ?_
      rintro e w' ⟨rfl, rfl⟩
      go_wp2_with fail
      go_ret
      exact ⟨ret_int (by simp [Mz.joinT, h1', h2]), rfl⟩
    · have h2' : Mz.stands b a = false := by simpa using h2
      clear h2
      go_enter Tryz.func205, Tryz.ntmps205
      go_wp2_with fail
      refine (stands_any _ _ _).mono ?_
      rintro e w' ⟨rfl, rfl⟩
      go_wp2_with fail
      refine (stands_any _ _ _).mono ?_
      rintro e w' ⟨rfl, rfl⟩
      go_wp2_with fail
      go_ret
      exact ⟨ret_int (by simp [Mz.joinT, h1', h2']), rfl⟩
set_option maxHeartbeats 400000 in
theorem meterOf_any (a : Int) (w : World) :
    Calls Tryz.prog 86 #[.int .i64 a] w fun e w' => e = .returned (.int .i64 (Mz.costOf a)) ∧ w = w' := by
  go_enter Tryz.func86, Tryz.ntmps86
  go_wp2
  all_goals go_ret
  all_goals exact ⟨ret_int (by simp_all [Mz.costOf]), rfl⟩
set_option maxHeartbeats 400000 in
theorem refCostOf_any (a : Int) (w : World) :
    Calls Tryz.prog 32 #[.int .i64 a] w fun e w' => e = .returned (.int .i64 (Mz.costOf a)) ∧ w = w' := by
  go_enter Tryz.func32, Tryz.ntmps32
  go_wp2
  all_goals go_ret
  all_goals exact ⟨ret_int (by simp_all [Mz.costOf]), rfl⟩
/-- number, ref or not, as a type says -/
theorem refIsAs_any (x : Mz.Val) (t : Int) (w : World) :
    Calls Tryz.prog 112 #[.agg #[.bool x.ref, .int .i64 x.n], .int .i64 t] w fun e w' => e = .returned (.bool (Mz.asT x t)) ∧ Below w.heap.size w w' := by
  go_enter Tryz.func112, Tryz.ntmps112
  go_wp2
  all_goals go_ret
  all_goals exact ⟨ret_bool (by simp_all [Mz.asT]), (Below.refl _ _).alloc (Nat.le_refl _) _⟩
theorem as_any (x : Mz.Val) (t : Int) (w : World) (ht : 1 ≤ t ∧ t ≤ 3) :
    Calls Tryz.prog 215 #[.agg #[.bool x.ref, .int .i64 x.n], .int .i64 t] w fun e w' => e = .returned (.bool (Mz.asT x t)) ∧ Below w.heap.size w w' := by
  have h3 := Lib.hid ht
  clear ht
  obtain ⟨r, n⟩ := x
  by_cases h1 : t = 1
  · subst h1
    cases r
    all_goals
      go_enter Tryz.func215, Tryz.ntmps215
      go_wp2
      all_goals go_ret
      all_goals exact ⟨ret_bool (by simp_all [Mz.asT]), (Below.refl _ _).alloc (Nat.le_refl _) _⟩
  · have h1' : (t != 1) = true := by simpa using h1
    cases r
    all_goals
      go_enter Tryz.func215, Tryz.ntmps215
      go_wp2
      all_goals go_ret
      all_goals exact ⟨ret_bool (by have := h3.out; simp_all [Mz.asT] <;> omega), (Below.refl _ _).alloc (Nat.le_refl _) _⟩
set_option maxHeartbeats 400000 in
theorem refCheckOp_any (o : Mz.Op) (w : World) :
    Calls Tryz.prog 30 #[.agg #[.int .i64 o.code, .int .i64 o.a]] w fun e w' => e = .returned (.int .i64 (Mz.checkOp o)) ∧ Below w.heap.size w w' := by
  go_enter Tryz.func30, Tryz.ntmps30
  go_wp2_with (first | (go_at_call 68; refine (between_any _ _ _ _).mono ?_; rintro e w' ⟨rfl, rfl⟩) | (go_at_call 87; refine (refHasA_any _ _).mono ?_; rintro e w' ⟨rfl, rfl⟩) | (go_at_call 44; refine (refIsInt_any _ _).mono ?_; rintro e w' ⟨rfl, rfl⟩))
  all_goals go_ret
  all_goals exact ⟨ret_int (by simp_all [Mz.checkOp, Mz.isOp]), (Below.refl _ _).alloc (Nat.le_refl _) _⟩
theorem findIdx_snoc {α : Type} [Inhabited α] {f : α → Bool} : ∀ {l : List α} {k : Nat}, k < l.length → (∀ i, i < k → f (nth l i) = false) → f (nth l k) = true → l.findIdx? f = some k
  | a :: l, 0, _, _, h => by simp [nth] at h; simp [List.findIdx?_cons, h]
  | a :: l, k + 1, hk, hall, h => by
    have h0 : f a = false := by simpa [nth] using hall 0 (by omega)
    have ih := findIdx_snoc (f := f) (l := l) (k := k) (by simpa using hk) (fun i hi => by simpa [nth] using hall (i + 1) (by omega)) (by simpa [nth] using h)
    simp [List.findIdx?_cons, h0, ih]
theorem findIdx_none {α : Type} [Inhabited α] {f : α → Bool} {l : List α} (hall : ∀ i, i < l.length → f (nth l i) = false) : l.findIdx? f = none := by
  rw [List.findIdx?_eq_none_iff]
  intro x hx
  obtain ⟨i, hi, rfl⟩ := List.mem_iff_getElem.1 hx
  have := hall i hi
  rw [nth_lt hi] at this
  exact this
def idx {α : Type} (f : α → Bool) (l : List α) : Int := match l.findIdx? f with | some k => k | none => -1
theorem idx_at {α : Type} [Inhabited α] {f : α → Bool} {l : List α} {k : Nat} (hk : k < l.length) (hall : ∀ i, i < k → f (nth l i) = false) (h : f (nth l k) = true) : idx f l = k := by
  unfold idx; rw [findIdx_snoc hk hall h]
theorem idx_none {α : Type} [Inhabited α] {f : α → Bool} {l : List α} (hall : ∀ i, i < l.length → f (nth l i) = false) : idx f l = -1 := by
  unfold idx; rw [findIdx_none hall]
theorem idx_ge {α : Type} {f : α → Bool} {l : List α} : decide (0 ≤ idx f l) = l.any f := by
  unfold idx
  cases h : l.findIdx? f with
  | none =>
    rw [List.findIdx?_eq_none_iff] at h
    simp only
    rw [show l.any f = false by rw [List.any_eq_false]; intro x hx; simp [h x hx]]; rfl
  | some k =>
    have := List.findIdx?_isSome (xs := l) (p := f)
    rw [h] at this
    simp only [Option.isSome_some] at this
    rw [← this]; simp

set_option maxHeartbeats 400000 in
theorem index_any (v : Value) (l : List Int) (x : Int) (B : Nat) (w : World) (h : RInts w B v l) (hB : B ≤ w.heap.size) :
    Calls Tryz.prog 128 #[v, .int .i64 x] w fun e w' => e = .returned (.int .i64 (idx (x == ·) l)) ∧ w = w' := by
  obtain ⟨ao, c, rfl, h1, h2, h3⟩ := h.open
  unfold maxLen at h2
  go_enter Tryz.func128, Tryz.ntmps128
  go_wp2
  go_loop [8] (fun i => ∃ k : Nat, k ≤ l.length ∧ i = .int .i64 k ∧ Hid (∀ i, i < k → (x == nth l i) = false)) (fun i => l.length - (intOf i).toNat)
  case atStart => exact ⟨0, Nat.zero_le _, rfl, fun i hi => by omega⟩
  case round =>
    obtain ⟨k, hk, rfl, hall⟩ := hrel
    by_cases hlt : k < l.length
    · obtain ⟨b, o, rfl, hb, hc⟩ := h.at hlt
      have hb' : b < w.heap.size := by omega
      by_cases hx : (x == (nth l k)) = true
      · have hr := Lib.hid (idx_at hlt hall hx)
        go_wp2
        go_ret
        exact ⟨ret_int (by rw [hr.out]), rfl⟩
      · have hx' : (x == (nth l k)) = false := by simpa using hx
        clear hx
        go_wp2
        go_round
        case rel => exact ⟨k + 1, by omega, by go_num, fun i hi => by
          by_cases c : i = k
          · rw [c]; exact hx'
          · exact hall i (by omega)⟩
        case measure => simp [intOf]; omega
    · go_wp2
      go_ret
      exact ⟨ret_int (by rw [idx_none (fun i hi => hall i (by omega))]), rfl⟩
set_option maxHeartbeats 400000 in
theorem contains_any (v : Value) (l : List Int) (x : Int) (B : Nat) (w : World) (h : RInts w B v l) (hB : B ≤ w.heap.size) :
    Calls Tryz.prog 155 #[v, .int .i64 x] w fun e w' => e = .returned (.bool (l.any (x == ·))) ∧ w = w' := by
  go_enter Tryz.func155, Tryz.ntmps155
  go_wp2_with fail
  refine (index_any _ _ _ _ _ h hB).mono ?_
  rintro e w' ⟨rfl, rfl⟩
  go_wp2_with fail
  go_ret
  exact ⟨ret_bool (by simpa using idx_ge), rfl⟩
end Go.Proofs.YthdomhejkbpabaaGreat

/- What the checks of ops and code answer, of the program and of the reference; looking through a slice by a function literal. -/
namespace Go.Proofs.YthdomhejkbpabaaGreat
open Go.RowKit

/-- a new block of numbers, read as a list -/
theorem RInts.made (w : World) (l : List Int) (T : TypeId) (hl : l.length * 8 ≤ 140737488351232) : RInts (w.alloc (.cells (l.map (Value.int .i64)).toArray T)) (w.heap.size + 1) (.slice (some ⟨w.heap.size, 0, none⟩) l.length l.length) l := by
  refine ⟨_, _, rfl, by simp, Nat.le_refl _, ?_, by simpa using hl, by simp, fun _ => ⟨_, _, rfl, by omega, fun j u hu => ?_⟩⟩
  · unfold maxLen; omega
  · rw [Nat.zero_add, World.cell?_alloc_new]; simpa using hu

set_option maxHeartbeats 400000 in
theorem names_any (a : Int) (w : World) :
    Calls Tryz.prog 121 #[.int .i64 a] w fun e w' => e = .returned (.bool (Mz.hasA a)) ∧ Below w.heap.size w w' := by
  go_enter Tryz.func121, Tryz.ntmps121
  go_wp2_with fail
  refine (contains_any _ [1, 8, 9, 10, 11, 12] _ _ _ (RInts.made w [1, 8, 9, 10, 11, 12] 3 (by decide)) (by simp)).mono ?_
  rintro e w' ⟨rfl, rfl⟩
  go_wp2_with fail
  go_ret
  exact ⟨ret_bool (by simp [Mz.hasA, Bool.or_assoc]), (Below.refl _ _).alloc (Nat.le_refl _) _⟩

set_option maxHeartbeats 400000 in
theorem opCheck_any (o : Mz.Op) (w : World) :
    Calls Tryz.prog 85 #[.agg #[.int .i64 o.code, .int .i64 o.a]] w fun e w' => e = .returned (.int .i64 (Mz.checkOp o)) ∧ Below w.heap.size w w' := by
  go_enter Tryz.func85, Tryz.ntmps85
  go_wp2_with fail
  refine (opIs_any _ _).mono ?_
  rintro e w' ⟨rfl, rfl⟩
  go_wp2_with fail
  · go_ret
    exact ⟨ret_int (by simp_all [Mz.checkOp]), (Below.refl _ _).alloc (Nat.le_refl _) _⟩
  · refine (names_any _ _).mono ?_
    rintro e w1 ⟨rfl, hb⟩
    obtain ⟨hc, hf⟩ := bcell hb
    have hB : Below w.heap.size w w1 := ((Below.refl _ _).alloc (Nat.le_refl _) _).trans (hb.mono (by simp))
    have hsz : w.heap.size < w.heap.size + 1 := by omega
    simp only [World.size_alloc] at hc hf
    clear hb
    go_wp2_with (first | (go_at_call 93; refine (opInt_any _ _).mono ?_; rintro e w' ⟨rfl, rfl⟩))
    all_goals go_ret
    all_goals exact ⟨ret_int (by simp_all [Mz.checkOp]), hB⟩

theorem firstErr_at {α : Type} [Inhabited α] {f : α → Int} : ∀ {l : List α} {k : Nat}, k < l.length → (∀ i, i < k → f (nth l i) = 0) → f (nth l k) ≠ 0 → Mz.firstErr f l = f (nth l k)
  | a :: l, 0, _, _, h => by simp [nth] at h; simp [Mz.firstErr, nth, h]
  | a :: l, k + 1, hk, hall, h => by
    have h0 : f a = 0 := by simpa [nth] using hall 0 (by omega)
    have ih := firstErr_at (f := f) (l := l) (k := k) (by simpa using hk) (fun i hi => by simpa [nth] using hall (i + 1) (by omega)) (by simpa [nth] using h)
    simp only [Mz.firstErr, h0, if_true, ih]; rfl
theorem firstErr_none {α : Type} [Inhabited α] {f : α → Int} : ∀ {l : List α}, (∀ i, i < l.length → f (nth l i) = 0) → Mz.firstErr f l = 0
  | [], _ => rfl
  | a :: l, hall => by
    have h0 : f a = 0 := by simpa [nth] using hall 0 (by simp)
    simp only [Mz.firstErr, h0, if_true]
    exact firstErr_none (fun i hi => by simpa [nth] using hall (i + 1) (by simpa using hi))
/-- what a loop over the first k has found -/
def Clean {α : Type} [Inhabited α] (f : α → Int) (l : List α) (k : Nat) : Prop := ∀ i, i < k → f (nth l i) = 0
theorem Clean.zero {α : Type} [Inhabited α] {f : α → Int} {l : List α} : Clean f l 0 := fun i hi => by omega
theorem Clean.succ {α : Type} [Inhabited α] {f : α → Int} {l : List α} {k : Nat} (h : Clean f l k) (hk : f (nth l k) = 0) : Clean f l (k + 1) := fun i hi => by
  by_cases c : i = k
  · rw [c]; exact hk
  · exact h i (by omega)
theorem Clean.stop {α : Type} [Inhabited α] {f : α → Int} {l : List α} {k : Nat} (h : Clean f l k) (hk : k < l.length) (he : f (nth l k) ≠ 0) : Mz.firstErr f l = f (nth l k) := firstErr_at hk h he
theorem Clean.end {α : Type} [Inhabited α] {f : α → Int} {l : List α} {k : Nat} (h : Clean f l k) (hk : ¬ k < l.length) : Mz.firstErr f l = 0 := firstErr_none fun i hi => h i (by omega)

set_option maxHeartbeats 400000 in
theorem refCheckCode_any (v : Value) (l : List Mz.Op) (B : Nat) (w : World) (h : ROps w B v l) (hB : B ≤ w.heap.size) :
    Calls Tryz.prog 107 #[v] w fun e w' => e = .returned (.int .i64 (Mz.checkCode l)) ∧ Below w.heap.size w w' := by
  obtain ⟨ao, c, rfl, h1, h2, h3⟩ := h.open
  unfold maxLen at h2
  by_cases h40 : 40 < l.length
  · go_enter Tryz.func107, Tryz.ntmps107
    go_wp2
    go_ret
    exact ⟨ret_int (by simp [Mz.checkCode, h40]), Below.refl _ _⟩
  · go_enter Tryz.func107, Tryz.ntmps107
    go_wp2
    go_loopw [3] (fun i wr => ∃ k : Nat, k ≤ l.length ∧ i = .int .i64 k ∧ Clean Mz.checkOp l k ∧ Below w.heap.size w wr) (fun i _ => l.length - (intOf i).toNat)
    case atStart => exact ⟨0, Nat.zero_le _, rfl, .zero, Below.refl _ _⟩
    case round =>
      obtain ⟨k, hk, rfl, hall, hb⟩ := hrel
      by_cases hlt : k < l.length
      · obtain ⟨b, o, rfl, hbB, hc0, hc1⟩ := h.at hlt
        obtain ⟨hc, hf⟩ := bcell hb
        have hb' : b < w.heap.size := by omega
        go_wp2_with fail
        refine (refCheckOp_any (nth l k) _).mono ?_
        rintro e w2 ⟨rfl, hb2⟩
        have hB2 : Below w.heap.size w w2 := hb.trans (hb2.mono hb.size)
        clear hb2 hc hf
        by_cases he : Mz.checkOp (nth l k) = 0
        · have he' : (Mz.checkOp (nth l k) != 0) = false := by simp [he]
          have He := Lib.hid he
          clear he
          go_wp2
          go_roundw
          case rel => exact ⟨k + 1, by omega, by go_num, hall.succ He.out, hB2⟩
          case measure => simp [intOf]; omega
        · have he' : (Mz.checkOp (nth l k) != 0) = true := by simp [he]
          clear he
          go_wp2
          go_ret
          exact ⟨ret_int (by rw [Mz.checkCode, if_neg h40, hall.stop hlt (by simpa using he')]), hB2⟩
      · go_wp2
        go_ret
        exact ⟨ret_int (by rw [Mz.checkCode, if_neg h40, hall.end hlt]), hb⟩
set_option maxHeartbeats 400000 in
theorem opCode_any (v : Value) (l : List Mz.Op) (B : Nat) (w : World) (h : ROps w B v l) (hB : B ≤ w.heap.size) :
    Calls Tryz.prog 161 #[v] w fun e w' => e = .returned (.int .i64 (Mz.checkCode l)) ∧ Below w.heap.size w w' := by
  obtain ⟨ao, c, rfl, h1, h2, h3⟩ := h.open
  unfold maxLen at h2
  by_cases h40 : 40 < l.length
  · go_enter Tryz.func161, Tryz.ntmps161
    go_wp2
    go_ret
    exact ⟨ret_int (by simp [Mz.checkCode, h40]), Below.refl _ _⟩
  · go_enter Tryz.func161, Tryz.ntmps161
    go_wp2
    go_loopw [11] (fun i wr => ∃ k : Nat, k ≤ l.length ∧ i = .int .i64 k ∧ Clean Mz.checkOp l k ∧ Below w.heap.size w wr) (fun i _ => l.length - (intOf i).toNat)
    case atStart => exact ⟨0, Nat.zero_le _, rfl, .zero, Below.refl _ _⟩
    case round =>
      obtain ⟨k, hk, rfl, hall, hb⟩ := hrel
      by_cases hlt : k < l.length
      · obtain ⟨b, o, rfl, hbB, hc0, hc1⟩ := h.at hlt
        obtain ⟨hc, hf⟩ := bcell hb
        have hs := hb.size
        have hb' : b < w.heap.size := by omega
        have hb'' : b < wr.heap.size := by omega
        go_wp2_with fail
        refine (opCheck_any (nth l k) _).mono ?_
        rintro e w2 ⟨rfl, hb2⟩
        have hB2 := via1 hb hs hb2
        clear hb2 hc hf
        by_cases he : Mz.checkOp (nth l k) = 0
        · have he' : (Mz.checkOp (nth l k) != 0) = false := by simp [he]
          have He := Lib.hid he
          clear he
          go_wp2
          go_roundw
          case rel => exact ⟨k + 1, by omega, by go_num, hall.succ He.out, hB2⟩
          case measure => simp [intOf]; omega
        · have he' : (Mz.checkOp (nth l k) != 0) = true := by simp [he]
          clear he
          go_wp2
          go_ret
          exact ⟨ret_int (by rw [Mz.checkCode, if_neg h40, hall.stop hlt (by simpa using he')]), hB2⟩
      · go_wp2
        go_ret
        exact ⟨ret_int (by rw [Mz.checkCode, if_neg h40, hall.end hlt]), hb⟩

/-- a call of function k enters its body -/
def Enters (k : FuncId) : Prop := ∀ (args : Array Value) (w : World), (callFunc k args).run Tryz.prog w = .ok (.enter k args) w
/-- a function literal that says of each element whether it is so, and makes memory at most -/
def Asks {α : Type} (k : FuncId) (cap : Array Value) (cells : α → Value) (g : α → Bool) (w : World) : Prop :=
  ∀ (x : α) (w1 : World), Below w.heap.size w w1 → Calls Tryz.prog k (#[cells x] ++ cap) w1 fun e w2 => e = .returned (.bool (g x)) ∧ Below w1.heap.size w1 w2

theorem run_callFunc_enters {P : Program} {k : FuncId} {fn : Func} (hf : P.funcs[k]? = some fn) (hn : (fn.name == "runtime.NumGoroutine") = false) (hb : fn.body.isNone = false) (args : Array Value) (w : World) :
    (callFunc k args).run P w = .ok (.enter k args) w := by
  have hn' : ¬ fn.name = "runtime.NumGoroutine" := by simpa using hn
  have hb' : ¬ fn.body = none := fun e => by rw [e] at hb; simp at hb
  simp [callFunc, go_sem, hf, hb', hn']
theorem enters_of {k : FuncId} {fn : Func} (hf : Tryz.prog.funcs[k]? = some fn) (hn : (fn.name == "runtime.NumGoroutine") = false) (hb : fn.body.isNone = false) : Enters k := run_callFunc_enters hf hn hb
theorem enters_one1 : Enters 160 := enters_of Tryz.func160 (by kernel_rfl) (by kernel_rfl)

set_option maxHeartbeats 400000 in
set_option maxRecDepth 10000 in
theorem indexFunc_ints (v : Value) (l : List Int) (k : FuncId) (cap : Array Value) (g : Int → Bool) (B : Nat) (w : World) (h : RInts w B v l) (hB : B ≤ w.heap.size)
    (hk : Enters k) (hf : Asks k cap (fun x : Int => Value.int .i64 x) g w) :
    Calls Tryz.prog 203 #[v, .func (.func k) #[] cap] w fun e w' => e = .returned (.int .i64 (idx g l)) ∧ Below w.heap.size w w' := by
  obtain ⟨ao, c, rfl, h1, h2, h3⟩ := h.open
  unfold maxLen at h2
  go_enter Tryz.func203, Tryz.ntmps203
  go_wp2
  go_loopw [8] (fun i wr => ∃ k : Nat, k ≤ l.length ∧ i = .int .i64 k ∧ Hid (∀ i, i < k → g (nth l i) = false) ∧ Below w.heap.size w wr) (fun i _ => l.length - (intOf i).toNat)
  case atStart => exact ⟨0, Nat.zero_le _, rfl, fun i hi => by omega, Below.refl _ _⟩
  case round =>
    obtain ⟨j, hj, rfl, hall, hb⟩ := hrel
    by_cases hlt : j < l.length
    · obtain ⟨b, o, rfl, hbB, hc0⟩ := h.at hlt
      obtain ⟨hc, hfz⟩ := bcell hb
      have hs := hb.size
      have hb' : b < w.heap.size := by omega
      have hke := hk
      unfold Enters at hke
      go_wp2_with fail
      refine (hf (nth l j) _ hb).mono ?_
      rintro e w2 ⟨rfl, hb2⟩
      have hB2 := via0 hb hs hb2
      clear hb2 hc hfz hke
      by_cases hx : g (nth l j) = true
      · have hr := Lib.hid (idx_at hlt hall.out hx)
        go_wp2
        go_ret
        exact ⟨ret_int (by rw [hr.out]), hB2⟩
      · have hx' : g (nth l j) = false := by simpa using hx
        clear hx
        go_wp2
        go_roundw
        case rel => exact ⟨j + 1, by omega, by go_num, fun i hi => by
          by_cases c : i = j
          · rw [c]; exact hx'
          · exact hall.out i (by omega), hB2⟩
        case measure => simp [intOf]; omega
    · go_wp2
      go_ret
      exact ⟨ret_int (by rw [idx_none (fun i hi => hall.out i (by omega))]), hb⟩
set_option maxHeartbeats 400000 in
theorem containsFunc_ints (v : Value) (l : List Int) (k : FuncId) (cap : Array Value) (g : Int → Bool) (B : Nat) (w : World) (h : RInts w B v l) (hB : B ≤ w.heap.size)
    (hk : Enters k) (hf : Asks k cap (fun x : Int => Value.int .i64 x) g w) :
    Calls Tryz.prog 159 #[v, .func (.func k) #[] cap] w fun e w' => e = .returned (.bool (l.any g)) ∧ Below w.heap.size w w' := by
  go_enter Tryz.func159, Tryz.ntmps159
  go_wp2_with fail
  refine (indexFunc_ints _ _ _ _ _ _ _ h hB hk hf).mono ?_
  rintro e w' ⟨rfl, hb⟩
  go_wp2_with fail
  go_ret
  exact ⟨ret_bool (by simpa using idx_ge), hb⟩
set_option maxHeartbeats 400000 in
set_option maxRecDepth 10000 in
theorem indexFunc_ops (v : Value) (l : List Mz.Op) (k : FuncId) (cap : Array Value) (g : Mz.Op → Bool) (B : Nat) (w : World) (h : ROps w B v l) (hB : B ≤ w.heap.size)
    (hk : Enters k) (hf : Asks k cap (fun x : Mz.Op => Value.agg #[.int .i64 x.code, .int .i64 x.a]) g w) :
    Calls Tryz.prog 204 #[v, .func (.func k) #[] cap] w fun e w' => e = .returned (.int .i64 (idx g l)) ∧ Below w.heap.size w w' := by
  obtain ⟨ao, c, rfl, h1, h2, h3⟩ := h.open
  unfold maxLen at h2
  go_enter Tryz.func204, Tryz.ntmps204
  go_wp2
  go_loopw [8] (fun i wr => ∃ k : Nat, k ≤ l.length ∧ i = .int .i64 k ∧ Hid (∀ i, i < k → g (nth l i) = false) ∧ Below w.heap.size w wr) (fun i _ => l.length - (intOf i).toNat)
  case atStart => exact ⟨0, Nat.zero_le _, rfl, fun i hi => by omega, Below.refl _ _⟩
  case round =>
    obtain ⟨j, hj, rfl, hall, hb⟩ := hrel
    by_cases hlt : j < l.length
    · obtain ⟨b, o, rfl, hbB, hc0, hc1⟩ := h.at hlt
      obtain ⟨hc, hfz⟩ := bcell hb
      have hs := hb.size
      have hb' : b < w.heap.size := by omega
      have hke := hk
      unfold Enters at hke
      go_wp2_with fail
      refine (hf (nth l j) _ hb).mono ?_
      rintro e w2 ⟨rfl, hb2⟩
      have hB2 := via0 hb hs hb2
      clear hb2 hc hfz hke
      by_cases hx : g (nth l j) = true
      · have hr := Lib.hid (idx_at hlt hall.out hx)
        go_wp2
        go_ret
        exact ⟨ret_int (by rw [hr.out]), hB2⟩
      · have hx' : g (nth l j) = false := by simpa using hx
        clear hx
        go_wp2
        go_roundw
        case rel => exact ⟨j + 1, by omega, by go_num, fun i hi => by
          by_cases c : i = j
          · rw [c]; exact hx'
          · exact hall.out i (by omega), hB2⟩
        case measure => simp [intOf]; omega
    · go_wp2
      go_ret
      exact ⟨ret_int (by rw [idx_none (fun i hi => hall.out i (by omega))]), hb⟩
set_option maxHeartbeats 400000 in
theorem containsFunc_ops (v : Value) (l : List Mz.Op) (k : FuncId) (cap : Array Value) (g : Mz.Op → Bool) (B : Nat) (w : World) (h : ROps w B v l) (hB : B ≤ w.heap.size)
    (hk : Enters k) (hf : Asks k cap (fun x : Mz.Op => Value.agg #[.int .i64 x.code, .int .i64 x.a]) g w) :
    Calls Tryz.prog 162 #[v, .func (.func k) #[] cap] w fun e w' => e = .returned (.bool (l.any g)) ∧ Below w.heap.size w w' := by
  go_enter Tryz.func162, Tryz.ntmps162
  go_wp2_with fail
  refine (indexFunc_ops _ _ _ _ _ _ _ h hB hk hf).mono ?_
  rintro e w' ⟨rfl, hb⟩
  go_wp2_with fail
  go_ret
  exact ⟨ret_bool (by simpa using idx_ge), hb⟩
end Go.Proofs.YthdomhejkbpabaaGreat

/- Appending to a slice that the call itself owns, and reading it then; a copy of a slice. -/
namespace Go.Proofs.YthdomhejkbpabaaGreat
open Go.RowKit

theorem info_int : (Tryz.prog.info? 3).map (fun i => (i.zero, i.size, i.bytes)) = some (some (.int .i64 0), 1, 8) := by kernel_rfl

section
variable {P : Program}
/-- one element, of whatever cells, behind a slice that the call owns -/
theorem push_gen {ops : Array Oper} {rest : List Oper} {o : Oper} {a : Act} {Q : Exit → Act → World → Prop} {s x : Operand} {t e : TypeId} {z : Value} {sz bytes : Nat}
    (ht : P.underlying t = some (.slice e)) (hi : (P.info? e).map (fun i => (i.zero, i.size, i.bytes)) = some (some z, sz, bytes)) (hzs : z.cells.size = sz) (hsz : 0 < sz) (hby : bytes ≤ 1000)
    (hgd : o.guard = none) (ho : o.op = .call { callee := .builtin .append, args := #[s, x], argTypes := #[t, t] })
    {base n : Nat} {v : Value} {xs cells : List Value} {wr : World} (hs : a.eval s = v) (hown : wr.ownsRow base e sz v n xs) (hx : a.eval x = .slice (some ⟨wr.heap.size, 0, none⟩) 1 1)
    (hl : cells.length = sz) (h1 : ∀ u ∈ cells, u.oneCell' = true) (hn : n ≤ 1000000) (hb : base ≤ wr.heap.size)
    (h : ∀ v' w', w'.ownsRow base e sz v' (n + 1) (xs ++ cells) → wr.grownBy w' v.ownBlock → Below base wr w' → wpList P ops Q rest (a.put o.dst v') w') :
    wpList P ops Q (o :: rest) a (wr.alloc (.cells cells.toArray e)) := by
  obtain ⟨i, hi0, hz0, hz1, hz2⟩ := info_parts hi
  have hbb : (n + 1) * bytes ≤ 1000001 * 1000 := Nat.mul_le_mul (by omega) hby
  refine wpList_append_own _ hgd s x t ho base e i z sz bytes ht hi0 hz0 hz1 hz2 hzs hsz v n xs hs (hown.alloc _) ⟨wr.heap.size, 0, none⟩ 1 1 cells hx (by omega) ?_ h1 (by unfold maxLen; omega) (by omega) (by simp; omega) ?_
  · intro j u hu
    rw [Addr.add_lit, Nat.zero_add, World.cell?_alloc_new]; simpa using hu
  · intro v' w' hown' hg _
    have hg' : wr.grownBy w' v.ownBlock := ⟨hg.os, hg.tape, hg.output, by have := hg.size; simp at this; omega, fun k hk hne => by
      rw [hg.block k (by simp; omega) hne]; exact Below.heap_alloc _ _ _ hk⟩
    exact h v' w' hown' hg' (Below.grown (Below.refl _ _) hg' hb (fun k hk => (hown.lt k hk).1))
end

/-- one number behind numbers -/
theorem push_int {ops : Array Oper} {rest : List Oper} {o : Oper} {a : Act} {Q : Exit → Act → World → Prop} {s x : Operand}
    (hgd : o.guard = none) (ho : o.op = .call { callee := .builtin .append, args := #[s, x], argTypes := #[27, 27] })
    {base n : Nat} {v : Value} {xs : List Value} {k : Int} {wr : World} (hs : a.eval s = v) (hown : wr.ownsRow base 3 1 v n xs) (hx : a.eval x = .slice (some ⟨wr.heap.size, 0, none⟩) 1 1) (hn : n ≤ 1000000) (hb : base ≤ wr.heap.size)
    (h : ∀ v' w', w'.ownsRow base 3 1 v' (n + 1) (xs ++ [.int .i64 k]) → wr.grownBy w' v.ownBlock → Below base wr w' → wpList Tryz.prog ops Q rest (a.put o.dst v') w') :
    wpList Tryz.prog ops Q (o :: rest) a (wr.alloc (.cells #[.int .i64 k] 3)) :=
  push_gen Tryz.underlying27 info_int rfl (by decide) (by decide) hgd ho hs hown hx rfl (fun u hu => by simp at hu; subst hu; rfl) hn hb h

/-- numbers that the call owns it can read -/
theorem RInts.of_owns {w : World} {base : Nat} {e : TypeId} {v : Value} {n : Nat} {l : List Int} (h : w.ownsRow base e 1 v n (l.map (Value.int .i64))) (hn : n ≤ 1000000) : RInts w w.heap.size v l := by
  have hl : l.length = n := by have := h.1; simpa using this
  unfold RInts
  rw [hl]
  exact Sl.of_owns h (by omega)

theorem owns_lo {w : World} {base e sz n : Nat} {v : Value} {xs : List Value} (h : w.ownsRow base e sz v n xs) : ∀ b o n' c, v = .slice (some ⟨b, o, none⟩) n' c → base ≤ b := by
  intro b o n' c hv
  rcases h.2 with ⟨rfl, _⟩ | ⟨g, cap, cur, rfl, hb, _⟩
  · cases hv
  · cases hv; exact hb
/-- the fields of a round's world, behind a push -/
theorem owned_open {w : World} {base e sz n : Nat} {v : Value} {xs : List Value} (h : w.ownsRow base e sz v n xs) : ∃ ao c, v = .slice ao n c := by
  rcases h.2 with ⟨rfl, rfl⟩ | ⟨g, cap, cur, rfl, _⟩
  · exact ⟨_, _, rfl⟩
  · exact ⟨_, _, rfl⟩

set_option maxHeartbeats 400000 in
theorem goesOn_any (v : Value) (l : List Mz.Op) (pc to : Nat) (B : Nat) (w : World) (h : ROps w B v l) (hB : B ≤ w.heap.size) (hpc : pc < l.length) (hto : to ≤ l.length) :
    Calls Tryz.prog 146 #[v, .int .i64 pc, .int .i64 to] w fun e w' => e = .returned (.bool (if (nth l pc).code = 13 then false else if (nth l pc).code = 10 then ((to : Int) == (nth l pc).a) else if (nth l pc).code = 11 then ((to : Int) == (pc : Int) + 1 || (to : Int) == (nth l pc).a) else ((to : Int) == (pc : Int) + 1))) ∧ w = w' := by
  obtain ⟨ao, c, rfl, h1, h2, h3⟩ := h.open
  unfold maxLen at h2
  obtain ⟨b, o, rfl, hbB, q0, q1⟩ := h.at hpc
  have g : b < w.heap.size := by omega
  go_enter Tryz.func146, Tryz.ntmps146
  go_wp2
  all_goals go_ret
  all_goals exact ⟨ret_bool (by simp_all), rfl⟩
def goesTo (o : Mz.Op) (pc to : Nat) : Bool := if o.code = 13 then false else if o.code = 10 then ((to : Int) == o.a) else if o.code = 11 then ((to : Int) == (pc : Int) + 1 || (to : Int) == o.a) else ((to : Int) == (pc : Int) + 1)
theorem goesOn_call (v : Value) (l : List Mz.Op) (pc to : Nat) (B : Nat) (w : World) (h : ROps w B v l) (hB : B ≤ w.heap.size) (hpc : pc < l.length) (hto : to ≤ l.length) :
    Calls Tryz.prog 146 #[v, .int .i64 pc, .int .i64 to] w fun e w' => e = .returned (.bool (goesTo (nth l pc) pc to)) ∧ w = w' := goesOn_any v l pc to B w h hB hpc hto
def goesList (o : Mz.Op) (pc : Nat) : Nat → List Int
  | 0 => []
  | k + 1 => goesList o pc k ++ if goesTo o pc k then [(k : Int)] else []
theorem goesList_len (o : Mz.Op) (pc : Nat) : ∀ k, (goesList o pc k).length ≤ k
  | 0 => Nat.le_refl _
  | k + 1 => by
    have := goesList_len o pc k
    simp only [goesList, List.length_append]; split <;> simp <;> omega

set_option maxHeartbeats 400000 in
theorem nextOf_any (v : Value) (l : List Mz.Op) (pc : Nat) (B : Nat) (w : World) (h : ROps w B v l) (hB : B ≤ w.heap.size) (hpc : pc < l.length) (hl : l.length ≤ 40) :
    Calls Tryz.prog 109 #[v, .int .i64 pc] w fun e w' => ∃ r, e = .returned r ∧ RInts w' w'.heap.size r (goesList (nth l pc) pc (l.length + 1)) ∧ (∀ b o n c, r = .slice (some ⟨b, o, none⟩) n c → w.heap.size ≤ b) ∧ Below w.heap.size w w' := by
  obtain ⟨ao, c, rfl, h1, h2, h3⟩ := h.open
  unfold maxLen at h2
  go_enter Tryz.func109, Tryz.ntmps109
  go_wp2
  go_loopw [5, 6] (fun r i wr => ∃ k : Nat, k ≤ l.length + 1 ∧ i = .int .i64 k ∧ wr.ownsRow w.heap.size 3 1 r (goesList (nth l pc) pc k).length ((goesList (nth l pc) pc k).map (Value.int .i64)) ∧ Below w.heap.size w wr) (fun _ i _ => l.length + 1 - (intOf i).toNat)
  case atStart => exact ⟨0, Nat.zero_le _, rfl, World.ownsRow_nil _ _ _ _, Below.refl _ _⟩
  case round =>
    obtain ⟨k, hk, rfl, hown, hb⟩ := hrel
    have hs := hb.size
    have hln := goesList_len (nth l pc) pc k
    by_cases hlt : k ≤ l.length
    · go_wp2_with fail
      refine (goesOn_call _ l pc k B _ (h.frame (hb.mono hB)) (by omega) hpc hlt).mono ?_
      rintro e w2 ⟨rfl, rfl⟩
      cases hg : goesTo (nth l pc) pc k with
      | false =>
        have hG := Lib.hid hg
        clear hg
        go_wp2_with fail
        go_roundw
        case rel => exact ⟨k + 1, by omega, by go_num, by simpa [goesList, hG.out] using hown, hb⟩
        case measure => simp [intOf]; omega
      | true =>
        have hG := Lib.hid hg
        clear hg
        have HO := Lib.hid hown
        clear hown
        go_wp2_with (at_builtin; refine push_int rfl rfl rfl HO.out rfl (by omega) (by omega) ?_; intro v' w' hown' hgr hb')
        go_roundw
        case rel => exact ⟨k + 1, by omega, by go_num, by simpa [goesList, hG.out] using hown', hb.trans hb'⟩
        case measure => simp [intOf]; omega
    · obtain rfl : k = l.length + 1 := by omega
      go_wp2
      go_ret
      exact ⟨_, rfl, RInts.of_owns hown (by omega), owns_lo hown, hb⟩
end Go.Proofs.YthdomhejkbpabaaGreat
