/- Lemmas: Stk2, TryS, Types2. -/
import Derived.Test.YthdomhejkbpabaaGreatG06
set_option linter.unusedVariables false
set_option linter.unusedSimpArgs false
/- The stack of types: put, take. -/
namespace Go.Proofs.YthdomhejkbpabaaGreat
open Go.RowKit

/-- below lo all has stayed, and of the rest what is no row of numbers, but for block sb -/
structure Fr (lo sb : Nat) (w w' : World) : Prop where
  below : Below lo w w'
  besides : ∀ k, k < w.heap.size → k ≠ sb → (∀ c fr, w.heap[k]? ≠ some (.cells c 3 fr)) → w'.heap[k]? = w.heap[k]?
theorem Fr.of_below {lo sb : Nat} {w w' : World} (h : Below w.heap.size w w') (hlo : lo ≤ w.heap.size) : Fr lo sb w w' := ⟨h.mono hlo, fun k hk _ _ => h.block k hk⟩
theorem Only.fr {lo sb : Nat} {w w' : World} (h : Only sb w w') (hlo : lo ≤ sb) : Fr lo sb w w' := ⟨h.below hlo, fun k _ hk _ => h.block k hk⟩
theorem Fr.trans {lo sb : Nat} {u v w : World} (h : Fr lo sb u v) (k : Fr lo sb v w) : Fr lo sb u w :=
  ⟨h.below.trans k.below, fun i hi n1 n2 => by
    have e := h.besides i hi n1 n2
    rw [k.besides i (Nat.lt_of_lt_of_le hi h.below.size) n1 (by rw [e]; exact n2), e]⟩
theorem Fr.setCell {lo sb : Nat} {u w : World} (h : Fr lo sb u w) (hlo : lo ≤ sb) (i : Nat) (v : Value) : Fr lo sb u (w.setCell ⟨sb, i, none⟩ v) := h.trans (((Only.refl sb w).setCell i v).fr hlo)

set_option maxHeartbeats 1000000 in
set_option maxRecDepth 100000 in
theorem put_any (w : World) (lo sb : Nat) (l : List Int) (wr : Bool) (h : Stk w lo sb l wr) (hl : l.length ≤ 1000) (xv : Value) (xs : List Int) (B : Nat) (hx : RInts w B xv xs) (hxl : xs.length ≤ 1000) :
    Calls Tryz.prog 207 #[.pointer (some ⟨sb, 0, none⟩), xv] w fun e w' => e = .returned (.tuple #[]) ∧ Stk w' lo sb (l ++ xs) wr ∧ Fr lo sb w w' := by
  obtain ⟨ao, c, c0, c1, f0, f1, ho, hsb⟩ := h.cells
  obtain ⟨v0, hrow, _⟩ := h.row
  have HNE := Lib.hid (owns_ne hrow ho (by decide))
  have hlo := h.low
  have HO := Lib.hid ho
  have HS := Lib.hid h
  have HX := Lib.hid hx
  clear h ho hx hrow
  go_enter Tryz.func207, Tryz.ntmps207
  go_wp2_with (at_builtin; refine push_ints (l := xs) rfl rfl rfl HO.out rfl HX.out (by omega) (by omega) ?_; intro v' w' hown' hgr hb'; have hsame : w'.heap[sb]? = w.heap[sb]? := hgr.block sb hsb (fun e => HNE.out e.symm); have c0' := (World.cell?_of_block (a := ⟨sb, 0, none⟩) hsame).trans c0; have f0' := (World.frozen?_of_block (a := ⟨sb, 0, none⟩) hsame).trans f0; have HSM := Lib.hid hsame; clear hsame c0 c1 f0 f1; obtain ⟨va, vc, rfl⟩ := owned_open hown')
  go_end0
  refine ⟨rfl, ?_, Fr.setCell ⟨hb', fun k hk hne hni => hgr.block k hk (fun e => ?_)⟩ hlo _ _⟩
  rotate_left
  · rcases HO.out.2 with ⟨h2, _⟩ | ⟨g, cap, cur, h2, _, hg, _⟩
    · have h2' := e.trans (congrArg Value.ownBlock h2)
      cases h2'
    · have h2' := e.trans (congrArg Value.ownBlock h2)
      simp only [Value.ownBlock, Option.some.injEq] at h2'
      subst h2'
      exact hni _ _ hg
  obtain ⟨h1, v0, h2, _⟩ := HS.out
  have hS : w'.rowIs sb 202 2 (fun i => if i = 0 then v0 else .bool wr) := h2.of_block HSM.out
  refine ⟨h1, .slice va (l.length + xs.length) vc, (hS.set 0 _).congr (fun i hi => ?_), owns_of_block (w := w') ?_ fun g hg => Below.heap_setCell _ _ _ _ ?_⟩
  · by_cases c : i = 0 <;> simp [c]
  · rw [List.length_append, List.map_append]; exact hown'
  · intro e
    exact owns_ne hS hown' (by decide) (by rw [hg, e])

/-- what a list of types takes of a stack, from its end -/
def takeS (tk : List Int) (s : List Int × Bool) : List Int × Bool := tk.foldr (fun t s => (s.1.dropLast, (s.2 || s.1.isEmpty) || !Mz.stands (popL s.1) t)) s
theorem takeS_len (tk : List Int) (s : List Int × Bool) : (takeS tk s).1.length ≤ s.1.length := by
  induction tk with
  | nil => exact Nat.le_refl _
  | cons a tk ih => show (takeS tk s).1.dropLast.length ≤ _; simp; omega
theorem takeS_drop {tk : List Int} {i : Nat} (h : i < tk.length) (s : List Int × Bool) : takeS (tk.drop i) s = ((takeS (tk.drop (i + 1)) s).1.dropLast, ((takeS (tk.drop (i + 1)) s).2 || (takeS (tk.drop (i + 1)) s).1.isEmpty) || !Mz.stands (popL (takeS (tk.drop (i + 1)) s).1) (nth tk i)) := by
  rw [drop_nth h]; rfl

set_option maxHeartbeats 1000000 in
set_option maxRecDepth 100000 in
theorem take_any (w : World) (lo sb : Nat) (l : List Int) (wr0 : Bool) (h : Stk w lo sb l wr0) (hl : l.length ≤ 1000) (tv : Value) (tk : List Int) (B : Nat) (hB : B ≤ w.heap.size) (ht : RInts w B tv tk) (htl : tk.length ≤ 1000) :
    Calls Tryz.prog 208 #[.pointer (some ⟨sb, 0, none⟩), tv] w fun e w' => e = .returned (.tuple #[]) ∧ Stk w' lo sb (takeS tk (l, wr0)).1 (takeS tk (l, wr0)).2 ∧ Only sb w w' := by
  obtain ⟨ao, c, rfl, t1, t2, t3⟩ := ht.open
  unfold maxLen at t2
  have HS := Lib.hid h
  have HT := Lib.hid ht
  clear h ht
  have e1 : IntKind.i64.wrap ((tk.length : Int) - 1) = tk.length - 1 := IntWalk.i64_in _ (by omega)
  go_enter Tryz.func208, Tryz.ntmps208
  go_wp2_with fail
  go_loopw [4] (fun iv wx => ∃ k : Nat, k ≤ tk.length ∧ iv = .int .i64 ((k : Int) - 1) ∧ Hid (Stk wx lo sb (takeS (tk.drop k) (l, wr0)).1 (takeS (tk.drop k) (l, wr0)).2) ∧ Hid (Only sb w wx)) (fun iv _ => (intOf iv + 1).toNat)
  case atStart => exact ⟨tk.length, Nat.le_refl _, by simp, by rw [List.drop_length]; exact HS.out, Only.refl _ _⟩
  case round =>
    obtain ⟨k, hk, rfl, hs, ho⟩ := hrel
    by_cases h0 : k = 0
    · subst h0
      go_wp2_with fail
      go_end0
      rw [List.drop_zero] at hs
      exact ⟨rfl, hs.out, ho.out⟩
    · obtain ⟨j, rfl⟩ : ∃ j, k = j + 1 := ⟨k - 1, by omega⟩
      have ej : ((j + 1 : Nat) : Int) - 1 = (j : Int) := by omega
      rw [ej]
      clear h0
      have htr : RInts wr B (.slice ao tk.length c) tk := HS.out.apart ho.out HT.out
      obtain ⟨b, o, rfl, bB, cell⟩ := htr.at (i := j) (by omega)
      have hne := hs.out.ne_of_int cell
      have hlen := takeS_len (tk.drop (j + 1)) (l, wr0)
      have POP := Lib.hid (pop_any wr.drew lo sb (takeS (tk.drop (j + 1)) (l, wr0)).1 (takeS (tk.drop (j + 1)) (l, wr0)).2 (hs.out.frame ((Below.refl _ _).drew)) (by simp at hlen; omega))
      have HD := Lib.hid (takeS_drop (tk := tk) (i := j) (by omega) (l, wr0))
      clear htr hs hlen
      have ed : ((j : Int) - 1 + 1).toNat = j := by omega
      have eb : (0 : Int) ≤ (j : Int) := by omega
      have ec : (j : Int) < (tk.length : Int) := by omega
      have ef : ((j : Int) + 1).toNat = j + 1 := by omega
      have eq : IntKind.i64.wrap ((j : Int) - 1) = j - 1 := IntWalk.i64_in _ (by omega)
      obtain ⟨top, htop⟩ : ∃ t, t = popL (takeS (tk.drop (j + 1)) (l, wr0)).1 := ⟨_, rfl⟩
      rw [← htop] at POP HD
      clear htop
      cases hst : Mz.stands top (nth tk j) with
      | true =>
        rw [hst] at HD
        go_wp2_with fail
        go_region_held3 (fun w' => w'.cell? ⟨b, o + j, none⟩ = some (.int .i64 (nth tk j))) (first | go_keep | exact hc2) (first | (go_at_call 206; refine POP.out.mono ?_; rintro e w2 ⟨rfl, hs2, ho2⟩; have hc2 : w2.cell? ⟨b, o + j, none⟩ = some (.int .i64 (nth tk j)) := (World.cell?_of_block (ho2.block b hne)).trans cell) | (go_at_call 227; refine (stands_any _ _ _).mono ?_; rintro e w3 ⟨rfl, rfl⟩))
        have HS2 := Lib.hid hs2
        have HO2 := Lib.hid (ho.out.trans ((Only.drew sb wr).trans ho2))
        clear hs2 ho2
        go_wp2_with fail
        go_roundw
        case rel => exact ⟨j, by omega, rfl, by rw [HD.out]; simpa [Hid] using HS2.out, HO2⟩
        case measure => simp [intOf]
      | false =>
        rw [hst] at HD
        go_wp2_with fail
        go_region_held3 (fun w' => w'.cell? ⟨b, o + j, none⟩ = some (.int .i64 (nth tk j))) (first | go_keep | exact hc2) (first | (go_at_call 206; refine POP.out.mono ?_; rintro e w2 ⟨rfl, hs2, ho2⟩; have hc2 : w2.cell? ⟨b, o + j, none⟩ = some (.int .i64 (nth tk j)) := (World.cell?_of_block (ho2.block b hne)).trans cell) | (go_at_call 227; refine (stands_any _ _ _).mono ?_; rintro e w3 ⟨rfl, rfl⟩))
        have HS2 := Lib.hid (hs2.setW true)
        obtain ⟨_, _, _, k1, _, k2, _, _⟩ := hs2.cells
        have HO2 := Lib.hid ((ho.out.trans ((Only.drew sb wr).trans ho2)).setCell 1 (.bool true))
        clear hs2 ho2
        go_wp2_with fail
        go_roundw
        case rel => exact ⟨j, by omega, rfl, by rw [HD.out]; simpa [Hid] using HS2.out, HO2⟩
        case measure => simp [intOf]
end Go.Proofs.YthdomhejkbpabaaGreat

/- Trying an op on a stack, as the program does it: it answers what is said of it. -/
namespace Go.Proofs.YthdomhejkbpabaaGreat
open Go.RowKit

theorem dropLast_take' (l : List Int) (k : Nat) (h : k < l.length) : (l.take (k + 1)).dropLast = l.take k := by
  rw [List.dropLast_eq_take, List.take_take, List.length_take, Nat.min_eq_left (by omega)]
  congr 1; omega
theorem takeS_law : ∀ (tk l : List Int), ((takeS tk (l, false)).2 = false ↔ (tk.length ≤ l.length ∧ Mz.standsAll (l.drop (l.length - tk.length)) tk = true)) ∧ ((takeS tk (l, false)).2 = false → (takeS tk (l, false)).1 = l.take (l.length - tk.length))
  | [], l => by simp [takeS, Mz.standsAll]
  | t :: tk, l => by
    obtain ⟨h1, h2⟩ := takeS_law tk l
    have he : takeS (t :: tk) (l, false) = ((takeS tk (l, false)).1.dropLast, ((takeS tk (l, false)).2 || (takeS tk (l, false)).1.isEmpty) || !Mz.stands (popL (takeS tk (l, false)).1) t) := rfl
    rw [he]
    by_cases hw : (takeS tk (l, false)).2 = false
    · have hs := h1.1 hw
      have hl := h2 hw
      rw [hw, hl]
      by_cases hk : tk.length < l.length
      · obtain ⟨m, hm⟩ : ∃ m, l.length - tk.length = m + 1 := ⟨l.length - tk.length - 1, by omega⟩
        have hm' : l.length - (t :: tk).length = m := by simp; omega
        have hml : m < l.length := by omega
        rw [hm', hm]
        have he : (l.take (m + 1)).isEmpty = false := by
          rw [List.isEmpty_eq_false_iff]; intro h; have h9 := congrArg List.length h; rw [List.length_take, List.length_nil, Nat.min_eq_left (by omega)] at h9; omega
        have hp : popL (l.take (m + 1)) = nth l m := by
          unfold popL
          rw [if_neg (by intro h; rw [h] at he; simp at he), List.length_take, Nat.min_eq_left (by omega), nth_lt (by simp; omega), nth_lt hml]
          simp
        have hd : l.drop m = nth l m :: l.drop (m + 1) := drop_nth hml
        rw [he, hp, hd, Mz.standsAll]
        rw [hm] at hs
        refine ⟨?_, fun _ => dropLast_take' l m hml⟩
        simp only [Bool.false_or, hs.2, Bool.and_true, Bool.not_eq_false']
        exact ⟨fun h => ⟨by have : (t :: tk).length = tk.length + 1 := rfl; omega, h⟩, fun h => h.2⟩
      · have h0 : l.length - tk.length = 0 := by omega
        rw [h0]
        simp
        omega
    · rw [Bool.not_eq_false] at hw
      rw [hw]
      have hn : ¬ (tk.length ≤ l.length ∧ Mz.standsAll (l.drop (l.length - tk.length)) tk = true) := fun h => by rw [h1.2 h] at hw; cases hw
      refine ⟨⟨fun h => by simp at h, fun h => ?_⟩, fun h => by simp at h⟩
      exfalso
      apply hn
      obtain ⟨a, b⟩ := h
      simp only [List.length_cons] at a b
      refine ⟨by omega, ?_⟩
      have hml : l.length - (tk.length + 1) < l.length := by omega
      rw [drop_nth hml, Mz.standsAll, Bool.and_eq_true] at b
      rw [show l.length - tk.length = l.length - (tk.length + 1) + 1 by omega]
      exact b.2

def resL (f : Mz.Fun) : List Int := if f.result = 0 then [] else [f.result]
/-- what an op leaves of a stack, as the program goes about it, ahead of the look at its length -/
def tryR (p : List Mz.Fun) (f : Mz.Fun) (o : Mz.Op) (s : List Int) : List Int × Bool :=
    if o.code = 2 then (s.dropLast, s.isEmpty)
    else if o.code = 3 then (s.dropLast ++ [popL s, popL s], s.isEmpty)
    else if o.code = 4 then (s.dropLast.dropLast ++ [popL s, popL s.dropLast], s.isEmpty || s.dropLast.isEmpty)
    else if o.code = 8 then (s ++ [nth f.locals o.a.toNat], false)
    else if o.code = 9 then takeS [nth f.locals o.a.toNat] (s, false)
    else if o.code = 12 then ((takeS ((nth p o.a.toNat).locals.take (nth p o.a.toNat).params.toNat) (s, false)).1 ++ resL (nth p o.a.toNat), (takeS ((nth p o.a.toNat).locals.take (nth p o.a.toNat).params.toNat) (s, false)).2)
    else if o.code = 13 then ((takeS (resL f) (s, false)).1, (takeS (resL f) (s, false)).2 || decide (0 < (takeS (resL f) (s, false)).1.length))
    else ((takeS (Mz.plainOf o.code 0).1 (s, false)).1 ++ (Mz.plainOf o.code 0).2, (takeS (Mz.plainOf o.code 0).1 (s, false)).2)
def tryS (p : List Mz.Fun) (f : Mz.Fun) (o : Mz.Op) (s : List Int) : List Int × Bool := ((tryR p f o s).1, (tryR p f o s).2 || decide (8 < (tryR p f o s).1.length))

/-- what was taken and left, put so -/
theorem try_take {p : List Mz.Fun} {f : Mz.Fun} {o : Mz.Op} {s tk lev : List Int} (h : Mz.takeLeave p f o s = some (tk, lev)) :
    Mz.tryOp p f o s = if (takeS tk (s, false)).2 || decide (8 < ((takeS tk (s, false)).1 ++ lev).length) then none else some ((takeS tk (s, false)).1 ++ lev) := by
  obtain ⟨h1, h2⟩ := takeS_law tk s
  unfold Mz.tryOp
  rw [h]; simp only
  cases hw : (takeS tk (s, false)).2 with
  | true =>
    rw [hw] at h1
    simp only [Bool.true_or, if_true]
    by_cases hl : s.length < tk.length
    · rw [if_pos hl]
    · rw [if_neg hl]
      by_cases hs : Mz.standsAll (s.drop (s.length - tk.length)) tk = false
      · rw [if_pos hs]
      · exfalso
        rw [Bool.not_eq_false] at hs
        have := h1.2 ⟨by omega, hs⟩
        cases this
  | false =>
    have ha := h1.1 hw
    rw [h2 hw, if_neg (by omega), if_neg (by rw [ha.2]; simp)]
    simp only [Bool.false_or, decide_eq_true_eq]

theorem tryS_eq {p : List Mz.Fun} {f : Mz.Fun} {o : Mz.Op} {s : List Int} (hp : Mz.ProgTy p) (hf : Mz.FunTy f) (ho : Mz.OpOk p f o) : Mz.tryOp p f o s = if (tryS p f o s).2 then none else some (tryS p f o s).1 := by
  have key : ∀ (tk lev : List Int) (r1 : List Int) (r2 : Bool), Mz.takeLeave p f o s = some (tk, lev) → r1 = (takeS tk (s, false)).1 ++ lev → r2 = (takeS tk (s, false)).2 → Mz.tryOp p f o s = if (r2 || decide (8 < r1.length)) = true then none else some r1 := by
    rintro tk lev r1 r2 h rfl rfl
    exact try_take h
  have last1 : ∀ (l : List Int), l ≠ [] → takeS (l.drop (l.length - 1)) (l, false) = (l.dropLast, false) := by
    intro l hl
    have hn : 0 < l.length := List.length_pos_iff.2 hl
    have hd : (l.drop (l.length - 1)).length = 1 := by simp; omega
    obtain ⟨h1, h2⟩ := takeS_law (l.drop (l.length - 1)) l
    have hw := h1.2 ⟨by omega, by rw [hd]; exact Mz.standsAll_refl _⟩
    have := h2 hw
    rw [hd, ← List.dropLast_eq_take] at this
    exact Prod.ext this hw
  unfold tryS tryR
  by_cases c2 : o.code = 2
  · simp only [if_pos c2]
    by_cases hl : s = []
    · subst hl
      unfold Mz.tryOp Mz.takeLeave; rw [if_pos c2]; simp
    · have hn : 0 < s.length := List.length_pos_iff.2 hl
      refine key (s.drop (s.length - 1)) [] _ _ (by unfold Mz.takeLeave; rw [if_pos c2, if_neg (by omega)]) ?_ ?_
      · rw [last1 s hl]; simp
      · rw [last1 s hl]; simp [hl]
  simp only [if_neg c2]
  by_cases c3 : o.code = 3
  · simp only [if_pos c3]
    by_cases hl : s = []
    · subst hl
      unfold Mz.tryOp Mz.takeLeave; rw [if_neg c2, if_pos c3]; simp
    · have hn : 0 < s.length := List.length_pos_iff.2 hl
      refine key (s.drop (s.length - 1)) [s.getLast!, s.getLast!] _ _ (by unfold Mz.takeLeave; rw [if_neg c2, if_pos c3, if_neg (by omega)]) ?_ ?_
      · rw [last1 s hl, Mz.getLast!_eq]; simp [hl, popL, nth]
      · rw [last1 s hl]; simp [hl]
  simp only [if_neg c3]
  by_cases c4 : o.code = 4
  · simp only [if_pos c4]
    by_cases hl : s.length < 2
    · have : Mz.tryOp p f o s = none := by unfold Mz.tryOp Mz.takeLeave; rw [if_neg c2, if_neg c3, if_pos c4, if_pos hl]
      rw [this]
      match s, hl with
      | [], _ => simp
      | [a], _ => simp
    · have hd : (s.drop (s.length - 2)).length = 2 := by simp; omega
      refine key (s.drop (s.length - 2)) [s[s.length - 1]!, s[s.length - 2]!] _ _ (by unfold Mz.takeLeave; rw [if_neg c2, if_neg c3, if_pos c4, if_neg hl]) ?_ ?_
      all_goals
        obtain ⟨h1, h2⟩ := takeS_law (s.drop (s.length - 2)) s
        have hw := h1.2 ⟨by omega, by rw [hd]; exact Mz.standsAll_refl _⟩
        have ht := h2 hw
        rw [hd] at ht
        first | rw [ht] | rw [hw]
        have e1 : s.isEmpty = false := by rw [List.isEmpty_eq_false_iff]; rintro rfl; simp at hl
        have e2 : s.dropLast.isEmpty = false := by rw [List.isEmpty_eq_false_iff]; intro h; have := congrArg List.length h; simp at this; omega
        have e3 : s.dropLast.dropLast = s.take (s.length - 2) := by
          rw [List.dropLast_eq_take, List.dropLast_eq_take, List.take_take]; congr 1; simp; omega
        have e4 : popL s = s[s.length - 1]! := by unfold popL; rw [if_neg (by rintro rfl; simp at hl)]; rfl
        have e5 : popL s.dropLast = s[s.length - 2]! := by
          unfold popL
          rw [if_neg (by intro h; rw [h] at e2; simp at e2)]
          have h6 : s.dropLast.length - 1 = s.length - 2 := by simp; omega
          rw [h6, nth_lt (by simp; omega), List.getElem_dropLast]
          rw [List.getElem!_eq_getElem?_getD, List.getElem?_eq_getElem (by omega)]; rfl
        first | (rw [e3, e4, e5]) | (rw [e1, e2]; rfl)
  simp only [if_neg c4]
  by_cases c8 : o.code = 8
  · simp only [if_pos c8]
    refine key [] [nth f.locals o.a.toNat] _ _ ?_ rfl rfl
    unfold Mz.takeLeave Mz.plainOf
    rw [if_neg c2, if_neg c3, if_neg c4, if_neg (by omega), if_neg (by omega), if_neg (by omega), if_neg (by omega), if_pos c8, if_pos (.inl c8)]; rfl
  simp only [if_neg c8]
  by_cases c9 : o.code = 9
  · simp only [if_pos c9]
    refine key [nth f.locals o.a.toNat] [] _ _ ?_ (by simp) rfl
    unfold Mz.takeLeave Mz.plainOf
    rw [if_neg c2, if_neg c3, if_neg c4, if_neg (by omega), if_neg (by omega), if_neg (by omega), if_neg (by omega), if_neg c8, if_pos c9, if_pos (.inr c9)]; rfl
  simp only [if_neg c9]
  have hres : ∀ g : Mz.Fun, Mz.FunTy g → resL g = if 0 < g.result then [g.result] else [] := by
    intro g hg
    have := hg.result
    unfold resL
    by_cases c : g.result = 0
    · rw [if_pos c, if_neg (by omega)]
    · rw [if_neg c, if_pos (by omega)]
  by_cases c12 : o.code = 12
  · simp only [if_pos c12]
    have hc := ho.call c12
    have hg := hp.funs (nth p o.a.toNat) (by rw [nth_lt (by omega)]; exact List.getElem_mem _)
    refine key _ (resL (nth p o.a.toNat)) _ _ ?_ rfl rfl
    unfold Mz.takeLeave
    rw [if_neg c2, if_neg c3, if_neg c4, if_pos c12, hres _ hg]; rfl
  simp only [if_neg c12]
  by_cases c13 : o.code = 13
  · simp only [if_pos c13]
    by_cases hl : s.length ≠ (if 0 < f.result then [f.result] else []).length
    · have : Mz.tryOp p f o s = none := by unfold Mz.tryOp Mz.takeLeave; rw [if_neg c2, if_neg c3, if_neg c4, if_neg c12, if_pos c13, if_pos hl]
      rw [this]
      obtain ⟨h1, h2⟩ := takeS_law (resL f) s
      rw [← hres f hf] at hl
      cases hw : (takeS (resL f) (s, false)).2 with
      | true => simp
      | false =>
        have ha := h1.1 hw
        rw [h2 hw]
        have : 0 < (s.take (s.length - (resL f).length)).length := by simp; omega
        simp [this]
        omega
    · have hl2 := hl
      refine (try_take (tk := resL f) (lev := []) (by unfold Mz.takeLeave; rw [if_neg c2, if_neg c3, if_neg c4, if_neg c12, if_pos c13, if_neg hl2, hres f hf])).trans ?_
      obtain ⟨h1, h2⟩ := takeS_law (resL f) s
      rw [← hres f hf, Decidable.not_not] at hl
      cases hw : (takeS (resL f) (s, false)).2 with
      | true => simp
      | false =>
        rw [h2 hw]
        have : s.take (s.length - (resL f).length) = [] := by rw [hl, Nat.sub_self]; simp
        rw [this]; simp
  simp only [if_neg c13]
  refine key (Mz.plainOf o.code 0).1 (Mz.plainOf o.code 0).2 _ _ ?_ rfl rfl
  unfold Mz.takeLeave
  rw [if_neg c2, if_neg c3, if_neg c4, if_neg c12, if_neg c13, if_neg (by omega)]
end Go.Proofs.YthdomhejkbpabaaGreat

/- Types that letters tell; the join of the reference. -/
namespace Go.Proofs.YthdomhejkbpabaaGreat
open Go.RowKit

def letter (loc : Int) (c : UInt8) : List Int := if c = 105 then [1] else if c = 114 then [2] else if c = 110 then [3] else if c = 108 then [loc] else []
def letters (loc : Int) (l : List UInt8) : List Int := l.flatMap (letter loc)
theorem letters_len (loc : Int) (l : List UInt8) : (letters loc l).length ≤ l.length := by
  induction l with
  | nil => simp [letters]
  | cons a l ih =>
    have : (letter loc a).length ≤ 1 := by unfold letter; repeat' split
                                           all_goals simp
    simp only [letters, List.flatMap_cons, List.length_append, List.length_cons] at ih ⊢; omega
def byteAt (s : List UInt8) (k : Nat) (h : k < s.length) : UInt8 := s[k]
theorem letters_snoc (loc : Int) (s : List UInt8) (k : Nat) (h : k < s.length) : letters loc (s.take (k + 1)) = letters loc (s.take k) ++ letter loc s[k] := by
  unfold letters; rw [List.take_succ_eq_append_getElem h, List.flatMap_append]; simp only [List.flatMap_cons, List.flatMap_nil, List.append_nil]
theorem plen (loc : Int) (s : List UInt8) (k : Nat) : (letters loc (s.take k)).length ≤ k := Nat.le_trans (letters_len _ _) (by simp; omega)
theorem byte_eq {c : UInt8} {n : Nat} (hn : n < 256) (h : ((c.toNat : Int) == (n : Int)) = true) : c = UInt8.ofNat n := by
  have : c.toNat = n := by have := beq_iff_eq.1 h; omega
  rw [← this]; simp
theorem byte_ne {c : UInt8} {n : Nat} (h : ((c.toNat : Int) == (n : Int)) = false) : c ≠ UInt8.ofNat n ∨ 256 ≤ n := by
  rcases Nat.lt_or_ge n 256 with hn | hn
  · left; intro e; subst e
    have := beq_eq_false_iff_ne.1 h
    simp at this; omega
  · exact .inr hn
theorem letter_i {loc : Int} {c : UInt8} (h : ((c.toNat : Int) == 105) = true) : letter loc c = [1] := by rw [byte_eq (n := 105) (by decide) h]; rfl
theorem letter_r {loc : Int} {c : UInt8} (h : ((c.toNat : Int) == 114) = true) : letter loc c = [2] := by rw [byte_eq (n := 114) (by decide) h]; rfl
theorem letter_n {loc : Int} {c : UInt8} (h : ((c.toNat : Int) == 110) = true) : letter loc c = [3] := by rw [byte_eq (n := 110) (by decide) h]; rfl
theorem letter_l {loc : Int} {c : UInt8} (h : ((c.toNat : Int) == 108) = true) : letter loc c = [loc] := by rw [byte_eq (n := 108) (by decide) h]; rfl
theorem letter_none {loc : Int} {c : UInt8} (h : ((c.toNat : Int) == 105) = false) (h' : ((c.toNat : Int) == 114) = false) (h'' : ((c.toNat : Int) == 110) = false) (h''' : ((c.toNat : Int) == 108) = false) : letter loc c = [] := by
  have a := (byte_ne (n := 105) h).resolve_right (by decide)
  have b := (byte_ne (n := 114) h').resolve_right (by decide)
  have d := (byte_ne (n := 110) h'').resolve_right (by decide)
  have e := (byte_ne (n := 108) h''').resolve_right (by decide)
  unfold letter
  rw [if_neg (by exact a), if_neg (by exact b), if_neg (by exact d), if_neg (by exact e)]
set_option maxHeartbeats 400000 in
theorem typesOf_any (s : List UInt8) (loc : Int) (w : World) (hn : s.length ≤ 1000) :
    Calls Tryz.prog 144 #[.string ⟨s.toArray⟩, .int .i64 loc] w fun e w' => ∃ r, e = .returned r ∧ RInts w' w'.heap.size r (letters loc s) ∧ Below w.heap.size w w' := by
  go_enter Tryz.func144, Tryz.ntmps144
  go_wp2
  go_loopw [5, 6] (fun r i wr => ∃ k : Nat, k ≤ s.length ∧ i = .int .i64 k ∧ wr.ownsRow w.heap.size 3 1 r (letters loc (s.take k)).length ((letters loc (s.take k)).map (Value.int .i64)) ∧ Below w.heap.size w wr) (fun _ i _ => s.length - (intOf i).toNat)
  case atStart => exact ⟨0, Nat.zero_le _, rfl, World.ownsRow_nil _ _ _ _, Below.refl _ _⟩
  case round =>
    obtain ⟨k, hk, rfl, hown, hb⟩ := hrel
    have hs := hb.size
    have HO := Lib.hid hown
    clear hown
    have hll := Lib.hid (letters_len loc (s.take k))
    by_cases hlt : k < s.length
    · clear hll
      have hsn := Lib.hid (letters_snoc loc s k hlt)
      have hpl := Lib.hid (plen loc s k)
      set_option maxRecDepth 20000 in go_wp2_with (at_builtin; refine push_int rfl rfl rfl HO.out rfl (by have := hpl.out; omega) (by omega) ?_; intro v' w' hown' hgr hb')
      all_goals go_roundw
      case rel => refine ⟨k + 1, by omega, by go_num, ?_, hb.trans hb'⟩; rw [hsn.out]; rw [letter_i (by assumption)]; simpa using hown'
      case measure => simp [intOf]; omega
      case rel => refine ⟨k + 1, by omega, by go_num, ?_, hb.trans hb'⟩; rw [hsn.out]; rw [letter_r (by assumption)]; simpa using hown'
      case measure => simp [intOf]; omega
      case rel => refine ⟨k + 1, by omega, by go_num, ?_, hb.trans hb'⟩; rw [hsn.out]; rw [letter_n (by assumption)]; simpa using hown'
      case measure => simp [intOf]; omega
      case rel => refine ⟨k + 1, by omega, by go_num, ?_, hb.trans hb'⟩; rw [hsn.out]; rw [letter_l (by assumption)]; simpa using hown'
      case measure => simp [intOf]; omega
      case rel => refine ⟨k + 1, by omega, by go_num, ?_, hb⟩; rw [hsn.out]; rw [letter_none (by assumption) (by assumption) (by assumption) (by assumption)]; simpa using HO.out
      case measure => simp [intOf]; omega
    · go_wp2
      go_ret
      have : s.take k = s := List.take_of_length_le (by omega)
      rw [this] at HO hll
      exact ⟨_, rfl, RInts.of_owns HO.out (by have := hll.out; omega), hb⟩

/-- the narrowest type that both stand for, of the first n that are tried: 3, 2, 1 -/
def jt (a b : Int) : Nat → Int
  | 0 => 0
  | n + 1 => if jt a b n = 0 ∧ Mz.stands a (3 - n) = true ∧ Mz.stands b (3 - n) = true then 3 - n else jt a b n
theorem jt_three {a b : Int} (ha : 1 ≤ a ∧ a ≤ 3) (hb : 1 ≤ b ∧ b ≤ 3) : jt a b 3 = Mz.joinT a b := by
  obtain rfl | rfl | rfl : a = 1 ∨ a = 2 ∨ a = 3 := by omega
  all_goals
    obtain rfl | rfl | rfl : b = 1 ∨ b = 2 ∨ b = 3 := by omega
    all_goals decide

set_option maxHeartbeats 1000000 in
theorem refJoin_any (u v : Value) (a b : List Int) (B : Nat) (w : World) (ha : RInts w B u a) (hb : RInts w B v b) (hB : B ≤ w.heap.size) (hn : a.length ≤ 1000) (hta : Mz.TyL a) (htb : Mz.TyL b) :
    Calls Tryz.prog 110 #[u, v] w fun e w' => ListOr w.heap.size w' e (Mz.joinL a b) ∧ Below w.heap.size w w' := by
  obtain ⟨ao, c, rfl, h1, h2, h3⟩ := ha.open
  obtain ⟨bo, d, rfl, k1, k2, k3⟩ := hb.open
  unfold maxLen at h2 k2
  have HA := Lib.hid hta
  have HB := Lib.hid htb
  clear hta htb
  by_cases hl : a.length = b.length
  · have hl' : ((a.length : Int) != b.length) = false := by simp [hl]
    have HL := Lib.hid hl
    clear hl
    go_enter Tryz.func110, Tryz.ntmps110
    go_wp2
    go_loopw [6, 7] (fun r i wr => ∃ (k : Nat) (l : List Int), k ≤ a.length ∧ i = .int .i64 k ∧ JoinTo a b k l ∧ wr.ownsRow w.heap.size 3 1 r l.length (l.map (Value.int .i64)) ∧ Below w.heap.size w wr) (fun _ i _ => a.length - (intOf i).toNat)
    case atStart => exact ⟨0, [], Nat.zero_le _, rfl, rfl, World.ownsRow_nil _ _ _ _, Below.refl _ _⟩
    case round =>
      obtain ⟨k, l, hk, rfl, hj, hown, hbl⟩ := hrel
      have HO := Lib.hid hown
      clear hown
      have hs := hbl.size
      have hll := hj.len
      by_cases hlt : k < a.length
      · have hlt2 : k < b.length := by have := HL.out; omega
        obtain ⟨ab, ax, rfl, aB, ac⟩ := ha.at hlt
        obtain ⟨bb, bx, rfl, bB, bc⟩ := hb.at hlt2
        obtain ⟨hc, hfz⟩ := bcell hbl
        have g1 : ab < w.heap.size := by omega
        have g2 : bb < w.heap.size := by omega
        have hty : Hid (jt (nth a k) (nth b k) 3 = Mz.joinT (nth a k) (nth b k)) := jt_three (HA.out _ (by rw [nth_lt hlt]; exact List.getElem_mem _)) (HB.out _ (by rw [nth_lt hlt2]; exact List.getElem_mem _))
        go_wp2
        obtain ⟨wo, rfl⟩ : ∃ wo : World, wo = wr := ⟨_, rfl⟩
        go_loop [8, 9] (fun t x => ∃ n : Nat, n ≤ 3 ∧ x = .int .i64 (3 - (n : Int)) ∧ t = .int .i64 (jt (nth a k) (nth b k) n)) (fun _ x => (intOf x).toNat)
        case atStart => exact ⟨0, by omega, rfl, rfl⟩
        case round =>
          obtain ⟨n, hn3, rfl, rfl⟩ := hrel
          by_cases hn : n < 3
          · by_cases e0 : jt (nth a k) (nth b k) n = 0
            · have e0' : (jt (nth a k) (nth b k) n == 0) = true := by simp [e0]
              have E0 := Lib.hid e0
              clear e0
              cases e1 : Mz.stands (nth a k) (3 - (n : Int)) with
              | false =>
                have hst : Hid (jt (nth a k) (nth b k) (n + 1) = jt (nth a k) (nth b k) n) := by unfold Hid; rw [jt, if_neg (by rw [e1]; simp)]
                go_wp2_with (go_at_call 145; refine (refDoesStand_any _ _ _).mono ?_; rintro e w' ⟨rfl, rfl⟩)
                go_round
                case rel => exact ⟨n + 1, by omega, by congr 1; omega, by rw [hst.out]⟩
                case measure => simp [intOf]; omega
              | true =>
                cases e2 : Mz.stands (nth b k) (3 - (n : Int)) with
                | false =>
                  have hst : Hid (jt (nth a k) (nth b k) (n + 1) = jt (nth a k) (nth b k) n) := by unfold Hid; rw [jt, if_neg (by rw [e2]; simp)]
                  go_wp2_with (go_at_call 145; refine (refDoesStand_any _ _ _).mono ?_; rintro e w' ⟨rfl, rfl⟩)
                  go_round
                  case rel => exact ⟨n + 1, by omega, by congr 1; omega, by rw [hst.out]⟩
                  case measure => simp [intOf]; omega
                | true =>
                  have hst : Hid (jt (nth a k) (nth b k) (n + 1) = 3 - n) := by unfold Hid; rw [jt, if_pos ⟨E0.out, e1, e2⟩]
                  go_wp2_with (go_at_call 145; refine (refDoesStand_any _ _ _).mono ?_; rintro e w' ⟨rfl, rfl⟩)
                  go_round
                  case rel => exact ⟨n + 1, by omega, by congr 1; omega, by rw [hst.out]⟩
                  case measure => simp [intOf]; omega
            · have e0' : (jt (nth a k) (nth b k) n == 0) = false := by simp [e0]
              have hst : Hid (jt (nth a k) (nth b k) (n + 1) = jt (nth a k) (nth b k) n) := by unfold Hid; rw [jt, if_neg (fun h => e0 h.1)]
              clear e0
              go_wp2
              go_round
              case rel => exact ⟨n + 1, by omega, by congr 1; omega, by rw [hst.out]⟩
              case measure => simp [intOf]; omega
          · obtain rfl : n = 3 := by omega
            by_cases he : Mz.joinT (nth a k) (nth b k) = 0
            · have he' : (jt (nth a k) (nth b k) 3 == 0) = true := by rw [hty.out]; simp [he]
              have hjn := Lib.hid (hj.stop HL.out hlt he)
              clear he
              go_wp2
              go_ret2
              exact ⟨⟨_, by rw [hjn.out]; rfl, by rw [hjn.out]; exact FInts.nil _ _⟩, hbl⟩
            · have he' : (jt (nth a k) (nth b k) 3 == 0) = false := by rw [hty.out]; simp [he]
              have HE := Lib.hid he
              clear he
              go_wp2_with (at_builtin; refine push_int rfl rfl rfl HO.out rfl (by omega) (by simpa using hs) ?_; intro v' w' hown' hgr hb')
              rw [hty.out] at hown'
              go_roundw
              case rel => exact ⟨k + 1, _, by omega, by go_num, hj.succ hlt hlt2 HE.out, by simpa using hown', hbl.trans hb'⟩
              case measure => simp [intOf]; omega
      · have hjn := Lib.hid (hj.end HL.out hlt)
        go_wp2
        go_ret2
        exact ⟨⟨_, by rw [hjn.out]; rfl, by rw [hjn.out]; exact FInts.of_owns HO.out (by omega)⟩, hbl⟩
  · have hl' : ((a.length : Int) != b.length) = true := by rw [bne_iff_ne]; omega
    have hne : Hid (Mz.joinL a b = none) := by
      cases hj : Mz.joinL a b with
      | none => exact rfl
      | some j => exact absurd (Mz.joinL_len hj).2.symm hl
    clear hl
    go_enter Tryz.func110, Tryz.ntmps110
    go_wp2
    go_ret2
    exact ⟨⟨_, by rw [hne.out]; rfl, by rw [hne.out]; exact FInts.nil _ _⟩, Below.refl _ _⟩
end Go.Proofs.YthdomhejkbpabaaGreat
