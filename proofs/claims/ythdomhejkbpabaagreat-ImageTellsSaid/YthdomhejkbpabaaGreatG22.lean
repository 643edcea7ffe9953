/- Lemmas: RefCheck, Bytes, Image, Writer, Writer2. -/
import Derived.Test.YthdomhejkbpabaaGreatG21
import Derived.Laws.IdiomStrings
import Derived.Lib.AppendStr
import Derived.Test.YthdomhejkbpabaaGreatG07
import Derived.Deep.RegionLaw
import Derived.Deep.RegionWith
set_option linter.unusedVariables false
set_option linter.unusedSimpArgs false
/- The reference's check of a machine, whole. -/
namespace Go.Proofs.YthdomhejkbpabaaGreat
open Go.RowKit

theorem refRight_any (pv mv : Value) (p : List Mz.Fun) (m : Mz.Mach) (B : Nat) (w : World) (hB : B ≤ w.heap.size) (hp : RProg w B pv p) (hm : RMach w B mv m) (hfit : Mz.checkFits p = 0) :
    Calls Tryz.prog 19 #[pv, mv] w fun e w' => e = .returned (.int .i64 (Mz.checkRight p m)) ∧ Below w.heap.size w w' := by
  cases h1 : Mz.btw m.status 0 3 with
  | false => exact refRight_low pv mv p m B w hB hp hm (.inl h1)
  | true =>
    cases h2 : Mz.trapOk m with
    | false => exact refRight_low pv mv p m B w hB hp hm (.inr (.inl h2))
    | true =>
      by_cases h3 : Mz.checkBlocks m.blocks = 0
      · exact refRight_high pv mv p m B w hB hp hm hfit h1 h2 h3
      · exact refRight_low pv mv p m B w hB hp hm (.inr (.inr h3))

set_option maxHeartbeats 1000000 in
set_option maxRecDepth 100000 in
theorem refCheck_any (pv mv : Value) (p : List Mz.Fun) (m : Mz.Mach) (B : Nat) (w : World) (hB : B ≤ w.heap.size) (hp : RProg w B pv p) (hm : RMach w B mv m) :
    Calls Tryz.prog 15 #[pv, mv] w fun e w' => e = .returned (.int .i64 (Mz.checkMach p m)) ∧ Below w.heap.size w w' := by
  have HP : Hid (RProg w B pv p) := hp
  have HM : Hid (RMach w B mv m) := hm
  obtain ⟨fp, rfl, hp⟩ := hp
  obtain ⟨fv, bv, iv, ov, rfl, hf, hbl, hi, ho⟩ := hm
  obtain ⟨fo, fc, rfl, _, _, _⟩ := hf.open
  obtain ⟨bo, bc, rfl, _, _, _⟩ := hbl.open
  obtain ⟨io, ic, rfl, _, _, _⟩ := hi.open
  obtain ⟨oo, oc, rfl, _, _, _⟩ := ho.open
  obtain ⟨po, pc, rfl, _, _, _⟩ := hp.open
  clear hf hbl hi ho hp
  go_enter Tryz.func15, Tryz.ntmps15
  go_wp2_with fail
  have hb2 : Below w.heap.size w ((w.alloc (.cells #[.slice po p.length pc] 24)).alloc (.cells #[.slice fo m.frames.length fc, .slice bo m.blocks.length bc, .slice io m.inp.length ic, .slice oo m.out.length oc, .int .i64 m.status, .int .i64 m.trap] 29)) :=
    ((Below.refl _ _).alloc (Nat.le_refl _) _).alloc (by simp) _
  refine (refCheckFits_any _ p B _ (by simp; omega) (HP.out.frame (hb2.mono hB))).mono ?_
  rintro e w3 ⟨rfl, hb3⟩
  have BX := (Boxes2.made w fo bo io oo po fc bc ic oc pc p m).frame hb3
  have HB3 := Lib.hid (hb2.trans (hb3.mono (by simp; omega)))
  obtain ⟨_, k0, k1, k2, k3, k4, k5, k6⟩ := BX
  clear hb2 hb3
  by_cases hfit : Mz.checkFits p = 0
  · have HFIT := Lib.hid hfit
    have d : (Mz.checkFits p == 0) = true := by simpa using hfit
    clear hfit
    go_wp2_with fail
    refine (refRight_any _ _ p m B _ (Nat.le_trans hB HB3.out.size) (HP.out.frame (HB3.out.mono hB)) (HM.out.frame (HB3.out.mono hB)) HFIT.out).mono ?_
    rintro e w4 ⟨rfl, hb4⟩
    have HB4 := Lib.hid (via0 HB3.out HB3.out.size hb4)
    clear hb4
    go_wp2_with fail
    go_ret
    exact ⟨ret_int (by rw [check_fits HFIT.out]), HB4.out⟩
  · have HFIT := Lib.hid hfit
    have d : (Mz.checkFits p == 0) = false := by simpa using hfit
    clear hfit
    go_wp2_with fail
    go_ret
    exact ⟨ret_int (by rw [check_not HFIT.out]), HB3.out⟩
end Go.Proofs.YthdomhejkbpabaaGreat

/- Bytes of numbers, of the program and of the reference. -/
namespace Go.Proofs.YthdomhejkbpabaaGreat
open Go.RowKit

/-- a string of bytes; simp does not look behind this name -/
def Str (l : List UInt8) : Value := .string ⟨l.toArray⟩
def byteV (b : UInt8) : Value := .int .u8 (b.toNat : Int)

theorem conv_bytes (w : World) (l : List UInt8) (cs : Array Value) (h : cs.toList = l.map byteV) : (convert 132 9 (.slice (some ⟨w.heap.size, 0, none⟩) l.length l.length)).run Tryz.prog (w.alloc (.cells cs 5)) = .ok (Str l) (w.alloc (.cells cs 5)) := by
  refine run_convert_bytes_back _ 132 9 5 _ _ l Tryz.underlying132 Tryz.underlying5 Tryz.underlying9 fun j hj => ?_
  rw [Addr.add_lit]
  refine cell_at rfl ?_
  rw [Nat.zero_add, ← Array.getElem?_toList, h, List.getElem?_map, List.getElem?_eq_getElem hj]; rfl
theorem conv1 (w : World) (x : Int) (b : UInt8) (h : x = b.toNat) : (convert 132 9 (.slice (some ⟨w.heap.size, 0, none⟩) 1 1)).run Tryz.prog (w.alloc (.cells #[.int .u8 x] 5)) = .ok (Str [b]) (w.alloc (.cells #[.int .u8 x] 5)) :=
  conv_bytes w [b] _ (by rw [h]; rfl)
theorem conv4 (w : World) (x y z u : Int) (a b c d : UInt8) (h1 : x = a.toNat) (h2 : y = b.toNat) (h3 : z = c.toNat) (h4 : u = d.toNat) : (convert 132 9 (.slice (some ⟨w.heap.size, 0, none⟩) 4 4)).run Tryz.prog (w.alloc (.cells #[.int .u8 x, .int .u8 y, .int .u8 z, .int .u8 u] 5)) = .ok (Str [a, b, c, d]) (w.alloc (.cells #[.int .u8 x, .int .u8 y, .int .u8 z, .int .u8 u] 5)) :=
  conv_bytes w [a, b, c, d] _ (by rw [h1, h2, h3, h4]; rfl)

set_option maxHeartbeats 400000 in
set_option maxRecDepth 100000 in
theorem oneByte_any (n : Int) (w : World) : Calls Tryz.prog 60 #[.int .i64 n] w fun e w' => e = .returned (Str [Mz.byteOf n]) ∧ Below w.heap.size w w' := by
  have hc := conv1 w (n % 256) (Mz.byteOf n) (Mz.byteOf_toNat n).symm
  go_enter Tryz.func60, Tryz.ntmps60
  go_wp2_with fail
  go_ret
  exact ⟨rfl, (Below.refl _ _).alloc (Nat.le_refl _) _⟩
set_option maxHeartbeats 400000 in
set_option maxRecDepth 100000 in
theorem opFour_any (n : Int) (w : World) : Calls Tryz.prog 129 #[.int .i64 n] w fun e w' => e = .returned (Str (Mz.fourOf n)) ∧ Below w.heap.size w w' := by
  have hw : wrap32 n % 256 = n % 256 := by unfold wrap32; omega
  have hc := conv4 w (wrap32 n % 4294967296 / 16777216) (wrap32 n % 4294967296 / 65536 % 256) (wrap32 n % 4294967296 / 256 % 256) (wrap32 n % 256) (Mz.byteOf (n / 16777216)) (Mz.byteOf (n / 65536)) (Mz.byteOf (n / 256)) (Mz.byteOf n)
    (by rw [Mz.byteOf_toNat]; unfold wrap32; omega) (by rw [Mz.byteOf_toNat]; unfold wrap32; omega) (by rw [Mz.byteOf_toNat]; unfold wrap32; omega) (by rw [Mz.byteOf_toNat]; exact hw)
  clear hw
  go_enter Tryz.func129, Tryz.ntmps129
  go_wp2_with fail
  go_ret
  exact ⟨rfl, (Below.refl _ _).alloc (Nat.le_refl _) _⟩
set_option maxHeartbeats 400000 in
set_option maxRecDepth 100000 in
theorem refFour_any (n : Int) (hn : Mz.isInt n = true) (w : World) : Calls Tryz.prog 111 #[.int .i64 n] w fun e w' => e = .returned (Str (Mz.fourOf n)) ∧ Below w.heap.size w w' := by
  unfold Mz.isInt at hn
  rw [Mz.btw_iff] at hn
  obtain ⟨h1, h2⟩ := hn
  by_cases h0 : n < 0
  · have hc := conv4 w ((n + 4294967296) / 16777216) ((n + 4294967296) / 65536 % 256) ((n + 4294967296) / 256 % 256) ((n + 4294967296) % 256) (Mz.byteOf (n / 16777216)) (Mz.byteOf (n / 65536)) (Mz.byteOf (n / 256)) (Mz.byteOf n)
      (by rw [Mz.byteOf_toNat]; omega) (by rw [Mz.byteOf_toNat]; omega) (by rw [Mz.byteOf_toNat]; omega) (by rw [Mz.byteOf_toNat]; omega)
    go_enter Tryz.func111, Tryz.ntmps111
    go_wp2_with fail
    go_ret
    exact ⟨rfl, (Below.refl _ _).alloc (Nat.le_refl _) _⟩
  · have hc := conv4 w (n / 16777216) (n / 65536 % 256) (n / 256 % 256) (n % 256) (Mz.byteOf (n / 16777216)) (Mz.byteOf (n / 65536)) (Mz.byteOf (n / 256)) (Mz.byteOf n)
      (by rw [Mz.byteOf_toNat]; omega) (by rw [Mz.byteOf_toNat]) (by rw [Mz.byteOf_toNat]) (by rw [Mz.byteOf_toNat])
    go_enter Tryz.func111, Tryz.ntmps111
    go_wp2_with fail
    go_ret
    exact ⟨rfl, (Below.refl _ _).alloc (Nat.le_refl _) _⟩

/-- strings, one behind the other -/
theorem str_add (a b : List UInt8) (h : a.length + b.length ≤ 1000000) (w : World) : (binOp .add 9 (Str a) (Str b)).run Tryz.prog w = .ok (Str (a ++ b)) w := by
  unfold Str
  simp only [binOp, Op.stringOp]
  have e : ({ data := a.toArray } : ByteArray) ++ { data := b.toArray } = { data := (a ++ b).toArray } := by
    apply ByteArray.ext; simp
  have h1 : ({ data := a.toArray } : ByteArray).size = a.length := by simp [ByteArray.size]
  have h2 : ({ data := b.toArray } : ByteArray).size = b.length := by simp [ByteArray.size]
  simp [h1, h2, e, Sem.run_pure]
  omega
theorem str_add1 (b : List UInt8) (h : b.length ≤ 1000) (w : World) : (binOp .add 9 (.string { data := #[1] }) (Str b)).run Tryz.prog w = .ok (Str (1 :: b)) w := str_add [1] b (by simp; omega) w
theorem str_add0 (b : List UInt8) (h : b.length ≤ 1000) (w : World) : (binOp .add 9 (.string { data := #[0] }) (Str b)).run Tryz.prog w = .ok (Str (0 :: b)) w := str_add [0] b (by simp; omega) w

theorem flat_take {α : Type} [Inhabited α] {f : α → List UInt8} {l : List α} {k : Nat} (h : k < l.length) : (l.take (k + 1)).flatMap f = (l.take k).flatMap f ++ f (nth l k) := by
  rw [List.take_succ_eq_append_getElem h, List.flatMap_append, nth_lt h]; simp
/-- what has been written of a list's first k -/
def someTo {α : Type} (f : α → List UInt8) (l : List α) (k : Nat) : List UInt8 := Mz.byteOf l.length :: (l.take k).flatMap f
theorem someTo_succ {α : Type} [Inhabited α] {f : α → List UInt8} {l : List α} {k : Nat} (h : k < l.length) : someTo f l (k + 1) = someTo f l k ++ f (nth l k) := by unfold someTo; rw [flat_take h]; rfl
theorem someTo_len {α : Type} {f : α → List UInt8} {l : List α} {c : Nat} (hf : ∀ x, (f x).length ≤ c) (k : Nat) : (someTo f l k).length ≤ 1 + k * c := by
  have h : ∀ l : List α, (l.flatMap f).length ≤ l.length * c := by
    intro l
    induction l with
    | nil => simp
    | cons a l ih => simp only [List.flatMap_cons, List.length_append, List.length_cons, Nat.add_mul]; have := hf a; omega
  unfold someTo
  have h1 := h (l.take k)
  have h2 : (l.take k).length * c ≤ k * c := Nat.mul_le_mul_right _ (by simp; omega)
  simp only [List.length_cons]; omega
theorem someTo_end {α : Type} {f : α → List UInt8} {l : List α} : someTo f l l.length = Mz.someB f l := by unfold someTo Mz.someB; rw [List.take_of_length_le (Nat.le_refl _)]

set_option maxHeartbeats 1000000 in
set_option maxRecDepth 100000 in
theorem numbersBytes_any (v : Value) (l : List Int) (B : Nat) (w : World) (h : RInts w B v l) (hB : B ≤ w.heap.size) (hi : ∀ n ∈ l, Mz.isInt n = true) (hl : l.length ≤ 1000) :
    Calls Tryz.prog 61 #[v] w fun e w' => e = .returned (Str (Mz.numbersB l)) ∧ Below w.heap.size w w' := by
  obtain ⟨ao, c, rfl, h1, h2, h3⟩ := h.open
  unfold maxLen at h2
  have H := Lib.hid h
  have HI : Hid (∀ n ∈ l, Mz.isInt n = true) := hi
  clear h hi
  go_enter Tryz.func61, Tryz.ntmps61
  go_wp2_with fail
  refine (oneByte_any _ _).mono ?_
  rintro e w1 ⟨rfl, hb1⟩
  have HB1 := Lib.hid hb1
  clear hb1
  go_wp2_with fail
  go_loopw [3, 4] (fun s i wr => ∃ k : Nat, k ≤ l.length ∧ i = .int .i64 k ∧ s = Str (someTo Mz.fourOf l k) ∧ Below w.heap.size w wr) (fun _ i _ => l.length - (intOf i).toNat)
  case atStart => exact ⟨0, Nat.zero_le _, rfl, rfl, HB1.out⟩
  case round =>
    obtain ⟨k, hk, rfl, rfl, hbw⟩ := hrel
    have HBW := Lib.hid hbw
    by_cases hlt : k < l.length
    · obtain ⟨b, o, rfl, hbB, cell⟩ := (H.out.frame (hbw.mono hB)).at hlt
      have hs := Lib.hid (someTo_succ (f := Mz.fourOf) hlt)
      have hbs : b < wr.heap.size := by have := hbw.size; omega
      have hadd := str_add (someTo Mz.fourOf l k) (Mz.fourOf (nth l k)) (by have := someTo_len (l := l) (f := Mz.fourOf) (c := 4) (fun x => Nat.le_refl _) k; simp only [Mz.fourOf, List.length_cons, List.length_nil]; omega)
      clear hbw
      go_wp2_with fail
      refine (refFour_any _ (HI.out _ (nth_mem hlt)) _).mono ?_
      rintro e w2 ⟨rfl, hb2⟩
      have HB2 := Lib.hid (via0 HBW.out HBW.out.size hb2)
      clear hb2
      go_wp2_with fail
      go_roundw
      case rel => exact ⟨k + 1, by omega, by go_num, by rw [hs.out], HB2.out⟩
      case measure => simp [intOf]; omega
    · obtain rfl : k = l.length := by omega
      go_wp2_with fail
      go_ret
      exact ⟨by rw [someTo_end]; rfl, HBW.out⟩
end Go.Proofs.YthdomhejkbpabaaGreat

/- A machine's bytes, of the reference. -/
namespace Go.Proofs.YthdomhejkbpabaaGreat
open Go.RowKit

theorem valB_len (v : Mz.Val) : (Mz.valB v).length ≤ 5 := by simp [Mz.valB, Mz.fourOf]
theorem four_len (n : Int) : (Mz.fourOf n).length ≤ 4 := by simp [Mz.fourOf]
theorem valB_true (v : Mz.Val) (h : v.ref = true) : Mz.valB v = 1 :: Mz.fourOf v.n := by unfold Mz.valB; rw [h]; rfl
theorem valB_false (v : Mz.Val) (h : v.ref = false) : Mz.valB v = 0 :: Mz.fourOf v.n := by unfold Mz.valB; rw [h]; rfl

set_option maxHeartbeats 1000000 in
set_option maxRecDepth 100000 in
theorem valuesBytes_any (v : Value) (l : List Mz.Val) (B : Nat) (w : World) (h : RVals w B v l) (hB : B ≤ w.heap.size) (hi : ∀ x ∈ l, Mz.isInt x.n = true) (hl : l.length ≤ 1000) :
    Calls Tryz.prog 62 #[v] w fun e w' => e = .returned (Str (Mz.valuesB l)) ∧ Below w.heap.size w w' := by
  obtain ⟨ao, c, rfl, h1, h2, h3⟩ := h.open
  unfold maxLen at h2
  have H := Lib.hid h
  have HI : Hid (∀ x ∈ l, Mz.isInt x.n = true) := hi
  clear h hi
  go_enter Tryz.func62, Tryz.ntmps62
  go_wp2_with fail
  refine (oneByte_any _ _).mono ?_
  rintro e w1 ⟨rfl, hb1⟩
  have HB1 := Lib.hid hb1
  clear hb1
  go_wp2_with fail
  go_loopw [3, 4] (fun s i wr => ∃ k : Nat, k ≤ l.length ∧ i = .int .i64 k ∧ s = Str (someTo Mz.valB l k) ∧ Below w.heap.size w wr) (fun _ i _ => l.length - (intOf i).toNat)
  case atStart => exact ⟨0, Nat.zero_le _, rfl, rfl, HB1.out⟩
  case round =>
    obtain ⟨k, hk, rfl, rfl, hbw⟩ := hrel
    have HBW := Lib.hid hbw
    by_cases hlt : k < l.length
    · obtain ⟨b, o, rfl, hbB, c0, c1⟩ := (H.out.frame (hbw.mono hB)).at hlt
      have hs := Lib.hid (someTo_succ (f := Mz.valB) hlt)
      have hbs : b < wr.heap.size := by have := hbw.size; omega
      obtain ⟨x, hx⟩ : ∃ x, x = nth l k := ⟨_, rfl⟩
      rw [← hx] at c0 c1 hs
      have hint : Mz.isInt x.n = true := by rw [hx]; exact HI.out _ (nth_mem hlt)
      have HINT := Lib.hid hint
      have hlen := someTo_len (l := l) (f := Mz.valB) (c := 5) valB_len k
      have hlen4 := four_len x.n
      clear hbw hx hint
      cases hr : x.ref with
      | true =>
        have hadd := str_add (someTo Mz.valB l k) (1 :: Mz.fourOf x.n) (by simp only [List.length_cons]; omega)
        have hadd1 := str_add1 (Mz.fourOf x.n) (by omega)
        have HVB := Lib.hid (valB_true x hr)
        rw [hr] at c0
        clear hr hlen hlen4
        go_wp2_with fail
        refine (refFour_any _ HINT.out _).mono ?_
        rintro e w2 ⟨rfl, hb2⟩
        have HB2 := Lib.hid (via0 HBW.out HBW.out.size hb2)
        clear hb2
        go_wp2_with fail
        go_roundw
        case rel => exact ⟨k + 1, by omega, by go_num, by rw [hs.out, HVB.out], HB2.out⟩
        case measure => simp [intOf]; omega
      | false =>
        have hadd := str_add (someTo Mz.valB l k) (0 :: Mz.fourOf x.n) (by simp only [List.length_cons]; omega)
        have hadd1 := str_add0 (Mz.fourOf x.n) (by omega)
        have HVB := Lib.hid (valB_false x hr)
        rw [hr] at c0
        clear hr hlen hlen4
        go_wp2_with fail
        refine (refFour_any _ HINT.out _).mono ?_
        rintro e w2 ⟨rfl, hb2⟩
        have HB2 := Lib.hid (via0 HBW.out HBW.out.size hb2)
        clear hb2
        go_wp2_with fail
        go_roundw
        case rel => exact ⟨k + 1, by omega, by go_num, by rw [hs.out, HVB.out], HB2.out⟩
        case measure => simp [intOf]; omega
    · obtain rfl : k = l.length := by omega
      go_wp2_with fail
      go_ret
      exact ⟨by rw [someTo_end]; rfl, HBW.out⟩

theorem someTo_len' {α : Type} {f : α → List UInt8} {l : List α} {c : Nat} (hf : ∀ x ∈ l, (f x).length ≤ c) (k : Nat) : (someTo f l k).length ≤ 1 + k * c := by
  have h : ∀ l : List α, (∀ x ∈ l, (f x).length ≤ c) → (l.flatMap f).length ≤ l.length * c := by
    intro l
    induction l with
    | nil => simp
    | cons a l ih =>
      intro hf
      simp only [List.flatMap_cons, List.length_append, List.length_cons, Nat.add_mul]
      have := hf a (List.mem_cons_self ..)
      have := ih (fun x hx => hf x (List.mem_cons_of_mem _ hx))
      omega
  unfold someTo
  have h1 := h (l.take k) (fun x hx => hf x (List.mem_of_mem_take hx))
  have h2 : (l.take k).length * c ≤ k * c := Nat.mul_le_mul_right _ (by simp; omega)
  simp only [List.length_cons]; omega
theorem numbersB_len {l : List Int} : (Mz.numbersB l).length ≤ 1 + l.length * 4 := by
  have := someTo_len (l := l) (f := Mz.fourOf) (c := 4) four_len l.length; rw [someTo_end] at this; exact this
theorem valuesB_len {l : List Mz.Val} : (Mz.valuesB l).length ≤ 1 + l.length * 5 := by
  have := someTo_len (l := l) (f := Mz.valB) (c := 5) valB_len l.length; rw [someTo_end] at this; exact this
theorem frmB_len {x : Mz.Frm} (h : Mz.frmFits x) : (Mz.frmB x).length ≤ 2600 := by
  obtain ⟨_, _, h3, h4⟩ := h
  unfold Mz.frmB
  simp only [List.length_cons, List.length_append]
  have := valuesB_len (l := x.locals)
  have := valuesB_len (l := x.stack)
  omega
/-- bytes up to the blocks, and up to the frames -/
def headB (m : Mz.Mach) : List UInt8 := Mz.byteOf m.status :: Mz.byteOf m.trap :: (Mz.numbersB m.inp ++ Mz.numbersB m.out)
def blocksTo (m : Mz.Mach) (k : Nat) : List UInt8 := headB m ++ someTo Mz.numbersB m.blocks k
def framesTo (m : Mz.Mach) (k : Nat) : List UInt8 := headB m ++ Mz.someB Mz.numbersB m.blocks ++ someTo Mz.frmB m.frames k
theorem framesTo_end (m : Mz.Mach) : framesTo m m.frames.length = Mz.imageOf m := by
  unfold framesTo headB; rw [someTo_end]; unfold Mz.imageOf Mz.someB
  simp only [List.cons_append, List.append_assoc]

set_option maxHeartbeats 4000000 in
set_option maxRecDepth 100000 in
theorem imageOf_any (mv : Value) (m : Mz.Mach) (B : Nat) (w : World) (h : RMach w B mv m) (hB : B ≤ w.heap.size) (hf : Mz.machFits m) (hi10 : m.inp.length ≤ 10) (ho10 : m.out.length ≤ 10) :
    Calls Tryz.prog 17 #[mv] w fun e w' => e = .returned (Str (Mz.imageOf m)) ∧ Below w.heap.size w w' := by
  obtain ⟨fv, bv, iv, ov, rfl, hfr, hbl, hin, hout⟩ := h
  have HFR := Lib.hid hfr
  have HBL := Lib.hid hbl
  have HI := Lib.hid hin
  have HO := Lib.hid hout
  obtain ⟨fo, fc, rfl, f1, f2, f3⟩ := hfr.open
  obtain ⟨bo, bc, rfl, b1, b2, b3⟩ := hbl.open
  obtain ⟨io, ic, rfl, i1, i2, i3⟩ := hin.open
  obtain ⟨oo, oc, rfl, o1, o2, o3⟩ := hout.open
  unfold maxLen at f2 b2 i2 o2
  obtain ⟨m1, m2, m3, m4, m5, m6⟩ := hf
  have M3 := Lib.hid m3
  have M4 := Lib.hid m4
  have M5 := Lib.hid m5
  have M6 := Lib.hid m6
  clear hfr hbl hin hout m1 m2 m3 m4 m5 m6
  go_enter Tryz.func17, Tryz.ntmps17
  go_wp2_with fail
  obtain ⟨w1, hw1⟩ : ∃ w1, w1 = w.alloc (.cells #[.slice fo m.frames.length fc, .slice bo m.blocks.length bc, .slice io m.inp.length ic, .slice oo m.out.length oc, .int .i64 m.status, .int .i64 m.trap] 29) := ⟨_, rfl⟩
  have k0 : w1.cell? ⟨w.heap.size, 0, none⟩ = some (.slice fo m.frames.length fc) := by rw [hw1]; exact cell_at rfl rfl
  have k1 : w1.cell? ⟨w.heap.size, 1, none⟩ = some (.slice bo m.blocks.length bc) := by rw [hw1]; exact cell_at rfl rfl
  have k2 : w1.cell? ⟨w.heap.size, 2, none⟩ = some (.slice io m.inp.length ic) := by rw [hw1]; exact cell_at rfl rfl
  have k3 : w1.cell? ⟨w.heap.size, 3, none⟩ = some (.slice oo m.out.length oc) := by rw [hw1]; exact cell_at rfl rfl
  have k4 : w1.cell? ⟨w.heap.size, 4, none⟩ = some (.int .i64 m.status) := by rw [hw1]; exact cell_at rfl rfl
  have k5 : w1.cell? ⟨w.heap.size, 5, none⟩ = some (.int .i64 m.trap) := by rw [hw1]; exact cell_at rfl rfl
  have hN : w.heap.size < w1.heap.size := by rw [hw1]; simp
  have HB1 : Hid (Below w.heap.size w w1) := by unfold Hid; rw [hw1]; exact (Below.refl _ _).alloc (Nat.le_refl _) _
  rw [← hw1]
  clear hw1
  have HBA : Hid (Below w1.heap.size w1 w1.drew) := (Below.refl _ _).drew
  have hli : (Mz.numbersB m.inp).length ≤ 41 := by have := someTo_len (l := m.inp) (f := Mz.fourOf) (c := 4) four_len m.inp.length; rw [someTo_end] at this; have e : Mz.someB Mz.fourOf m.inp = Mz.numbersB m.inp := rfl; rw [e] at this; omega
  have hlo : (Mz.numbersB m.out).length ≤ 41 := by have := someTo_len (l := m.out) (f := Mz.fourOf) (c := 4) four_len m.out.length; rw [someTo_end] at this; have e : Mz.someB Mz.fourOf m.out = Mz.numbersB m.out := rfl; rw [e] at this; omega
  have HH : Hid ((headB m).length ≤ 84) := by unfold Hid headB; simp only [List.length_cons, List.length_append]; omega
  have a1 := str_add [Mz.byteOf m.status] [Mz.byteOf m.trap] (by simp)
  have a2 := str_add ([Mz.byteOf m.status] ++ [Mz.byteOf m.trap]) (Mz.numbersB m.inp) (by simp; omega)
  have a3 := str_add ([Mz.byteOf m.status] ++ [Mz.byteOf m.trap] ++ Mz.numbersB m.inp) (Mz.numbersB m.out) (by simp; omega)
  have a4 := str_add ([Mz.byteOf m.status] ++ [Mz.byteOf m.trap] ++ Mz.numbersB m.inp ++ Mz.numbersB m.out) [Mz.byteOf m.blocks.length] (by simp; omega)
  have e0 : [Mz.byteOf m.status] ++ [Mz.byteOf m.trap] ++ Mz.numbersB m.inp ++ Mz.numbersB m.out ++ [Mz.byteOf m.blocks.length] = blocksTo m 0 := by unfold blocksTo headB someTo; simp
  rw [e0] at a4
  generalize [Mz.byteOf m.status] ++ [Mz.byteOf m.trap] ++ Mz.numbersB m.inp ++ Mz.numbersB m.out = L3 at a3 a4
  generalize [Mz.byteOf m.status] ++ [Mz.byteOf m.trap] ++ Mz.numbersB m.inp = L2 at a2 a3
  generalize [Mz.byteOf m.status] ++ [Mz.byteOf m.trap] = L1 at a1 a2
  clear hli hlo e0
  have HBs := Lib.hid (Nat.le_trans hB HB1.out.size)
  have HI1 := Lib.hid (fun w' (h : Below w1.heap.size w1 w') => (HI.out.frame (HB1.out.mono hB)).frame (h.mono HBs.out))
  have HO1 := Lib.hid (fun w' (h : Below w1.heap.size w1 w') => (HO.out.frame (HB1.out.mono hB)).frame (h.mono HBs.out))
  have hN' := Lib.hid hN
  have K := Lib.hid (And.intro k0 (And.intro k1 (And.intro k2 (And.intro k3 (And.intro k4 k5)))))
  have tok1 : True := trivial
  go_region_held3 (fun w' => w'.cell? ⟨w.heap.size, 0, none⟩ = some (.slice fo m.frames.length fc) ∧ w'.cell? ⟨w.heap.size, 1, none⟩ = some (.slice bo m.blocks.length bc) ∧ w'.cell? ⟨w.heap.size, 2, none⟩ = some (.slice io m.inp.length ic) ∧ w'.cell? ⟨w.heap.size, 3, none⟩ = some (.slice oo m.out.length oc) ∧ w'.cell? ⟨w.heap.size, 4, none⟩ = some (.int .i64 m.status) ∧ w'.cell? ⟨w.heap.size, 5, none⟩ = some (.int .i64 m.trap)) (first | go_keep | exact kk)
    (first
      | (go_at_call 60; refine (oneByte_any _ _).mono ?_; rintro e w2 ⟨rfl, hb2⟩; have HBA := Lib.hid (via0 HBA.out HBA.out.size hb2); have hcc := (bcell HBA.out).1; have kk : w2.cell? ⟨w.heap.size, 0, none⟩ = some (.slice fo m.frames.length fc) ∧ w2.cell? ⟨w.heap.size, 1, none⟩ = some (.slice bo m.blocks.length bc) ∧ w2.cell? ⟨w.heap.size, 2, none⟩ = some (.slice io m.inp.length ic) ∧ w2.cell? ⟨w.heap.size, 3, none⟩ = some (.slice oo m.out.length oc) ∧ w2.cell? ⟨w.heap.size, 4, none⟩ = some (.int .i64 m.status) ∧ w2.cell? ⟨w.heap.size, 5, none⟩ = some (.int .i64 m.trap) := ⟨(hcc _ _ hN'.out).trans K.out.1, (hcc _ _ hN'.out).trans K.out.2.1, (hcc _ _ hN'.out).trans K.out.2.2.1, (hcc _ _ hN'.out).trans K.out.2.2.2.1, (hcc _ _ hN'.out).trans K.out.2.2.2.2.1, (hcc _ _ hN'.out).trans K.out.2.2.2.2.2⟩; clear hcc hb2)
      | (go_at_call 61; have _t := tok1; refine (numbersBytes_any _ m.inp B _ (HI1.out _ HBA.out) (Nat.le_trans HBs.out HBA.out.size) M3.out.2 (by omega)).mono ?_; rintro e w2 ⟨rfl, hb2⟩; have HBA := Lib.hid (via0 HBA.out HBA.out.size hb2); have hcc := (bcell HBA.out).1; have kk : w2.cell? ⟨w.heap.size, 0, none⟩ = some (.slice fo m.frames.length fc) ∧ w2.cell? ⟨w.heap.size, 1, none⟩ = some (.slice bo m.blocks.length bc) ∧ w2.cell? ⟨w.heap.size, 2, none⟩ = some (.slice io m.inp.length ic) ∧ w2.cell? ⟨w.heap.size, 3, none⟩ = some (.slice oo m.out.length oc) ∧ w2.cell? ⟨w.heap.size, 4, none⟩ = some (.int .i64 m.status) ∧ w2.cell? ⟨w.heap.size, 5, none⟩ = some (.int .i64 m.trap) := ⟨(hcc _ _ hN'.out).trans K.out.1, (hcc _ _ hN'.out).trans K.out.2.1, (hcc _ _ hN'.out).trans K.out.2.2.1, (hcc _ _ hN'.out).trans K.out.2.2.2.1, (hcc _ _ hN'.out).trans K.out.2.2.2.2.1, (hcc _ _ hN'.out).trans K.out.2.2.2.2.2⟩; clear hcc hb2 tok1)
      | (go_at_call 61; refine (numbersBytes_any _ m.out B _ (HO1.out _ HBA.out) (Nat.le_trans HBs.out HBA.out.size) M4.out.2 (by omega)).mono ?_; rintro e w2 ⟨rfl, hb2⟩; have HBA := Lib.hid (via0 HBA.out HBA.out.size hb2); have hcc := (bcell HBA.out).1; have kk : w2.cell? ⟨w.heap.size, 0, none⟩ = some (.slice fo m.frames.length fc) ∧ w2.cell? ⟨w.heap.size, 1, none⟩ = some (.slice bo m.blocks.length bc) ∧ w2.cell? ⟨w.heap.size, 2, none⟩ = some (.slice io m.inp.length ic) ∧ w2.cell? ⟨w.heap.size, 3, none⟩ = some (.slice oo m.out.length oc) ∧ w2.cell? ⟨w.heap.size, 4, none⟩ = some (.int .i64 m.status) ∧ w2.cell? ⟨w.heap.size, 5, none⟩ = some (.int .i64 m.trap) := ⟨(hcc _ _ hN'.out).trans K.out.1, (hcc _ _ hN'.out).trans K.out.2.1, (hcc _ _ hN'.out).trans K.out.2.2.1, (hcc _ _ hN'.out).trans K.out.2.2.2.1, (hcc _ _ hN'.out).trans K.out.2.2.2.2.1, (hcc _ _ hN'.out).trans K.out.2.2.2.2.2⟩; clear hcc hb2))
  obtain ⟨hn0, hn1, hn2, hn3, hn4, hn5⟩ := kk
  have HB2 := Lib.hid HBA.out
  have hs2 := HBA.out.size
  clear a1 a2 a3 a4 HBA HI1 HO1 hn0 hn2 hn3 hn4 hn5 k0 k1 k2 k3 k4 k5
  have HBK := Lib.hid (fun k (hk : k ≤ m.blocks.length) => show (blocksTo m k).length ≤ 84 + (1 + 255 * 1024) by
    unfold blocksTo
    have h1 := someTo_len' (f := Mz.numbersB) (l := m.blocks) (c := 1024) (fun x hx => by have := numbersB_len (l := x); have := (M5.out.2 x hx).1; omega) k
    have h2 := HH.out
    have h3 : k * 1024 ≤ 255 * 1024 := Nat.mul_le_mul_right _ (by have := M5.out.1; omega)
    simp only [List.length_append]; omega)
  go_wp2_with fail
  go_loopw [3, 4] (fun s i wr => ∃ k : Nat, k ≤ m.blocks.length ∧ i = .int .i64 k ∧ s = Str (blocksTo m k) ∧ Below w1.heap.size w1 wr) (fun _ i _ => m.blocks.length - (intOf i).toNat)
  case atStart => exact ⟨0, Nat.zero_le _, rfl, rfl, HB2.out⟩
  case round =>
    obtain ⟨k, hk, rfl, rfl, hbw⟩ := hrel
    have HBW := Lib.hid hbw
    have hsw := hbw.size
    have u1 := ((bcell hbw).1 _ _ hN'.out).trans K.out.2.1
    have HBR := Lib.hid (HB1.out.trans (hbw.mono HB1.out.size))
    by_cases hlt : k < m.blocks.length
    · obtain ⟨b, o, bv, rfl, hbB, cell, hbv⟩ := (HBL.out.frame (HBR.out.mono hB)).at hlt
      obtain ⟨ba, bc', rfl, _, _, _⟩ := hbv.open
      have HBV := Lib.hid hbv
      have hs : Hid (blocksTo m (k + 1) = blocksTo m k ++ Mz.numbersB (nth m.blocks k)) := by unfold Hid blocksTo; rw [someTo_succ hlt, List.append_assoc]
      have hadd := str_add (blocksTo m k) (Mz.numbersB (nth m.blocks k)) (by have := HBK.out (k + 1) hlt; rw [hs.out, List.length_append] at this; omega)
      have hbs : b < wr.heap.size := by omega
      have hNw : w.heap.size < wr.heap.size := by omega
      have hlf : (k : Int) < (m.blocks.length : Int) := by omega
      clear hbw hbv
      go_wp2_with fail
      refine (numbersBytes_any _ (nth m.blocks k) B _ HBV.out (Nat.le_trans hB HBR.out.size) (M5.out.2 _ (nth_mem hlt)).2 (by have := (M5.out.2 _ (nth_mem hlt)).1; omega)).mono ?_
      rintro e w3 ⟨rfl, hb3⟩
      have HB3 := Lib.hid (via0 HBW.out HBW.out.size hb3)
      clear hb3
      go_wp2_with fail
      go_roundw
      case rel => exact ⟨k + 1, by omega, by go_num, by rw [hs.out], HB3.out⟩
      case measure => simp [intOf]; omega
    · obtain rfl : k = m.blocks.length := by omega
      obtain ⟨w4, rfl⟩ : ∃ w4 : World, w4 = wr := ⟨_, rfl⟩
      have u0 := ((bcell hbw).1 _ _ hN'.out).trans K.out.1
      have e0 : Hid (blocksTo m m.blocks.length ++ [Mz.byteOf m.frames.length] = framesTo m 0) := by unfold Hid blocksTo framesTo; rw [someTo_end]; unfold someTo; simp
      have hadd := str_add (blocksTo m m.blocks.length) [Mz.byteOf m.frames.length] (by have := HBK.out m.blocks.length (Nat.le_refl _); simp only [List.length_singleton]; omega)
      rw [e0.out] at hadd
      clear hbw
      go_wp2_with fail
      refine (oneByte_any _ _).mono ?_
      rintro e w5 ⟨rfl, hb5⟩
      have HB5 := Lib.hid (via0 HBW.out HBW.out.size hb5)
      clear hb5 u0 u1
      go_wp2_with fail
      have HFK := Lib.hid (fun k (hk : k ≤ m.frames.length) => show (framesTo m k).length ≤ 84 + (1 + 255 * 1024) + (1 + 255 * 2600) by
        unfold framesTo
        have h1 := someTo_len' (f := Mz.frmB) (l := m.frames) (c := 2600) (fun x hx => frmB_len (M6.out.2 x hx)) k
        have h2 := HBK.out m.blocks.length (Nat.le_refl _)
        unfold blocksTo at h2
        rw [someTo_end] at h2
        have h3 : k * 2600 ≤ 255 * 2600 := Nat.mul_le_mul_right _ (by have := M6.out.1; omega)
        simp only [List.length_append] at h2 ⊢; omega)
      go_loopw [3, 5] (fun s i wr => ∃ k : Nat, k ≤ m.frames.length ∧ i = .int .i64 k ∧ s = Str (framesTo m k) ∧ Below w1.heap.size w1 wr) (fun _ i _ => m.frames.length - (intOf i).toNat)
      case atStart => exact ⟨0, Nat.zero_le _, rfl, rfl, HB5.out⟩
      case round =>
        obtain ⟨k, hk, rfl, rfl, hbw⟩ := hrel
        have HBW := Lib.hid hbw
        have hsw := hbw.size
        have u0 := ((bcell hbw).1 _ _ hN'.out).trans K.out.1
        have HBR := Lib.hid (HB1.out.trans (hbw.mono HB1.out.size))
        have hNw : w.heap.size < wr.heap.size := by omega
        by_cases hlt : k < m.frames.length
        · obtain ⟨b, o, lv, sv, rfl, hbB, q0, q1, q2, q3, rl, rs⟩ := (HFR.out.frame (HBR.out.mono hB)).at hlt
          obtain ⟨lo, lc, rfl, _, _, _⟩ := rl.open
          obtain ⟨so, sc, rfl, _, _, _⟩ := rs.open
          have hs : Hid (framesTo m (k + 1) = framesTo m k ++ Mz.frmB (nth m.frames k)) := by unfold Hid framesTo; rw [someTo_succ hlt, List.append_assoc, List.append_assoc, List.append_assoc]
          have HXF := Lib.hid (M6.out.2 _ (nth_mem hlt))
          have hbs : b < wr.heap.size := by omega
          have hlf : (k : Int) < (m.frames.length : Int) := by omega
          have RL := Lib.hid rl
          have RS := Lib.hid rs
          obtain ⟨x, hx⟩ : ∃ x, x = nth m.frames k := ⟨_, rfl⟩
          rw [← hx] at q0 q1 q2 q3 RL RS hs HXF
          have b4 := str_add (framesTo m k) (Mz.frmB x) (by have := HFK.out (k + 1) hlt; rw [hs.out, List.length_append] at this; omega)
          have hvl := valuesB_len (l := x.locals)
          have hvs := valuesB_len (l := x.stack)
          have hl1 := HXF.out.2.2.1.1
          have hl2 := HXF.out.2.2.2.1
          have b1 := str_add [Mz.byteOf x.fn] [Mz.byteOf x.pc] (by simp)
          have b2 := str_add ([Mz.byteOf x.fn] ++ [Mz.byteOf x.pc]) (Mz.valuesB x.locals) (by simp; omega)
          have b3 := str_add ([Mz.byteOf x.fn] ++ [Mz.byteOf x.pc] ++ Mz.valuesB x.locals) (Mz.valuesB x.stack) (by simp; omega)
          have e0 : [Mz.byteOf x.fn] ++ [Mz.byteOf x.pc] ++ Mz.valuesB x.locals ++ Mz.valuesB x.stack = Mz.frmB x := by unfold Mz.frmB; simp
          rw [e0] at b3
          generalize [Mz.byteOf x.fn] ++ [Mz.byteOf x.pc] ++ Mz.valuesB x.locals = L2 at b2 b3
          generalize [Mz.byteOf x.fn] ++ [Mz.byteOf x.pc] = L1 at b1 b2
          clear hbw hx rl rs e0 hvl hvs hl1 hl2
          have HBA : Hid (Below wr.heap.size wr (wr.alloc (.cells #[.int .i64 x.fn, .int .i64 x.pc, .slice lo x.locals.length lc, .slice so x.stack.length sc] 97)).drew) := ((Below.refl _ _).alloc (Nat.le_refl _) _).drew
          have hx' : wr.heap.size < wr.heap.size + 1 := by omega
          go_wp2_with fail
          obtain ⟨w6, hw6⟩ : ∃ w6, w6 = wr.alloc (.cells #[.int .i64 x.fn, .int .i64 x.pc, .slice lo x.locals.length lc, .slice so x.stack.length sc] 97) := ⟨_, rfl⟩
          have KX : Hid (w6.cell? ⟨wr.heap.size, 0, none⟩ = some (.int .i64 x.fn) ∧ w6.cell? ⟨wr.heap.size, 1, none⟩ = some (.int .i64 x.pc) ∧ w6.cell? ⟨wr.heap.size, 2, none⟩ = some (.slice lo x.locals.length lc) ∧ w6.cell? ⟨wr.heap.size, 3, none⟩ = some (.slice so x.stack.length sc)) := by
            unfold Hid; rw [hw6]; exact ⟨cell_at rfl rfl, cell_at rfl rfl, cell_at rfl rfl, cell_at rfl rfl⟩
          have x0 := KX.out.1
          have x1 := KX.out.2.1
          have x2 := KX.out.2.2.1
          have x3 := KX.out.2.2.2
          have HB6 : Hid (Below wr.heap.size wr w6) := by unfold Hid; rw [hw6]; exact (Below.refl _ _).alloc (Nat.le_refl _) _
          have hs6 : wr.heap.size < w6.heap.size := by rw [hw6]; simp
          rw [← hw6]
          clear hw6 HBA hx'
          have hx' := hs6
          have HBA : Hid (Below w6.heap.size w6 w6.drew) := (Below.refl _ _).drew
          have HBs7 := Lib.hid (Nat.le_trans hB (Nat.le_trans HBR.out.size HB6.out.size))
          have RL1 := Lib.hid (fun w' (h : Below w6.heap.size w6 w') => ((RL.out.frame (HB6.out.mono (Nat.le_trans hB HBR.out.size))).frame (h.mono HBs7.out)))
          have RS1 := Lib.hid (fun w' (h : Below w6.heap.size w6 w') => ((RS.out.frame (HB6.out.mono (Nat.le_trans hB HBR.out.size))).frame (h.mono HBs7.out)))
          have tok1 : True := trivial
          clear q0 q1 q2 q3 u0
          go_region_held3 (fun w' => w'.cell? ⟨wr.heap.size, 0, none⟩ = some (.int .i64 x.fn) ∧ w'.cell? ⟨wr.heap.size, 1, none⟩ = some (.int .i64 x.pc) ∧ w'.cell? ⟨wr.heap.size, 2, none⟩ = some (.slice lo x.locals.length lc) ∧ w'.cell? ⟨wr.heap.size, 3, none⟩ = some (.slice so x.stack.length sc)) (first | go_keep | exact kk)
        (first
          | (go_at_call 60; refine (oneByte_any _ _).mono ?_; rintro e w7 ⟨rfl, hb7⟩; have HBA := Lib.hid (via0 HBA.out HBA.out.size hb7); have hcc := (bcell HBA.out).1; have kk : w7.cell? ⟨wr.heap.size, 0, none⟩ = some (.int .i64 x.fn) ∧ w7.cell? ⟨wr.heap.size, 1, none⟩ = some (.int .i64 x.pc) ∧ w7.cell? ⟨wr.heap.size, 2, none⟩ = some (.slice lo x.locals.length lc) ∧ w7.cell? ⟨wr.heap.size, 3, none⟩ = some (.slice so x.stack.length sc) := ⟨(hcc _ _ hx').trans KX.out.1, (hcc _ _ hx').trans KX.out.2.1, (hcc _ _ hx').trans KX.out.2.2.1, (hcc _ _ hx').trans KX.out.2.2.2⟩; clear hcc hb7)
          | (go_at_call 62; have _t := tok1; refine (valuesBytes_any _ x.locals B _ (RL1.out _ HBA.out) (Nat.le_trans HBs7.out HBA.out.size) HXF.out.2.2.1.2 (by have := HXF.out.2.2.1.1; omega)).mono ?_; rintro e w7 ⟨rfl, hb7⟩; have HBA := Lib.hid (via0 HBA.out HBA.out.size hb7); have hcc := (bcell HBA.out).1; have kk : w7.cell? ⟨wr.heap.size, 0, none⟩ = some (.int .i64 x.fn) ∧ w7.cell? ⟨wr.heap.size, 1, none⟩ = some (.int .i64 x.pc) ∧ w7.cell? ⟨wr.heap.size, 2, none⟩ = some (.slice lo x.locals.length lc) ∧ w7.cell? ⟨wr.heap.size, 3, none⟩ = some (.slice so x.stack.length sc) := ⟨(hcc _ _ hx').trans KX.out.1, (hcc _ _ hx').trans KX.out.2.1, (hcc _ _ hx').trans KX.out.2.2.1, (hcc _ _ hx').trans KX.out.2.2.2⟩; clear hcc hb7 tok1)
          | (go_at_call 62; refine (valuesBytes_any _ x.stack B _ (RS1.out _ HBA.out) (Nat.le_trans HBs7.out HBA.out.size) HXF.out.2.2.2.2 (by have := HXF.out.2.2.2.1; omega)).mono ?_; rintro e w7 ⟨rfl, hb7⟩; have HBA := Lib.hid (via0 HBA.out HBA.out.size hb7); have hcc := (bcell HBA.out).1; have kk : w7.cell? ⟨wr.heap.size, 0, none⟩ = some (.int .i64 x.fn) ∧ w7.cell? ⟨wr.heap.size, 1, none⟩ = some (.int .i64 x.pc) ∧ w7.cell? ⟨wr.heap.size, 2, none⟩ = some (.slice lo x.locals.length lc) ∧ w7.cell? ⟨wr.heap.size, 3, none⟩ = some (.slice so x.stack.length sc) := ⟨(hcc _ _ hx').trans KX.out.1, (hcc _ _ hx').trans KX.out.2.1, (hcc _ _ hx').trans KX.out.2.2.1, (hcc _ _ hx').trans KX.out.2.2.2⟩; clear hcc hb7))
          have HB7 := Lib.hid (HBW.out.trans ((HB6.out.mono HBW.out.size).trans (HBA.out.mono (Nat.le_trans HBW.out.size HB6.out.size))))
          clear kk HBA RL1 RS1 b1 b2 b3 b4
          go_wp2_with fail
          go_roundw
          case rel => exact ⟨k + 1, by omega, by go_num, by rw [hs.out], HB7.out⟩
          case measure => simp [intOf]; omega
        · obtain rfl : k = m.frames.length := by omega
          clear hbw
          go_wp2_with fail
          go_ret
          exact ⟨by rw [framesTo_end]; rfl, HBR.out⟩
end Go.Proofs.YthdomhejkbpabaaGreat

/- The program's writer of bytes. -/
namespace Go.Proofs.YthdomhejkbpabaaGreat
open Go.RowKit

theorem info_u8 : (Tryz.prog.info? 5).map (fun i => (i.zero, i.size, i.bytes)) = some (some (.int .u8 0), 1, 1) := by kernel_rfl
/-- below lo all has stayed, and of the rest what is no row of bytes, but for block wb -/
structure Fw (lo wb : Nat) (w w' : World) : Prop where
  below : Below lo w w'
  besides : ∀ k, k < w.heap.size → k ≠ wb → (∀ c fr, w.heap[k]? ≠ some (.cells c 5 fr)) → w'.heap[k]? = w.heap[k]?
theorem Fw.of_below {lo wb : Nat} {w w' : World} (h : Below w.heap.size w w') (hlo : lo ≤ w.heap.size) : Fw lo wb w w' := ⟨h.mono hlo, fun k hk _ _ => h.block k hk⟩
theorem Fw.trans {lo wb : Nat} {u v w : World} (h : Fw lo wb u v) (k : Fw lo wb v w) : Fw lo wb u w :=
  ⟨h.below.trans k.below, fun i hi n1 n2 => by
    have e := h.besides i hi n1 n2
    rw [k.besides i (Nat.lt_of_lt_of_le hi h.below.size) n1 (by rw [e]; exact n2), e]⟩
theorem Fw.refl {lo wb : Nat} {w : World} : Fw lo wb w w := ⟨Below.refl _ _, fun _ _ _ _ => rfl⟩
/-- a row of another type stays -/
theorem Fw.row {lo wb : Nat} {w w' : World} (h : Fw lo wb w w') {b : Nat} {t : TypeId} {n : Nat} {f : Nat → Value} (hr : w.rowIs b t n f) (hb : b ≠ wb) (ht : t ≠ 5) : w'.rowIs b t n f := by
  refine hr.of_block (h.besides b hr.lt hb fun c fr e => ?_)
  obtain ⟨cs, h1, _⟩ := hr
  rw [e] at h1
  simp only [Option.some.injEq, Obj.cells.injEq] at h1
  exact ht h1.2.1.symm
theorem row_ne {w : World} {a b : Nat} {t u : TypeId} {n m : Nat} {f g : Nat → Value} (ha : w.rowIs a t n f) (hb : w.rowIs b u m g) (h : t ≠ u) : a ≠ b := by
  rintro rfl
  obtain ⟨c1, e1, _⟩ := ha
  obtain ⟨c2, e2, _⟩ := hb
  rw [e1] at e2
  simp only [Option.some.injEq, Obj.cells.injEq] at e2
  exact h e2.2.1

/-- the writer in block wb: the bytes l -/
structure Wr (w : World) (lo wb : Nat) (l : List UInt8) : Prop where
  low : lo ≤ wb
  row : ∃ v, w.rowIs wb 134 1 (fun _ => v) ∧ w.ownsRow lo 5 1 v l.length (l.map byteV)
theorem Wr.cells {w : World} {lo wb : Nat} {l : List UInt8} (h : Wr w lo wb l) : ∃ ao c, w.cell? ⟨wb, 0, none⟩ = some (.slice ao l.length c) ∧ w.frozen? ⟨wb, 0, none⟩ = false ∧ w.ownsRow lo 5 1 (.slice ao l.length c) l.length (l.map byteV) ∧ wb < w.heap.size ∧ (Value.slice ao l.length c).ownBlock ≠ some wb := by
  obtain ⟨h1, v, h2, h3⟩ := h
  obtain ⟨ao, c, rfl⟩ := owned_open h3
  exact ⟨ao, c, h2.cell (i := 0) (by decide), h2.frozen 0, h3, h2.lt, owns_ne h2 h3 (by decide)⟩
theorem Wr.frame {w w' : World} {lo wb : Nat} {l : List UInt8} (h : Wr w lo wb l) (hb : Below w.heap.size w w') : Wr w' lo wb l := by
  obtain ⟨h1, v0, h2, h3⟩ := h
  exact ⟨h1, v0, h2.of_block (hb.block _ h2.lt), owns_of_block h3 fun g hg => hb.block _ (h3.lt g hg).2⟩
/-- what was written is laid into the writer -/
theorem Wr.store {w w' : World} {lo wb : Nat} {l l' : List UInt8} {v v' : Value} (h : Wr w lo wb l) (hv : w.cell? ⟨wb, 0, none⟩ = some v) (hg : w.grownBy w' v.ownBlock) (hb : Below lo w w') (ho : w'.ownsRow lo 5 1 v' l'.length (l'.map byteV)) :
    Wr (w'.setCell ⟨wb, 0, none⟩ v') lo wb l' ∧ Fw lo wb w (w'.setCell ⟨wb, 0, none⟩ v') := by
  obtain ⟨h1, v0, h2, h3⟩ := h
  have e : v = v0 := by
    have := h2.cell (i := 0) (by decide)
    rw [hv] at this; exact Option.some.inj this
  subst e
  have hne := owns_ne h2 h3 (by decide)
  have hs : w'.heap[wb]? = w.heap[wb]? := hg.block wb h2.lt (fun e => hne e.symm)
  have hS : w'.rowIs wb 134 1 (fun _ => v) := h2.of_block hs
  have hne' := owns_ne hS ho (by decide)
  refine ⟨⟨h1, v', (hS.set 0 _).congr (fun i hi => ?_), owns_of_block ho fun g hg => Below.heap_setCell _ _ _ _ ?_⟩, ⟨?_, fun k hk hkw hni => ?_⟩⟩
  · obtain rfl : i = 0 := by omega
    simp
  · intro e
    exact hne' (by rw [hg, e])
  · exact hb.trans (((Only.refl wb w').setCell 0 v').below h1)
  · rw [Below.heap_setCell _ _ _ _ hkw]
    refine hg.block k hk (fun e => ?_)
    rcases h3.2 with ⟨h2', _⟩ | ⟨g, cap, cur, h2', _, hg', _⟩
    · have := e.trans (congrArg Value.ownBlock h2'); cases this
    · have := e.trans (congrArg Value.ownBlock h2')
      simp only [Value.ownBlock, Option.some.injEq] at this
      subst this
      exact hni _ _ hg'

set_option maxHeartbeats 1000000 in
set_option maxRecDepth 100000 in
theorem writeOne_any (w : World) (lo wb b : Nat) (l : List UInt8) (ns : List Int) (h : Wr w lo wb l) (hr : w.rowIs b 3 ns.length (fun i => .int .i64 (nth ns i))) (hl : l.length ≤ 990000) (hn : ns.length ≤ 1000) (hlo : lo ≤ w.heap.size) :
    Calls Tryz.prog 99 #[.pointer (some ⟨wb, 0, none⟩), .slice (some ⟨b, 0, none⟩) ns.length ns.length] w fun e w' => e = .returned (.tuple #[]) ∧ Wr w' lo wb (l ++ ns.map Mz.byteOf) ∧ Fw lo wb w w' := by
  have HW := Lib.hid h
  have HR := Lib.hid hr
  clear h hr
  go_enter Tryz.func99, Tryz.ntmps99
  go_wp2_with fail
  go_loopw [8] (fun i wr => ∃ k : Nat, k ≤ ns.length ∧ i = .int .i64 k ∧ Wr wr lo wb (l ++ (ns.take k).map Mz.byteOf) ∧ Fw lo wb w wr) (fun i _ => ns.length - (intOf i).toNat)
  case atStart => exact ⟨0, Nat.zero_le _, rfl, by simpa using HW.out, Fw.refl⟩
  case round =>
    obtain ⟨k, hk, rfl, hwr, hfw⟩ := hrel
    by_cases hlt : k < ns.length
    · obtain ⟨v0, hrow0, _⟩ := HW.out.row
      have hrk := hfw.row HR.out (row_ne HR.out hrow0 (by decide)) (by decide)
      have cb := hrk.cell (i := k) hlt
      have hbs := hrk.lt
      obtain ⟨ao, c, c0, z0, ho, hwb, hne⟩ := hwr.cells
      have HWR := Lib.hid hwr
      have HFW := Lib.hid hfw
      have HO := Lib.hid ho
      have HC0 := Lib.hid c0
      have HNE := Lib.hid hne
      have hlw : lo ≤ wr.heap.size := Nat.le_trans hlo hfw.below.size
      have hl1 : (l ++ (ns.take k).map Mz.byteOf).length ≤ 991000 := by simp; omega
      have hs : Hid (l ++ (ns.take (k + 1)).map Mz.byteOf = (l ++ (ns.take k).map Mz.byteOf) ++ [Mz.byteOf (nth ns k)]) := by
        unfold Hid; rw [take_snoc hlt, List.map_append, List.append_assoc]; rfl
      obtain ⟨x, hx⟩ : ∃ x, x = nth ns k := ⟨_, rfl⟩
      rw [← hx] at cb hs
      obtain ⟨L, hL⟩ : ∃ L, L = l ++ (ns.take k).map Mz.byteOf := ⟨_, rfl⟩
      rw [← hL] at c0 HWR HO HC0 HNE hl1 hs
      clear hwr hfw ho hne hrk hx hrow0 hL
      have hlf : (k : Int) < (ns.length : Int) := by omega
      go_wp2_with (at_builtin; refine push_gen (P := Tryz.prog) (cells := [.int .u8 (x % 256)]) Tryz.underlying132 info_u8 rfl (by decide) (by decide) rfl rfl rfl HO.out rfl rfl (by intro u hu; simp at hu; subst hu; rfl) (by omega) (by omega) ?_; intro v' w' hown' hgr hb'; have hsame : w'.heap[wb]? = wr.heap[wb]? := hgr.block wb hwb (fun e => HNE.out e.symm); have c0' := (World.cell?_of_block (a := ⟨wb, 0, none⟩) hsame).trans c0; have z0' := (World.frozen?_of_block (a := ⟨wb, 0, none⟩) hsame).trans z0; clear hsame c0 z0; obtain ⟨va, vc, rfl⟩ := owned_open hown')
      have HST := Lib.hid (HWR.out.store (l' := L ++ [Mz.byteOf x]) HC0.out hgr hb' (by
        rw [List.length_append, List.map_append]
        have e : byteV (Mz.byteOf x) = .int .u8 (x % 256) := by unfold byteV; rw [Mz.byteOf_toNat]
        simp only [List.length_singleton, List.map_cons, List.map_nil, e]
        exact hown'))
      clear hgr hb' hown' c0' z0'
      go_wp2_with fail
      go_roundw
      case rel => exact ⟨k + 1, by omega, by go_num, by rw [hs.out]; simpa using HST.out.1, HFW.out.trans (by simpa using HST.out.2)⟩
      case measure => simp [intOf]; omega
    · obtain rfl : k = ns.length := by omega
      go_wp2_with fail
      go_end0
      exact ⟨rfl, by simpa using hwr, hfw⟩
end Go.Proofs.YthdomhejkbpabaaGreat

/- The program's writer: lists of numbers, lists of values. -/
namespace Go.Proofs.YthdomhejkbpabaaGreat
open Go.RowKit

theorem step_push_str {ops : Array Oper} {o : Oper} {a : Act} {K : Act → World → Prop} {Q : Exit → Act → World → Prop} {E : Prop} {s x : Operand}
    (hgd : o.guard = none) (ho : o.op = .call { callee := .builtin .append, args := #[s, x], argTypes := #[132, 9] })
    {base n : Nat} {v : Value} {xs : List Value} {b : List UInt8} {w : World} (hs : a.eval s = v) (hown : w.ownsRow base 5 1 v n xs) (hx : a.eval x = Str b)
    (hbytes : n + b.length ≤ 140737488355328) (hb : base ≤ w.heap.size)
    (h : ∀ v' w', w'.ownsRow base 5 1 v' (n + b.length) (xs ++ b.map byteV) → w.grownBy w' v.ownBlock → Below base w w' → K (a.put o.dst v') w') :
    if Region.wanted o (yielded ops a.tmps) = true then Oper.wp Tryz.prog o a w K Q else E := by
  have hw : Region.wanted o (yielded ops a.tmps) = true := by simp [Region.wanted, hgd]
  rw [if_pos hw]
  obtain ⟨i, hi0, hz0, hz1, hz2⟩ := info_parts info_u8
  have hsz : ({ data := b.toArray } : ByteArray).size = b.length := by simp [ByteArray.size]
  obtain ⟨v', w', hr, h2, h3, h4⟩ := Lib.run_append_own_string (P := Tryz.prog) w base 132 9 o.type 5 i Tryz.underlying132 Tryz.underlying9 hi0 hz0 hz1 hz2 v n xs hown ⟨b.toArray⟩ (by rw [hsz]; unfold maxLen; omega) (by rw [hsz]; exact hbytes) hb
  rw [hsz] at h2
  have hc : Lib.strCells ⟨b.toArray⟩ = b.map byteV := by unfold Lib.strCells byteV; simp
  rw [hc] at h2
  have hx' : a.eval x = .string ⟨b.toArray⟩ := hx
  unfold Oper.wp execOp
  simp only [ho, resolve, invoke, builtin, Sem.run_bind, Sem.run_pure, Result.andThen_ok, List.map_toArray, List.map_cons, List.map_nil, hs, hx', hr]
  exact h v' w' h2 h3 (Below.grown (Below.refl _ _) h3 hb (fun k hk => (hown.lt k hk).1))

/-- a call of a function at a step of a region that draws its order -/
theorem step_call {P : Program} {f : FuncId} {ops : Array Oper} {o : Oper} {a : Act} {K : Act → World → Prop} {Q : Exit → Act → World → Prop} {E : Prop} {x : Operand} {ts : Array TypeId}
    (hgd : o.guard = none) (ho : o.op = .call { callee := .value (.func f), args := #[x], argTypes := ts }) {v : Value} {w : World} (he : (callFunc f #[v]).run P w = .ok (.enter f #[v]) w) (hx : a.eval x = v) {R : Ending → World → Prop} (hc : Calls P f #[v] w R)
    (h : ∀ e w', R e w' → ∃ u, e = .returned u ∧ K (a.put o.dst u) w') :
    if Region.wanted o (yielded ops a.tmps) = true then Oper.wp P o a w K Q else E := by
  have hw : Region.wanted o (yielded ops a.tmps) = true := by simp [Region.wanted, hgd]
  rw [if_pos hw]
  unfold Oper.wp
  have hfn : a.eval (Operand.func f) = Value.func (.func f) #[] #[] := rfl
  simp [execOp, ho, resolve, invoke, hx, hfn, Deferred.ofValue, Sem.run_pure, he, Result.andThen, Oper.upon_enter]
  refine hc.mono fun e w' hr => ?_
  obtain ⟨u, rfl, hk⟩ := h e w' hr
  exact hk
theorem step_call1 {f : FuncId} {ops : Array Oper} {o : Oper} {a : Act} {K : Act → World → Prop} {Q : Exit → Act → World → Prop} {E : Prop} {x : Operand} {ts : Array TypeId}
    (hgd : o.guard = none) (ho : o.op = .call { callee := .value (.func f), args := #[x], argTypes := ts }) (hf : Enters f) {v : Value} (hx : a.eval x = v) {w : World} {R : Ending → World → Prop} (hc : Calls Tryz.prog f #[v] w R)
    (h : ∀ e w', R e w' → ∃ u, e = .returned u ∧ K (a.put o.dst u) w') :
    if Region.wanted o (yielded ops a.tmps) = true then Oper.wp Tryz.prog o a w K Q else E := step_call hgd ho (hf #[v] w) hx hc h
theorem enters_four : Enters 129 := enters_of Tryz.func129 (by kernel_rfl) (by kernel_rfl)
theorem row_one (w : World) (x : Int) : (w.alloc (.cells #[.int .i64 x] 3)).rowIs w.heap.size 3 [x].length (fun i => .int .i64 (nth [x] i)) :=
  World.rowIs_alloc w #[.int .i64 x] 3 _ (fun i hi => by
    obtain rfl : i = 0 := by simpa using hi
    rfl)

set_option maxHeartbeats 2000000 in
set_option maxRecDepth 100000 in
theorem writeNumbers_any (w : World) (lo wb : Nat) (l : List UInt8) (v : Value) (ns : List Int) (h : Wr w lo wb l) (hr : RInts w lo v ns) (hl : l.length ≤ 980000) (hn : ns.length ≤ 1000) (hlo : lo ≤ w.heap.size) :
    Calls Tryz.prog 100 #[.pointer (some ⟨wb, 0, none⟩), v] w fun e w' => e = .returned (.tuple #[]) ∧ Wr w' lo wb (l ++ Mz.numbersB ns) ∧ Fw lo wb w w' := by
  obtain ⟨ao, c, rfl, h1, h2, h3⟩ := hr.open
  unfold maxLen at h2
  have HW := Lib.hid h
  have HR := Lib.hid hr
  clear h hr
  go_enter Tryz.func100, Tryz.ntmps100
  go_wp2_with fail
  refine (writeOne_any _ lo wb w.heap.size l [(ns.length : Int)] (HW.out.frame ((Below.refl _ _).alloc (Nat.le_refl _) _)) (row_one w _) (by omega) (by simp) (by simp; omega)).mono ?_
  rintro e w1 ⟨rfl, hw1, hf1⟩
  have HW1 := Lib.hid hw1
  have HF1 : Hid (Fw lo wb w w1) := (Fw.of_below ((Below.refl _ _).alloc (Nat.le_refl _) _) hlo).trans hf1
  clear hw1 hf1
  go_wp2_with fail
  go_loopw [13] (fun i wr => ∃ k : Nat, k ≤ ns.length ∧ i = .int .i64 k ∧ Wr wr lo wb (l ++ someTo Mz.fourOf ns k) ∧ Fw lo wb w wr) (fun i _ => ns.length - (intOf i).toNat)
  case atStart => exact ⟨0, Nat.zero_le _, rfl, HW1.out, HF1.out⟩
  case round =>
    obtain ⟨k, hk, rfl, hwr, hfw⟩ := hrel
    by_cases hlt : k < ns.length
    · obtain ⟨b, o, rfl, hbB, cell⟩ := (HR.out.frame hfw.below).at hlt
      obtain ⟨vo, vc, c0, z0, ho, hwb, hne⟩ := hwr.cells
      have HWR := Lib.hid hwr
      have HFW := Lib.hid hfw
      have HO := Lib.hid ho
      have HC0 := Lib.hid c0
      have HNE := Lib.hid hne
      have hlw : lo ≤ wr.heap.size := Nat.le_trans hlo hfw.below.size
      have hbs : b < wr.heap.size := by omega
      have hl1 : (l ++ someTo Mz.fourOf ns k).length ≤ 985000 := by
        have := someTo_len (l := ns) (f := Mz.fourOf) (c := 4) four_len k
        simp only [List.length_append]; omega
      have hs : Hid (l ++ someTo Mz.fourOf ns (k + 1) = (l ++ someTo Mz.fourOf ns k) ++ Mz.fourOf (nth ns k)) := by
        unfold Hid; rw [someTo_succ hlt, List.append_assoc]
      obtain ⟨x, hx⟩ : ∃ x, x = nth ns k := ⟨_, rfl⟩
      rw [← hx] at cell hs
      obtain ⟨L, hL⟩ : ∃ L, L = l ++ someTo Mz.fourOf ns k := ⟨_, rfl⟩
      rw [← hL] at c0 HWR HO HC0 HNE hl1 hs
      clear hwr hfw ho hne hx hL
      have hlf : (k : Int) < (ns.length : Int) := by omega
      go_wp2_with fail
      go_region_law ((first
          | (refine step_call1 (by rfl) (by rfl) enters_four (by rfl) (opFour_any x _) ?_; rintro e w2 ⟨rfl, hb2⟩; refine ⟨_, rfl, ?_⟩; have HB2 := Lib.hid (show Below wr.heap.size wr w2 from ((Below.refl _ _).drew).trans hb2); have kk : w2.cell? ⟨wb, 0, none⟩ = some (.slice vo L.length vc) := ((bcell HB2.out).1 _ _ hwb).trans c0; clear hb2)
          | (refine step_push_str (b := Mz.fourOf x) (by rfl) (by rfl) (by rfl) (owns_of_block HO.out fun g hg => HB2.out.block g (HO.out.lt g hg).2) (by rfl) (by have := four_len x; omega) (Nat.le_trans hlw HB2.out.size) ?_; intro v' w' hown' hgr hb'; have hsame : w'.heap[wb]? = w2.heap[wb]? := hgr.block wb (Nat.lt_of_lt_of_le hwb HB2.out.size) (fun e => HNE.out e.symm); have kk' := (World.cell?_of_block (a := ⟨wb, 0, none⟩) hsame).trans kk; have z0' := (World.frozen?_of_block (a := ⟨wb, 0, none⟩) hsame).trans (((bcell HB2.out).2 _ _ hwb).trans z0); clear hsame; obtain ⟨va, vc', rfl⟩ := owned_open hown')))
      all_goals
        have HST := Lib.hid ((HWR.out.frame HB2.out).store (l' := L ++ Mz.fourOf x) kk hgr hb' (by rw [List.length_append, List.map_append]; exact hown'))
        have HF2 : Hid (Fw lo wb wr w2) := Fw.of_below HB2.out hlw
        clear hgr hb' hown' kk kk' z0' c0 z0
        go_wp2_with fail
        go_roundw
        case rel => exact ⟨k + 1, by omega, by go_num, by rw [hs.out]; simpa using HST.out.1, HFW.out.trans (HF2.out.trans (by simpa using HST.out.2))⟩
        case measure => simp [intOf]; omega
    · obtain rfl : k = ns.length := by omega
      go_wp2_with fail
      go_end0
      exact ⟨rfl, by rw [someTo_end] at hwr; exact hwr, hfw⟩
end Go.Proofs.YthdomhejkbpabaaGreat
