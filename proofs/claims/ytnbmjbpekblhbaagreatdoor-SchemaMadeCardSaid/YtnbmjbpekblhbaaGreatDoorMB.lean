/- Operations on values of known kinds: each a step of the text's order. More steps, and what the printed proofs name. Functions that are handed functions: closures over cells that they read. Functions that hand back an object of their own. Errors that are there or not; truths compared; the library's contracts of plain values. The library's functions, as plain words. What the library's contracts leave, as the walk's states. Rows that the library hands back. Written lists as objects of the walk's own; appending to what was written out just now. Arrays: built, and looked into by their address. append: a text's bytes. append: to an object of which the type is told. Slices of texts that have no room behind them; slices that are made; parts of an object, appended to. strings.Builder: its cells, its bytes, its text. strings.Builder: its methods' contracts, by any numbers. The tables that a row lists, as cells and blocks that stand. What an argument reads as, out of memory: all that lies there stands fast. -/
import Derived.Test.YtnbmjbpekblhbaaGreatDoorMA
import Derived.Lib.AtoiAll
import Derived.Shelf.Strings.Prefix
import Derived.Shelf.Strings.Trim
import Derived.Shelf.Strings.Fields
import Derived.Shelf.Slices.CompactS
import Derived.Shelf.Strconv.Itoa3
import Derived.Sort.EncStr
import Derived.Sort.Grow
import Derived.Lib.OwnBridge
import Derived.Lib.AppendStr
import Derived.Laws.MakeOwn
import Derived.Lib.UnsafeStr
import Derived.Shelf.Strings.Builder1
import Derived.Lib.LaidU8
import Derived.LaidLaws
import Derived.ChangeArms
import Derived.ChangeSlices
set_option linter.all false
namespace Go.Ka
open Go.RowKit
variable [Tab]

/-- What a kind of plain values looks like in cells. -/
class Enc (α : Type) where
  sz : Nat
  enc : α → List V
  len : ∀ a, (enc a).length = sz
  cell : ∀ a, ∀ u ∈ enc a, u.cell = true
  nf : ∀ a, ∀ u ∈ enc a, NF u
open Enc (enc)

abbrev tx (s : Str) : V := .val (str s)
abbrev i64 (i : Int) : V := .val (.int .i64 i)
abbrev u8 (c : UInt8) : V := .val (.int .u8 (c.toNat : Int))
abbrev bo (b : Bool) : V := .val (.bool b)
abbrev nl : V := .val (.slice none 0 0)
abbrev ar {α : Type} [Enc α] (l : List α) : V := .arr (l.map enc)
abbrev ob {α : Type} [Enc α] (l : List α) : Ob := ⟨l.map enc, Enc.sz α⟩

theorem NF.val (v : Value) : NF (.val v) := fun _ h => by cases h
theorem NF.nz : NF .nz := fun _ h => by cases h
theorem NF.arr {els : List (List V)} (h : ∀ el ∈ els, ∀ u ∈ el, NF u) : NF (.arr els) := fun y hy => by
  cases hy with
  | arr h1 h2 h3 => exact h _ (List.mem_of_getElem? h1) _ (List.mem_of_getElem? h2) y h3
theorem NF.agg {cs : List V} (h : ∀ u ∈ cs, NF u) : NF (.agg cs) := fun y hy => by
  cases hy with
  | agg h2 h3 => exact h _ (List.mem_of_getElem? h2) y h3
theorem NF.iptr {cs : List V} (h : ∀ u ∈ cs, NF u) : NF (.iptr cs) := fun y hy => by
  cases hy with
  | iptr h2 h3 => exact h _ (List.mem_of_getElem? h2) y h3
theorem NF.tup {cs : List V} (h : ∀ u ∈ cs, NF u) : NF (.tup cs) := fun y hy => by
  cases hy with
  | tup h2 h3 => exact h _ (List.mem_of_getElem? h2) y h3
theorem NF.fn {f : Nat} {cs : List V} (h : ∀ u ∈ cs, NF u) : NF (.fn f cs) := fun y hy => by
  cases hy with
  | fn h2 h3 => exact h _ (List.mem_of_getElem? h2) y h3
theorem NF.ar {α : Type} [Enc α] (l : List α) : NF (ar l) := NF.arr fun el hel u hu => by
  obtain ⟨a, _, rfl⟩ := List.mem_map.1 hel
  exact Enc.nf a u hu

instance : Enc Str := ⟨1, fun s => [tx s], fun _ => rfl, fun _ u h => by rw [List.mem_singleton.1 h]; rfl, fun _ u h => by rw [List.mem_singleton.1 h]; exact NF.val _⟩
instance : Enc Int := ⟨1, fun i => [i64 i], fun _ => rfl, fun _ u h => by rw [List.mem_singleton.1 h]; rfl, fun _ u h => by rw [List.mem_singleton.1 h]; exact NF.val _⟩
instance : Enc UInt8 := ⟨1, fun c => [u8 c], fun _ => rfl, fun _ u h => by rw [List.mem_singleton.1 h]; rfl, fun _ u h => by rw [List.mem_singleton.1 h]; exact NF.val _⟩
instance : Enc Bool := ⟨1, fun b => [bo b], fun _ => rfl, fun _ u h => by rw [List.mem_singleton.1 h]; rfl, fun _ u h => by rw [List.mem_singleton.1 h]; exact NF.val _⟩

theorem nfn : ∀ u ∈ ([] : List V), NF u := fun _ h => by cases h
theorem nfc {a : V} {l : List V} (h : NF a) (r : ∀ u ∈ l, NF u) : ∀ u ∈ a :: l, NF u := fun u hu => by
  rcases List.mem_cons.1 hu with rfl | hu
  · exact h
  · exact r u hu
theorem cellL {l : List V} (h : l.all V.cell = true) : ∀ u ∈ l, u.cell = true := fun u hu => List.all_eq_true.1 h u hu
theorem nfv {v : Value} : NF (.val v) := NF.val v
theorem nfa {α : Type} [Enc α] {l : List α} : NF (ar l) := NF.ar l
theorem nfe {α : Type} [Enc α] {a : α} : NF (.agg (enc a)) := NF.agg (Enc.nf a)
theorem sub0 {M : Hp} : Sub (app [] M0) M := fun _ _ h => by cases h
section
variable {ρ : Nat → Nat} {D Z : List Nat} {α : Type} [Enc α]
theorem trv {v : Value} : Tr ρ D Z (.val v) (.val v) := Tr.nf nfv
theorem nfk {l : List Str} : NF (.tst l) := fun _ h => by cases h
theorem tra {l : List α} : Tr ρ D Z (ar l) (ar l) := Tr.nf nfa
theorem tro {l : List α} : TrO ρ D Z (ob l) (ob l) := TrO.nf fun el hel u hu => by
  obtain ⟨a, _, rfl⟩ := List.mem_map.1 hel
  exact ⟨Enc.nf a u hu, Enc.cell a u hu⟩
end
/-- Looked at, and of its kind. -/
theorem eI {x : V} {i : Int} (h : x = i64 i) : x = i64 i := h
theorem eU {x : V} (c : UInt8) (h : x = u8 c) : x = u8 c := h
theorem eB {x : V} {b : Bool} (h : x = bo b) : x = bo b := h
theorem eT {x : V} {s : Str} (h : x = tx s) : x = tx s := h
theorem eZ {x : V} {k : IntKind} {i : Int} (h : x = .val (.int k i)) : x = .val (.int k i) := h
theorem eV {x : V} {v : Value} (h : x = .val v) : x = .val v := h
theorem eA {x : V} {els : List (List V)} (h : x = .arr els) : x = .arr els := h
theorem eO {x : V} {i a n : Nat} (h : x = .own i a n) : x = .own i a n := h
theorem eP {x : V} {i a n : Nat} (h : x = .ptr i a n) : x = .ptr i a n := h
theorem eQ {x : V} {cs : List V} (h : x = .iptr cs) : x = .iptr cs := h
theorem eG {x : V} {cs : List V} (h : x = .agg cs) : x = .agg cs := h
theorem eW {x : V} {cs : List V} (h : x = .tup cs) : x = .tup cs := h
theorem eF {x : V} {f : Nat} {cs : List V} (h : x = .fn f cs) : x = .fn f cs := h
theorem eX {x : V} (u : V) (h : x = u) : x = u := h
theorem sX {x : Option V} (u : V) (h : x = some u) : x = some u := h
theorem sV {x : Option V} {v : Value} (h : x = some (.val v)) : x = some (.val v) := h
theorem sA {x : Option V} {els : List (List V)} (h : x = some (.arr els)) : x = some (.arr els) := h
theorem sO {x : Option V} {i a n : Nat} (h : x = some (.own i a n)) : x = some (.own i a n) := h
theorem sG {x : Option V} {cs : List V} (h : x = some (.agg cs)) : x = some (.agg cs) := h
theorem sP {x : Option V} {i a n : Nat} (h : x = some (.ptr i a n)) : x = some (.ptr i a n) := h

/-! ### What types say -/
def El (P : Program) (t sz b : Nat) : Prop := ∃ e zs, elOf P t = some e ∧ szOf P e = some sz ∧ bytOf P e = some b ∧ zcells P e = some zs ∧ zs.length = sz ∧ sz ≠ 0
def Ld (P : Program) (t : Nat) (ag : Bool) (n : Nat) : Prop := isAg P t = some ag ∧ szOf P t = some n
def Fa (P : Program) (s f d : Nat) : Prop := ∃ ft n, fOf P s f = some (d, ft) ∧ szOf P ft = some n ∧ n ≠ 0
def Fe (P : Program) (s f d : Nat) (ag : Bool) (n : Nat) : Prop := ∃ ft, fOf P s f = some (d, ft) ∧ szOf P ft = some n ∧ isAg P ft = some ag
def Bd (P : Program) (t : Nat) (zs : List V) (pl : List (Nat × Nat)) : Prop := zcells P t = some zs ∧ plOf P t = some pl

def cmpI (op : BinOp) (a b : Int) : Option Bool := match op with
  | .eql => some (a == b)
  | .neq => some (a != b)
  | .lss => some (decide (a < b))
  | .leq => some (decide (a ≤ b))
  | .gtr => some (decide (a > b))
  | .geq => some (decide (a ≥ b))
  | _ => none
theorem cmpI_run {op : BinOp} {k : IntKind} {a b : Int} {c : Bool} (h : cmpI op a b = some c) : pbin op (.int k a) (.int k b) = some (.bool c) := by
  cases op <;> simp [cmpI] at h <;> (subst h; simp [pbin, pint])
def cmpU (op : BinOp) (a b : UInt8) : Option Bool := match op with
  | .eql => some (a == b)
  | .neq => some (a != b)
  | .lss => some (decide (a < b))
  | .leq => some (decide (a ≤ b))
  | .gtr => some (decide (b < a))
  | .geq => some (decide (b ≤ a))
  | _ => none
theorem cmpU_run {op : BinOp} {a b : UInt8} {c : Bool} (h : cmpU op a b = some c) : pbin op (.int .u8 (a.toNat : Int)) (.int .u8 (b.toNat : Int)) = some (.bool c) := by
  have e : ((a.toNat : Int) == (b.toNat : Int)) = (a == b) := by
    rw [Bool.eq_iff_iff]; simp only [beq_iff_eq, ← UInt8.toNat_inj]; omega
  cases op <;> simp [cmpU] at h <;> subst h
  · simp [pbin, pint, e]
  · simp [pbin, pint, bne, e]
  · simp [pbin, pint, UInt8.lt_iff_toNat_lt]
  · simp [pbin, pint, UInt8.le_iff_toNat_le]
  · simp [pbin, pint, UInt8.lt_iff_toNat_lt]
  · simp [pbin, pint, UInt8.le_iff_toNat_le]
def cmpT (op : BinOp) (a b : Str) : Option Bool := match op with
  | .eql => some (a == b)
  | .neq => some (!(a == b))
  | .lss => some (Op.bytesLess a b)
  | .leq => some (Op.bytesLess a b || a == b)
  | .gtr => some (!(Op.bytesLess a b || a == b))
  | .geq => some (!Op.bytesLess a b)
  | _ => none
theorem cmpT_run {op : BinOp} {a b : Str} {c : Bool} (h : cmpT op a b = some c) : pbin op (str a) (str b) = some (.bool c) := by
  cases op <;> simp only [cmpT, Option.some.injEq, reduceCtorEq] at h <;> (subst h; simp [pbin, pstr, str])

theorem wrap_i64 {z : Int} (h1 : -9223372036854775808 ≤ z) (h2 : z < 9223372036854775808) : IntKind.i64.wrap z = z := by
  have e : IntKind.i64.wrap z = if z % 18446744073709551616 ≥ 9223372036854775808 then z % 18446744073709551616 - 18446744073709551616 else z % 18446744073709551616 := by
    simp [IntKind.wrap, IntKind.bits, IntKind.signed]
  rw [e]
  split <;> omega
def arI (op : BinOp) (a b : Int) : Option Int := match op with
  | .add => addO a b
  | .sub => subO a b
  | .mul => mulO a b
  | .quo => quoO a b
  | .rem => remO a b
  | .and => some (pbits .and .i64 a b)
  | .or => some (pbits .or .i64 a b)
  | .xor => some (pbits .xor .i64 a b)
  | _ => none
theorem arI_run {op : BinOp} {a b c : Int} (h : arI op a b = some c) : pbin op (.int .i64 a) (.int .i64 b) = some (.int .i64 c) := by
  cases op <;> simp only [arI] at h
  · obtain ⟨h1, rfl⟩ := okO_inv h; have := inR_iff.1 h1; simp [pbin, pint, wrap_i64 this.1 this.2]
  · obtain ⟨h1, rfl⟩ := okO_inv h; have := inR_iff.1 h1; simp [pbin, pint, wrap_i64 this.1 this.2]
  · obtain ⟨h1, rfl⟩ := okO_inv h; have := inR_iff.1 h1; simp [pbin, pint, wrap_i64 this.1 this.2]
  · obtain ⟨h1, rfl⟩ := okO_inv h
    simp only [Bool.and_eq_true, Bool.not_eq_true', decide_eq_false_iff_not] at h1
    have := inR_iff.1 h1.2; simp [pbin, pint, wrap_i64 this.1 this.2, h1.1]
  · obtain ⟨h1, rfl⟩ := okO_inv h
    simp only [Bool.not_eq_true', decide_eq_false_iff_not] at h1
    simp [pbin, pint, h1]
  · cases h; simp [pbin, pint]
  · cases h; simp [pbin, pint]
  · cases h; simp [pbin, pint]
  all_goals cases h
/-- Words that wrap round. -/
def arZ (op : BinOp) (k : IntKind) (a b : Int) : Option Int := match op with
  | .add => some (k.wrap (a + b))
  | .sub => some (k.wrap (a - b))
  | .mul => some (k.wrap (a * b))
  | .quo => okO (!decide (b = 0)) (k.wrap (a.tdiv b))
  | .rem => remO a b
  | .and => some (pbits .and k a b)
  | .or => some (pbits .or k a b)
  | .xor => some (pbits .xor k a b)
  | _ => none
theorem arZ_run {op : BinOp} {k : IntKind} {a b c : Int} (h : arZ op k a b = some c) : pbin op (.int k a) (.int k b) = some (.int k c) := by
  cases op <;> simp only [arZ] at h
  · cases h; simp [pbin, pint]
  · cases h; simp [pbin, pint]
  · cases h; simp [pbin, pint]
  · obtain ⟨h1, rfl⟩ := okO_inv h
    simp only [Bool.not_eq_true', decide_eq_false_iff_not] at h1
    simp [pbin, pint, h1]
  · obtain ⟨h1, rfl⟩ := okO_inv h
    simp only [Bool.not_eq_true', decide_eq_false_iff_not] at h1
    simp [pbin, pint, h1]
  · cases h; simp [pbin, pint]
  · cases h; simp [pbin, pint]
  · cases h; simp [pbin, pint]
  all_goals cases h
theorem wrap_u8 (z : Int) : IntKind.u8.wrap z = z % 256 := by
  simp [IntKind.wrap, IntKind.bits, IntKind.signed]
theorem toU8_val (z : Int) : ((toU8 z).toNat : Int) = z % 256 := by
  unfold toU8
  simp
  omega
/-- Bytes that wrap round. -/
def arU (op : BinOp) (a b : UInt8) : Option UInt8 := match op with
  | .add => some (a + b)
  | .sub => some (a - b)
  | .quo => okO (!decide (b = 0)) (a / b)
  | .rem => okO (!decide (b = 0)) (a % b)
  | .and => some (a &&& b)
  | .or => some (a ||| b)
  | _ => none
theorem u8_zero {b : UInt8} : ((b.toNat : Int) = 0) ↔ b = 0 := by
  rw [← UInt8.toNat_inj]; simp
theorem bits_u8 (a : UInt8) : BitVec.ofInt IntKind.u8.bits (a.toNat : Int) = a.toBitVec := by
  apply BitVec.eq_of_toNat_eq
  show (BitVec.ofInt 8 _).toNat = _
  rw [BitVec.toNat_ofInt]
  have := a.toNat_lt
  show ((a.toNat : Int) % ((2 ^ 8 : Nat) : Int)).toNat = a.toNat
  omega
theorem arU_run {op : BinOp} {a b c : UInt8} (h : arU op a b = some c) : pbin op (.int .u8 (a.toNat : Int)) (.int .u8 (b.toNat : Int)) = some (.int .u8 (c.toNat : Int)) := by
  have ha := a.toNat_lt
  have hb := b.toNat_lt
  cases op <;> simp only [arU] at h
  · cases h; simp [pbin, pint, wrap_u8, UInt8.toNat_add]
  · cases h; simp [pbin, pint, wrap_u8, UInt8.toNat_sub]; omega
  · cases h
  · obtain ⟨h1, rfl⟩ := okO_inv h
    simp only [Bool.not_eq_true', decide_eq_false_iff_not] at h1
    have h0 : ¬ (b.toNat : Int) = 0 := fun e => h1 (u8_zero.1 e)
    have e : ((a.toNat : Int).tdiv (b.toNat : Int)) = ((a.toNat / b.toNat : Nat) : Int) := by
      rw [Int.tdiv_eq_ediv_of_nonneg (by omega)]; simp
    have h2 : a.toNat / b.toNat < 256 := Nat.lt_of_le_of_lt (Nat.div_le_self _ _) ha
    simp only [pbin, pint]
    rw [if_neg (by simp), if_pos trivial, if_neg h0, e, wrap_u8, UInt8.toNat_div]
    generalize a.toNat / b.toNat = q at h2
    congr 2
    omega
  · obtain ⟨h1, rfl⟩ := okO_inv h
    simp only [Bool.not_eq_true', decide_eq_false_iff_not] at h1
    have h0 : ¬ (b.toNat : Int) = 0 := fun e => h1 (u8_zero.1 e)
    have e : ((a.toNat : Int).tmod (b.toNat : Int)) = ((a.toNat % b.toNat : Nat) : Int) := by
      rw [Int.tmod_eq_emod_of_nonneg (by omega)]; simp
    simp only [pbin, pint]
    rw [if_neg (by simp), if_pos trivial, if_neg h0, e, UInt8.toNat_mod]
  · cases h
    simp only [pbin, pint, pbits]
    rw [if_neg (by simp), if_pos trivial, bits_u8, bits_u8, wrap_u8]
    have : (a &&& b).toNat < 256 := (a &&& b).toNat_lt
    show some (Value.int .u8 (((a &&& b).toNat : Int) % 256)) = _
    congr 2
    omega
  · cases h
    simp only [pbin, pint, pbits]
    rw [if_neg (by simp), if_pos trivial, bits_u8, bits_u8, wrap_u8]
    have : (a ||| b).toNat < 256 := (a ||| b).toNat_lt
    show some (Value.int .u8 (((a ||| b).toNat : Int) % 256)) = _
    congr 2
    omega
  all_goals cases h
/-- A byte, shifted. -/
def shU (op : BinOp) (a : UInt8) (n : Int) : Option UInt8 := match op with
  | .shr => okO (decide (0 ≤ n)) (UInt8.ofNat (a.toNat / 2 ^ min n.toNat 8))
  | .shl => okO (decide (0 ≤ n)) (toU8 ((a.toNat : Int) * 2 ^ min n.toNat 8))
  | _ => none
theorem shU_run {op : BinOp} {a c : UInt8} {k : IntKind} {n : Int} (h : shU op a n = some c) : pbin op (.int .u8 (a.toNat : Int)) (.int k n) = some (.int .u8 (c.toNat : Int)) := by
  have ha := a.toNat_lt
  cases op <;> simp only [shU] at h
  case shr =>
    obtain ⟨h1, rfl⟩ := okO_inv h
    have h1 : 0 ≤ n := by simpa using h1
    have e : ((a.toNat : Int).fdiv (2 ^ min n.toNat 8)) = ((a.toNat / 2 ^ min n.toNat 8 : Nat) : Int) := by
      rw [Int.fdiv_eq_ediv_of_nonneg _ (Int.pow_nonneg (by omega))]; simp
    have h2 : a.toNat / 2 ^ min n.toNat 8 < 256 := Nat.lt_of_le_of_lt (Nat.div_le_self _ _) ha
    have h3 : (UInt8.ofNat (a.toNat / 2 ^ min n.toNat 8)).toNat = a.toNat / 2 ^ min n.toNat 8 := by
      rw [UInt8.toNat_ofNat']; exact Nat.mod_eq_of_lt h2
    simp only [pbin, pshift, IntKind.bits]
    rw [if_pos (.inr trivial), if_pos h1, e, h3]
  case shl =>
    obtain ⟨h1, rfl⟩ := okO_inv h
    have h1 : 0 ≤ n := by simpa using h1
    simp only [pbin, pshift, IntKind.bits]
    rw [if_pos (.inl trivial), if_pos h1, wrap_u8, toU8_val]
  all_goals cases h
def shZ (op : BinOp) (k : IntKind) (a n : Int) : Option Int := match op with
  | .shr => okO (decide (0 ≤ n)) (a.fdiv (2 ^ min n.toNat k.bits))
  | .shl => okO (decide (0 ≤ n)) (k.wrap (a * 2 ^ min n.toNat k.bits))
  | _ => none
theorem shZ_run {op : BinOp} {k k' : IntKind} {a c n : Int} (h : shZ op k a n = some c) : pbin op (.int k a) (.int k' n) = some (.int k c) := by
  cases op <;> simp only [shZ] at h
  case shr =>
    obtain ⟨h1, rfl⟩ := okO_inv h
    have h1 : 0 ≤ n := by simpa using h1
    simp only [pbin, pshift]
    rw [if_pos (.inr trivial), if_pos h1]
  case shl =>
    obtain ⟨h1, rfl⟩ := okO_inv h
    have h1 : 0 ≤ n := by simpa using h1
    simp only [pbin, pshift]
    rw [if_pos (.inl trivial), if_pos h1]
  all_goals cases h

/-- A cut's bound. -/
def bn (σ : Nat → V) : Option Operand → Int → Option Int
  | none, d => some d
  | some x, _ => match ev σ x with
    | .val (.int _ i) => some i
    | _ => none
theorem bn_vbd {σ : Nat → V} {lo : Option Operand} {d : Nat} {a : Int} (h : bn σ lo d = some a) (h0 : 0 ≤ a) : vbd σ lo d = some a.toNat := by
  cases lo with
  | none => simp only [bn, Option.some.injEq] at h; subst h; simp [vbd]
  | some x =>
    simp only [bn] at h
    split at h
    · rename_i k i hx
      cases h
      simp [vbd, hx, h0]
    · cases h

section
variable {G : Rg} {os : List Oper} {i : Nat} {σ σ' : Nat → V} {M M' : Hp} {u : V} {ds : List Yd}
variable {d : Option Nat} {ty : Nat} {pos : String} {aft : Array Edge} {g : Option (Nat × Bool)} {x y : Operand} {t : Nat}

theorem x_mv (hx : ev σ x = u) (c : Ck G ⟨d, .move x, ty, pos, aft, g⟩ i σ []) (r : Lx G os (i + 1) (upd σ d u) M ds σ' M') : Lx G (⟨d, .move x, ty, pos, aft, g⟩ :: os) i σ M (⟨u, []⟩ :: ds) σ' M' :=
  lx_on c (fun _ _ _ => w_move ⟨(ev_see (by simp [Op.operands])).trans hx, rfl⟩) r
theorem x_as (hx : ev σ x = u) (c : Ck G ⟨d, .assign x, ty, pos, aft, g⟩ i σ []) (r : Lx G os (i + 1) (upd σ d u) M ds σ' M') : Lx G (⟨d, .assign x, ty, pos, aft, g⟩ :: os) i σ M (⟨u, []⟩ :: ds) σ' M' :=
  lx_on c (fun _ _ _ => w_assign ⟨(ev_see (by simp [Op.operands])).trans hx, rfl⟩) r
theorem x_pt {z : Operand} {b : Bool} (hz : ev σ z = bo b) (hb : b = true) (hx : ev σ x = u) (c : Ck G ⟨d, .pick z x y, ty, pos, aft, g⟩ i σ []) (r : Lx G os (i + 1) (upd σ d u) M ds σ' M') : Lx G (⟨d, .pick z x y, ty, pos, aft, g⟩ :: os) i σ M (⟨u, []⟩ :: ds) σ' M' :=
  lx_on c (fun _ _ _ => w_pick ((ev_see (by simp [Op.operands])).trans hz) (by subst hb; exact ⟨(ev_see (by simp [Op.operands])).trans hx, rfl⟩)) r
theorem x_pf {z : Operand} {b : Bool} (hz : ev σ z = bo b) (hb : b = false) (hy : ev σ y = u) (c : Ck G ⟨d, .pick z x y, ty, pos, aft, g⟩ i σ []) (r : Lx G os (i + 1) (upd σ d u) M ds σ' M') : Lx G (⟨d, .pick z x y, ty, pos, aft, g⟩ :: os) i σ M (⟨u, []⟩ :: ds) σ' M' :=
  lx_on c (fun _ _ _ => w_pick ((ev_see (by simp [Op.operands])).trans hz) (by subst hb; exact ⟨(ev_see (by simp [Op.operands])).trans hy, rfl⟩)) r
theorem x_ex {vs : List V} {k : Nat} (hx : ev σ x = .tup vs) (hu : vs[k]? = some u) (c : Ck G ⟨d, .extract x k, ty, pos, aft, g⟩ i σ []) (r : Lx G os (i + 1) (upd σ d u) M ds σ' M') : Lx G (⟨d, .extract x k, ty, pos, aft, g⟩ :: os) i σ M (⟨u, []⟩ :: ds) σ' M' :=
  lx_on c (fun _ _ _ => w_extract ((ev_see (by simp [Op.operands])).trans hx) hu ⟨rfl, rfl⟩) r
theorem x_ld {n : Nat} {ag : Bool} {p : V} {cs : List V} (L : Ld G.P t ag n) (hx : ev σ x = p) (hc : pcells (hideL (G.h i) M) p = some cs) (hu : vload ag n cs = some u) (c : Ck G ⟨d, .load t x, ty, pos, aft, g⟩ i σ []) (r : Lx G os (i + 1) (upd σ d u) M ds σ' M') : Lx G (⟨d, .load t x, ty, pos, aft, g⟩ :: os) i σ M (⟨u, []⟩ :: ds) σ' M' :=
  lx_on c (fun _ _ hs => w_load L.1 L.2 (by rw [(ev_see (by simp [Op.operands])).trans hx]; exact pcells_mono hs hc) hu ⟨rfl, rfl⟩) r
/-- A place in an object of its own kind of elements. -/
theorem x_ldE {α : Type} [Enc α] {n id k off : Nat} {ag : Bool} {l : List α} {a : α} (L : Ld G.P t ag n) (hx : ev σ x = .ptr id k off) (hm : hideL (G.h i) M id = some (ob l)) (ha : l[k]? = some a) (hu : vload ag n ((enc a).drop off) = some u) (c : Ck G ⟨d, .load t x, ty, pos, aft, g⟩ i σ []) (r : Lx G os (i + 1) (upd σ d u) M ds σ' M') : Lx G (⟨d, .load t x, ty, pos, aft, g⟩ :: os) i σ M (⟨u, []⟩ :: ds) σ' M' :=
  x_ld L hx (by simp only [pcells, hm, Option.bind_some, List.getElem?_map, ha, Option.map_some]) hu c r
theorem x_ci {op : BinOp} {t' : Nat} {k : IntKind} {a b : Int} {e : Bool} (hx : ev σ x = .val (.int k a)) (hy : ev σ y = .val (.int k b)) (h : cmpI op a b = some e) (c : Ck G ⟨d, .binOp op t x y t', ty, pos, aft, g⟩ i σ []) (r : Lx G os (i + 1) (upd σ d (bo e)) M ds σ' M') : Lx G (⟨d, .binOp op t x y t', ty, pos, aft, g⟩ :: os) i σ M (⟨bo e, []⟩ :: ds) σ' M' :=
  lx_on c (fun _ _ _ => w_binOp ((ev_see (by simp [Op.operands])).trans hx) ((ev_see (by simp [Op.operands])).trans hy) (cmpI_run h) ⟨rfl, rfl⟩) r
theorem x_cu {op : BinOp} {t' : Nat} {a b : UInt8} {e : Bool} (hx : ev σ x = u8 a) (hy : ev σ y = u8 b) (h : cmpU op a b = some e) (c : Ck G ⟨d, .binOp op t x y t', ty, pos, aft, g⟩ i σ []) (r : Lx G os (i + 1) (upd σ d (bo e)) M ds σ' M') : Lx G (⟨d, .binOp op t x y t', ty, pos, aft, g⟩ :: os) i σ M (⟨bo e, []⟩ :: ds) σ' M' :=
  lx_on c (fun _ _ _ => w_binOp ((ev_see (by simp [Op.operands])).trans hx) ((ev_see (by simp [Op.operands])).trans hy) (cmpU_run h) ⟨rfl, rfl⟩) r
theorem x_ct {op : BinOp} {t' : Nat} {a b : Str} {e : Bool} (hx : ev σ x = tx a) (hy : ev σ y = tx b) (h : cmpT op a b = some e) (c : Ck G ⟨d, .binOp op t x y t', ty, pos, aft, g⟩ i σ []) (r : Lx G os (i + 1) (upd σ d (bo e)) M ds σ' M') : Lx G (⟨d, .binOp op t x y t', ty, pos, aft, g⟩ :: os) i σ M (⟨bo e, []⟩ :: ds) σ' M' :=
  lx_on c (fun _ _ _ => w_binOp ((ev_see (by simp [Op.operands])).trans hx) ((ev_see (by simp [Op.operands])).trans hy) (cmpT_run h) ⟨rfl, rfl⟩) r
theorem x_ai {op : BinOp} {t' : Nat} {a b e : Int} (hx : ev σ x = i64 a) (hy : ev σ y = i64 b) (h : arI op a b = some e) (c : Ck G ⟨d, .binOp op t x y t', ty, pos, aft, g⟩ i σ []) (r : Lx G os (i + 1) (upd σ d (i64 e)) M ds σ' M') : Lx G (⟨d, .binOp op t x y t', ty, pos, aft, g⟩ :: os) i σ M (⟨i64 e, []⟩ :: ds) σ' M' :=
  lx_on c (fun _ _ _ => w_binOp ((ev_see (by simp [Op.operands])).trans hx) ((ev_see (by simp [Op.operands])).trans hy) (arI_run h) ⟨rfl, rfl⟩) r
theorem x_az {op : BinOp} {t' : Nat} {k : IntKind} {a b e : Int} (hx : ev σ x = .val (.int k a)) (hy : ev σ y = .val (.int k b)) (h : arZ op k a b = some e) (c : Ck G ⟨d, .binOp op t x y t', ty, pos, aft, g⟩ i σ []) (r : Lx G os (i + 1) (upd σ d (.val (.int k e))) M ds σ' M') : Lx G (⟨d, .binOp op t x y t', ty, pos, aft, g⟩ :: os) i σ M (⟨.val (.int k e), []⟩ :: ds) σ' M' :=
  lx_on c (fun _ _ _ => w_binOp ((ev_see (by simp [Op.operands])).trans hx) ((ev_see (by simp [Op.operands])).trans hy) (arZ_run h) ⟨rfl, rfl⟩) r
theorem x_au {op : BinOp} {t' : Nat} {a b e : UInt8} (hx : ev σ x = u8 a) (hy : ev σ y = u8 b) (h : arU op a b = some e) (c : Ck G ⟨d, .binOp op t x y t', ty, pos, aft, g⟩ i σ []) (r : Lx G os (i + 1) (upd σ d (u8 e)) M ds σ' M') : Lx G (⟨d, .binOp op t x y t', ty, pos, aft, g⟩ :: os) i σ M (⟨u8 e, []⟩ :: ds) σ' M' :=
  lx_on c (fun _ _ _ => w_binOp ((ev_see (by simp [Op.operands])).trans hx) ((ev_see (by simp [Op.operands])).trans hy) (arU_run h) ⟨rfl, rfl⟩) r
theorem x_su {op : BinOp} {t' : Nat} {k : IntKind} {a e : UInt8} {b : Int} (hx : ev σ x = u8 a) (hy : ev σ y = .val (.int k b)) (h : shU op a b = some e) (c : Ck G ⟨d, .binOp op t x y t', ty, pos, aft, g⟩ i σ []) (r : Lx G os (i + 1) (upd σ d (u8 e)) M ds σ' M') : Lx G (⟨d, .binOp op t x y t', ty, pos, aft, g⟩ :: os) i σ M (⟨u8 e, []⟩ :: ds) σ' M' :=
  lx_on c (fun _ _ _ => w_binOp ((ev_see (by simp [Op.operands])).trans hx) ((ev_see (by simp [Op.operands])).trans hy) (shU_run h) ⟨rfl, rfl⟩) r
theorem x_sz {op : BinOp} {t' : Nat} {k k' : IntKind} {a b e : Int} (hx : ev σ x = .val (.int k a)) (hy : ev σ y = .val (.int k' b)) (h : shZ op k a b = some e) (c : Ck G ⟨d, .binOp op t x y t', ty, pos, aft, g⟩ i σ []) (r : Lx G os (i + 1) (upd σ d (.val (.int k e))) M ds σ' M') : Lx G (⟨d, .binOp op t x y t', ty, pos, aft, g⟩ :: os) i σ M (⟨.val (.int k e), []⟩ :: ds) σ' M' :=
  lx_on c (fun _ _ _ => w_binOp ((ev_see (by simp [Op.operands])).trans hx) ((ev_see (by simp [Op.operands])).trans hy) (shZ_run h) ⟨rfl, rfl⟩) r
theorem cat_run {a b e : Str} (h : catO a b = some e) : pbin .add (str a) (str b) = some (str e) := by
  obtain ⟨h1, rfl⟩ := okO_inv h
  have h1 : a.length + b.length ≤ 9223372036854775807 := by simpa using h1
  simp [pbin, pstr, str, h1]
theorem x_cat {t' : Nat} {a b e : Str} (hx : ev σ x = tx a) (hy : ev σ y = tx b) (h : catO a b = some e) (c : Ck G ⟨d, .binOp .add t x y t', ty, pos, aft, g⟩ i σ []) (r : Lx G os (i + 1) (upd σ d (tx e)) M ds σ' M') : Lx G (⟨d, .binOp .add t x y t', ty, pos, aft, g⟩ :: os) i σ M (⟨tx e, []⟩ :: ds) σ' M' :=
  lx_on c (fun _ _ _ => w_binOp ((ev_see (by simp [Op.operands])).trans hx) ((ev_see (by simp [Op.operands])).trans hy) (cat_run h) ⟨rfl, rfl⟩) r
theorem x_not {b : Bool} (hx : ev σ x = bo b) (c : Ck G ⟨d, .unOp .not t x, ty, pos, aft, g⟩ i σ []) (r : Lx G os (i + 1) (upd σ d (bo (!b))) M ds σ' M') : Lx G (⟨d, .unOp .not t x, ty, pos, aft, g⟩ :: os) i σ M (⟨bo (!b), []⟩ :: ds) σ' M' :=
  lx_on c (fun _ _ _ => w_unOp ((ev_see (by simp [Op.operands])).trans hx) rfl ⟨rfl, rfl⟩) r
theorem x_neg {k : IntKind} {a : Int} (hx : ev σ x = .val (.int k a)) (c : Ck G ⟨d, .unOp .neg t x, ty, pos, aft, g⟩ i σ []) (r : Lx G os (i + 1) (upd σ d (.val (.int k (k.wrap (0 - a))))) M ds σ' M') : Lx G (⟨d, .unOp .neg t x, ty, pos, aft, g⟩ :: os) i σ M (⟨.val (.int k (k.wrap (0 - a))), []⟩ :: ds) σ' M' :=
  lx_on c (fun _ _ _ => w_unOp ((ev_see (by simp [Op.operands])).trans hx) rfl ⟨rfl, rfl⟩) r
theorem x_fp {s f dd id j off : Nat} (F : Fa G.P s f dd) (hx : ev σ x = .ptr id j off) (c : Ck G ⟨d, .fieldAddr s x f, ty, pos, aft, g⟩ i σ []) (r : Lx G os (i + 1) (upd σ d (.ptr id j (off + dd))) M ds σ' M') : Lx G (⟨d, .fieldAddr s x f, ty, pos, aft, g⟩ :: os) i σ M (⟨.ptr id j (off + dd), []⟩ :: ds) σ' M' := by
  obtain ⟨ft, n, h1, h2, h3⟩ := F
  exact lx_on c (fun _ _ _ => w_fieldAddr h1 h2 h3 (.inr ⟨_, _, _, (ev_see (by simp [Op.operands])).trans hx, rfl⟩) ⟨rfl, rfl⟩) r
theorem x_fq {s f dd : Nat} {cs : List V} (F : Fa G.P s f dd) (hx : ev σ x = .iptr cs) (c : Ck G ⟨d, .fieldAddr s x f, ty, pos, aft, g⟩ i σ []) (r : Lx G os (i + 1) (upd σ d (.iptr (cs.drop dd))) M ds σ' M') : Lx G (⟨d, .fieldAddr s x f, ty, pos, aft, g⟩ :: os) i σ M (⟨.iptr (cs.drop dd), []⟩ :: ds) σ' M' := by
  obtain ⟨ft, n, h1, h2, h3⟩ := F
  exact lx_on c (fun _ _ _ => w_fieldAddr h1 h2 h3 (.inl ⟨_, (ev_see (by simp [Op.operands])).trans hx, rfl⟩) ⟨rfl, rfl⟩) r
theorem x_fd {s f dd n : Nat} {ag : Bool} {cs : List V} (F : Fe G.P s f dd ag n) (hx : ev σ x = .agg cs) (hu : vload ag n (cs.drop dd) = some u) (c : Ck G ⟨d, .field s x f, ty, pos, aft, g⟩ i σ []) (r : Lx G os (i + 1) (upd σ d u) M ds σ' M') : Lx G (⟨d, .field s x f, ty, pos, aft, g⟩ :: os) i σ M (⟨u, []⟩ :: ds) σ' M' := by
  obtain ⟨ft, h1, h2, h3⟩ := F
  exact lx_on c (fun _ _ _ => w_field h1 h2 h3 ((ev_see (by simp [Op.operands])).trans hx) hu ⟨rfl, rfl⟩) r
theorem x_lnT {s : Str} (T : isStr G.P t = true) (hx : ev σ x = tx s) (c : Ck G ⟨d, .call ⟨.builtin .len, #[x], #[t]⟩, ty, pos, aft, g⟩ i σ []) (r : Lx G os (i + 1) (upd σ d (i64 (s.length : Int))) M ds σ' M') : Lx G (⟨d, .call ⟨.builtin .len, #[x], #[t]⟩, ty, pos, aft, g⟩ :: os) i σ M (⟨i64 (s.length : Int), []⟩ :: ds) σ' M' :=
  lx_on c (fun _ _ _ => w_lenStr (isStr_und T) ((ev_see (by simp [Op.operands, Call.operands])).trans hx) ⟨by simp, rfl⟩) r
theorem x_ln {sz b n : Nat} (E : El G.P t sz b) (hx : vlen (ev σ x) = some n) (c : Ck G ⟨d, .call ⟨.builtin .len, #[x], #[t]⟩, ty, pos, aft, g⟩ i σ []) (r : Lx G os (i + 1) (upd σ d (i64 (n : Int))) M ds σ' M') : Lx G (⟨d, .call ⟨.builtin .len, #[x], #[t]⟩, ty, pos, aft, g⟩ :: os) i σ M (⟨i64 (n : Int), []⟩ :: ds) σ' M' := by
  obtain ⟨e, zs, h1, _⟩ := E
  exact lx_on c (fun _ _ _ => w_len h1 (by rw [ev_see (by simp [Op.operands, Call.operands])]; exact hx) ⟨rfl, rfl⟩) r
/-- The length of a list that nobody writes. -/
theorem x_lnA {α : Type} [Enc α] {sz b : Nat} {l : List α} (E : El G.P t sz b) (hx : ev σ x = ar l) (c : Ck G ⟨d, .call ⟨.builtin .len, #[x], #[t]⟩, ty, pos, aft, g⟩ i σ []) (r : Lx G os (i + 1) (upd σ d (i64 (l.length : Int))) M ds σ' M') : Lx G (⟨d, .call ⟨.builtin .len, #[x], #[t]⟩, ty, pos, aft, g⟩ :: os) i σ M (⟨i64 (l.length : Int), []⟩ :: ds) σ' M' :=
  x_ln E (by rw [hx]; simp [vlen]) c r
theorem x_ixT {s : Str} {k : IntKind} {j : Int} {b : UInt8} (T : isStr G.P t = true) (hx : ev σ x = tx s) (hy : ev σ y = .val (.int k j)) (h : lgetO s j = some b) (c : Ck G ⟨d, .index t x y, ty, pos, aft, g⟩ i σ []) (r : Lx G os (i + 1) (upd σ d (u8 b)) M ds σ' M') : Lx G (⟨d, .index t x y, ty, pos, aft, g⟩ :: os) i σ M (⟨u8 b, []⟩ :: ds) σ' M' := by
  obtain ⟨h0, h1, h2⟩ := lgetO_some h
  exact lx_on c (fun _ _ _ => w_index (s := ⟨s.toArray⟩) (isStr_und T) ((ev_see (by simp [Op.operands])).trans hx) ((ev_see (by simp [Op.operands])).trans hy) h0 (by simpa using h2) ⟨by simp [List.getD_eq_getElem?_getD, h1], rfl⟩) r
theorem x_slT {s e : Str} {lo hi : Option Operand} {a b : Int} (T : isStr G.P t = true) (hx : ev σ x = tx s) (hl : bn σ lo 0 = some a) (hh : bn σ hi (s.length : Int) = some b) (h : lsubO s a b = some e) (c : Ck G ⟨d, .slice t x lo hi none, ty, pos, aft, g⟩ i σ []) (r : Lx G os (i + 1) (upd σ d (tx e)) M ds σ' M') : Lx G (⟨d, .slice t x lo hi none, ty, pos, aft, g⟩ :: os) i σ M (⟨tx e, []⟩ :: ds) σ' M' := by
  obtain ⟨h1, rfl⟩ := okO_inv h
  have h1 : (0 ≤ a ∧ a ≤ b) ∧ b ≤ s.length := by simpa using h1
  have hb : bn σ lo (0 : Nat) = some a := hl
  refine lx_on c (fun _ _ _ => w_sliceStr (s := ⟨s.toArray⟩) (l := a.toNat) (h := b.toNat) (isStr_und T) ((ev_see (by simp [Op.operands])).trans hx) ?_ ?_ (by omega) (by simp; omega) ⟨by simp, rfl⟩) r
  · rw [vbd_congr (σ' := σ) fun y hy => ev_see (by simp [Op.operands] at hy ⊢; simp [hy])]; exact bn_vbd hb h1.1.1
  · rw [vbd_congr (σ' := σ) fun y hy => ev_see (by simp [Op.operands] at hy ⊢; simp [hy])]; simp only [List.toList_toArray]; exact bn_vbd hh (by omega)
theorem x_ia {α : Type} [Enc α] {sz b : Nat} {l : List α} {k : IntKind} {j : Int} {a : α} (E : El G.P t sz b) (hz : sz = Enc.sz α) (hx : ev σ x = ar l) (hy : ev σ y = .val (.int k j)) (h : lgetO l j = some a) (c : Ck G ⟨d, .indexAddr t x y, ty, pos, aft, g⟩ i σ []) (r : Lx G os (i + 1) (upd σ d (.iptr (enc a))) M ds σ' M') : Lx G (⟨d, .indexAddr t x y, ty, pos, aft, g⟩ :: os) i σ M (⟨.iptr (enc a), []⟩ :: ds) σ' M' := by
  obtain ⟨e, zs, h1, h2, _⟩ := E
  obtain ⟨g0, g1, g2⟩ := lgetO_some h
  exact lx_on c (fun _ _ _ => w_indexAddr h1 h2 ((ev_see (by simp [Op.operands])).trans hy) g0 (u := .iptr (enc a)) (by rw [(ev_see (by simp [Op.operands])).trans hx]; simp [vidx, g1, Enc.len, hz]) ⟨rfl, rfl⟩) r
/-- A place in an object of the walk's own. -/
theorem x_io {α : Type} [Enc α] {sz b id n : Nat} {l : List α} {k : IntKind} {j : Int} (E : El G.P t sz b) (hz : sz = Enc.sz α) (hx : ev σ x = .own id 0 n) (hm : hideL (G.h i) M id = some (ob l)) (hy : ev σ y = .val (.int k j)) (h : (decide (0 ≤ j) && decide (j < n)) = true) (c : Ck G ⟨d, .indexAddr t x y, ty, pos, aft, g⟩ i σ []) (r : Lx G os (i + 1) (upd σ d (.ptr id j.toNat 0)) M ds σ' M') : Lx G (⟨d, .indexAddr t x y, ty, pos, aft, g⟩ :: os) i σ M (⟨.ptr id j.toNat 0, []⟩ :: ds) σ' M' := by
  obtain ⟨e, zs, h1, h2, _⟩ := E
  have h : 0 ≤ j ∧ j < n := by simpa using h
  exact lx_on c (fun _ _ hs => w_indexAddr h1 h2 ((ev_see (by simp [Op.operands])).trans hy) h.1 (u := .ptr id j.toNat 0) (by
    rw [(ev_see (by simp [Op.operands])).trans hx]
    refine vidx_mono hs ?_
    simp only [vidx, hm]
    rw [if_pos (by omega)]
    simp [hz]) ⟨rfl, rfl⟩) r
theorem x_sl {sz b n : Nat} {lo hi : Option Operand} {a e : Int} (E : El G.P t sz b) (hn : vlen (ev σ x) = some n) (hl : bn σ lo 0 = some a) (hh : bn σ hi (n : Int) = some e) (h0 : 0 ≤ a ∧ 0 ≤ e) (hu : vcut (hideL (G.h i) M) sz (ev σ x) a.toNat e.toNat = some u) (c : Ck G ⟨d, .slice t x lo hi none, ty, pos, aft, g⟩ i σ []) (r : Lx G os (i + 1) (upd σ d u) M ds σ' M') : Lx G (⟨d, .slice t x lo hi none, ty, pos, aft, g⟩ :: os) i σ M (⟨u, []⟩ :: ds) σ' M' := by
  obtain ⟨q, zs, h1, h2, _⟩ := E
  have hb : bn σ lo (0 : Nat) = some a := hl
  refine lx_on c (fun _ _ hs => w_slice (n := n) (l := a.toNat) (h := e.toNat) h1 h2 (by rw [ev_see (by simp [Op.operands])]; exact hn) ?_ ?_ (by rw [ev_see (by simp [Op.operands])]; exact vcut_mono hs hu) ⟨rfl, rfl⟩) r
  · rw [vbd_congr (σ' := σ) fun y hy => ev_see (by simp [Op.operands] at hy ⊢; simp [hy])]; exact bn_vbd hb h0.1
  · rw [vbd_congr (σ' := σ) fun y hy => ev_see (by simp [Op.operands] at hy ⊢; simp [hy])]; exact bn_vbd hh h0.2
theorem x_slA {α : Type} [Enc α] {sz b : Nat} {l l' : List α} {lo hi : Option Operand} {a e : Int} (E : El G.P t sz b) (hz : sz = Enc.sz α) (hx : ev σ x = ar l) (hl : bn σ lo 0 = some a) (hh : bn σ hi (l.length : Int) = some e) (h : lsubO l a e = some l') (c : Ck G ⟨d, .slice t x lo hi none, ty, pos, aft, g⟩ i σ []) (r : Lx G os (i + 1) (upd σ d (ar l')) M ds σ' M') : Lx G (⟨d, .slice t x lo hi none, ty, pos, aft, g⟩ :: os) i σ M (⟨ar l', []⟩ :: ds) σ' M' := by
  obtain ⟨h1, rfl⟩ := okO_inv h
  have h1 : (0 ≤ a ∧ a ≤ e) ∧ e ≤ l.length := by simpa using h1
  refine x_sl (n := l.length) E (by rw [hx]; simp [vlen]) hl hh ⟨h1.1.1, by omega⟩ ?_ c r
  rw [hx]
  simp only [vcut, ar]
  rw [if_pos ⟨by omega, by rw [List.length_map]; omega, fun el hel => by
    obtain ⟨q, _, rfl⟩ := List.mem_map.1 hel
    rw [Enc.len, hz]⟩]
  simp [List.map_take, List.map_drop]
theorem x_bx {cs : List V} (hx : vcells (ev σ x) = some cs) (c : Ck G ⟨d, .box t x, ty, pos, aft, g⟩ i σ [(G.n0 + i, some ⟨[cs], cs.length⟩)]) (r : Lx G os (i + 1) (upd σ d (.ptr (G.n0 + i) 0 0)) (setM M (G.n0 + i) (some ⟨[cs], cs.length⟩)) ds σ' M') : Lx G (⟨d, .box t x, ty, pos, aft, g⟩ :: os) i σ M (⟨.ptr (G.n0 + i) 0 0, [(G.n0 + i, some ⟨[cs], cs.length⟩)]⟩ :: ds) σ' M' :=
  lx_on c (fun _ _ _ => w_box (by rw [ev_see (by simp [Op.operands])]; exact hx) ⟨rfl, rfl⟩) r
theorem x_al {cs : List V} (Z : zcells G.P t = some cs) (c : Ck G ⟨d, .alloc t, ty, pos, aft, g⟩ i σ [(G.n0 + i, some ⟨[cs], cs.length⟩)]) (r : Lx G os (i + 1) (upd σ d (.ptr (G.n0 + i) 0 0)) (setM M (G.n0 + i) (some ⟨[cs], cs.length⟩)) ds σ' M') : Lx G (⟨d, .alloc t, ty, pos, aft, g⟩ :: os) i σ M (⟨.ptr (G.n0 + i) 0 0, [(G.n0 + i, some ⟨[cs], cs.length⟩)]⟩ :: ds) σ' M' :=
  lx_on c (fun _ _ _ => w_alloc Z ⟨rfl, rfl⟩) r
theorem x_st {ag : Bool} {n id j off : Nat} {o : Ob} {el cs : List V} (L : Ld G.P t ag n) (hp : ev σ x = .ptr id j off) (hx : vcells (ev σ y) = some cs) (hm : hideL (G.h i) M id = some o) (he : o.els[j]? = some el) (hf : (Nat.beq n cs.length && Nat.ble (off + cs.length) el.length) = true)
    (c : Ck G ⟨d, .store t x y, ty, pos, aft, g⟩ i σ [(id, some ⟨o.els.set j (splice el off cs), o.sz⟩)]) (r : Lx G os (i + 1) (upd σ d .any) (setM M id (some ⟨o.els.set j (splice el off cs), o.sz⟩)) ds σ' M') : Lx G (⟨d, .store t x y, ty, pos, aft, g⟩ :: os) i σ M (⟨.any, [(id, some ⟨o.els.set j (splice el off cs), o.sz⟩)]⟩ :: ds) σ' M' := by
  simp only [Bool.and_eq_true, Nat.beq_eq, Nat.ble_eq] at hf
  obtain ⟨rfl, hf⟩ := hf
  exact lx_on c (fun _ _ hs => w_store L.2 ((ev_see (by simp [Op.operands])).trans hp) (by rw [ev_see (by simp [Op.operands])]; exact hx) (hs _ _ hm) he hf ⟨rfl, rfl⟩) r
/-- An element of an object, turned. -/
theorem x_stE {α : Type} [Enc α] {ag : Bool} {n id k off : Nat} {l : List α} {a a' : α} {cs : List V} (L : Ld G.P t ag n) (hp : ev σ x = .ptr id k off) (hx : vcells (ev σ y) = some cs) (hm : hideL (G.h i) M id = some (ob l)) (ha : l[k]? = some a) (hs' : splice (enc a) off cs = enc a') (hf : (Nat.beq n cs.length && Nat.ble (off + cs.length) (Enc.sz α)) = true)
    (c : Ck G ⟨d, .store t x y, ty, pos, aft, g⟩ i σ [(id, some (ob (l.set k a')))]) (r : Lx G os (i + 1) (upd σ d .any) (setM M id (some (ob (l.set k a')))) ds σ' M') : Lx G (⟨d, .store t x y, ty, pos, aft, g⟩ :: os) i σ M (⟨.any, [(id, some (ob (l.set k a')))]⟩ :: ds) σ' M' := by
  have e : (l.map enc).set k (splice (enc a) off cs) = (l.set k a').map enc := by rw [hs', List.map_set]
  have h := x_st (G := G) (os := os) (i := i) (σ := σ) (σ' := σ') (M := M) (M' := M') (ds := ds) (d := d) (ty := ty) (pos := pos) (aft := aft) (g := g) (o := ob l) (el := enc a) L hp hx hm (by simp [ha]) (by rw [Enc.len]; exact hf)
  simp only [ob, e] at h
  exact h c r
theorem x_bd {parts : Array (Nat × Operand)} {zs cs : List V} {pl : List (Nat × Nat)} (B : Bd G.P t zs pl) (h : vfill (pl[·]?) (evs σ parts.toList) zs = some cs) (c : Ck G ⟨d, .build t parts, ty, pos, aft, g⟩ i σ []) (r : Lx G os (i + 1) (upd σ d (.agg cs)) M ds σ' M') : Lx G (⟨d, .build t parts, ty, pos, aft, g⟩ :: os) i σ M (⟨.agg cs, []⟩ :: ds) σ' M' :=
  lx_on c (fun _ _ _ => w_build B.1 B.2 (by
    have : evs (see G.ops ⟨d, .build t parts, ty, pos, aft, g⟩ σ) parts.toList = evs σ parts.toList := List.map_congr_left fun p hp => by
      rw [ev_see (by simp only [Op.operands, List.mem_map]; exact ⟨p, hp, rfl⟩)]
    rw [this]
    exact h) ⟨rfl, rfl⟩) r
/-- A list that is written out, and that nobody writes. -/
theorem x_bs {parts : Array (Nat × Operand)} {n sz b : Nat} {els : List (List V)} (E : El G.P t sz b) (h : vparts sz 0 (evs σ parts.toList) = some els) (hn : (Nat.beq parts.toList.length n && Nat.ble (n * sz) 16777216 && Nat.ble n 16777216) = true) (c : Ck G ⟨d, .buildSlice t n parts, ty, pos, aft, g⟩ i σ []) (r : Lx G os (i + 1) (upd σ d (.arr els)) M ds σ' M') : Lx G (⟨d, .buildSlice t n parts, ty, pos, aft, g⟩ :: os) i σ M (⟨.arr els, []⟩ :: ds) σ' M' := by
  obtain ⟨e, zs, h1, h2, h3, h4, h5, _⟩ := E
  simp only [Bool.and_eq_true, Nat.beq_eq, Nat.ble_eq] at hn
  exact lx_on c (fun _ _ _ => w_buildSlice h1 h2 h4 h5 hn.1.1 (by
    have : evs (see G.ops ⟨d, .buildSlice t n parts, ty, pos, aft, g⟩ σ) parts.toList = evs σ parts.toList := List.map_congr_left fun p hp => by
      rw [ev_see (by simp only [Op.operands, List.mem_map]; exact ⟨p, hp, rfl⟩)]
    rw [this]
    exact h) hn.1.2 hn.2 ⟨rfl, rfl⟩) r
theorem x_mf {f : Nat} {caps : Array Operand} {us : List V} (h : caps.toList.map (ev σ) = us) (c : Ck G ⟨d, .makeFunc (.func f) #[] caps, ty, pos, aft, g⟩ i σ []) (r : Lx G os (i + 1) (upd σ d (.fn f us)) M ds σ' M') : Lx G (⟨d, .makeFunc (.func f) #[] caps, ty, pos, aft, g⟩ :: os) i σ M (⟨.fn f us, []⟩ :: ds) σ' M' :=
  lx_on c (fun _ _ _ => w_makeFunc ⟨by rw [evl_congr (σ' := σ) fun y hy => ev_see (by simp [Op.operands] at hy ⊢; simp [hy]), h], rfl⟩) r
theorem x_cvI {t' : Nat} {k k' : IntKind} {n : Int} (U : (G.P.underlying t).isSome = true) (W : wordOf G.P t' = some k') (hx : ev σ x = .val (.int k n)) (c : Ck G ⟨d, .convert t t' x, ty, pos, aft, g⟩ i σ []) (r : Lx G os (i + 1) (upd σ d (.val (.int k' (k'.wrap n)))) M ds σ' M') : Lx G (⟨d, .convert t t' x, ty, pos, aft, g⟩ :: os) i σ M (⟨.val (.int k' (k'.wrap n)), []⟩ :: ds) σ' M' :=
  lx_on c (fun _ _ _ => w_convInt U W ((ev_see (by simp [Op.operands])).trans hx) ⟨rfl, rfl⟩) r
/-- A byte as a number, a number as a byte. -/
theorem x_cvUI {t' : Nat} {b : UInt8} (U : (G.P.underlying t).isSome = true) (W : wordOf G.P t' = some .i64) (hx : ev σ x = u8 b) (c : Ck G ⟨d, .convert t t' x, ty, pos, aft, g⟩ i σ []) (r : Lx G os (i + 1) (upd σ d (i64 (b.toNat : Int))) M ds σ' M') : Lx G (⟨d, .convert t t' x, ty, pos, aft, g⟩ :: os) i σ M (⟨i64 (b.toNat : Int), []⟩ :: ds) σ' M' :=
  lx_on c (fun _ _ _ => w_convInt U W ((ev_see (by simp [Op.operands])).trans hx) ⟨by have := b.toNat_lt; rw [wrap_i64 (by omega) (by omega)], rfl⟩) r
theorem x_cvZU {t' : Nat} {k : IntKind} {n : Int} (U : (G.P.underlying t).isSome = true) (W : wordOf G.P t' = some .u8) (hx : ev σ x = .val (.int k n)) (c : Ck G ⟨d, .convert t t' x, ty, pos, aft, g⟩ i σ []) (r : Lx G os (i + 1) (upd σ d (u8 (toU8 n))) M ds σ' M') : Lx G (⟨d, .convert t t' x, ty, pos, aft, g⟩ :: os) i σ M (⟨u8 (toU8 n), []⟩ :: ds) σ' M' :=
  lx_on c (fun _ _ _ => w_convInt U W ((ev_see (by simp [Op.operands])).trans hx) ⟨by unfold u8; rw [toU8_val, wrap_u8], rfl⟩) r
theorem x_cvT {t' : Nat} {s : Str} (T : isStr G.P t = true) (T' : isStr G.P t' = true) (hx : ev σ x = tx s) (c : Ck G ⟨d, .convert t t' x, ty, pos, aft, g⟩ i σ []) (r : Lx G os (i + 1) (upd σ d (tx s)) M ds σ' M') : Lx G (⟨d, .convert t t' x, ty, pos, aft, g⟩ :: os) i σ M (⟨tx s, []⟩ :: ds) σ' M' :=
  lx_on c (fun _ _ _ => w_convStr T T' ((ev_see (by simp [Op.operands])).trans hx) ⟨rfl, rfl⟩) r
def Eb (P : Program) (t : Nat) : Prop := ∃ e, elOf P t = some e ∧ wordOf P e = some .u8
theorem x_tob {t' : Nat} {s s' : Str} (T : isStr G.P t = true) (E : Eb G.P t') (hx : ev σ x = tx s) (h : bytO s = some s') (c : Ck G ⟨d, .convert t t' x, ty, pos, aft, g⟩ i σ [(G.n0 + i, some (ob s'))]) (r : Lx G os (i + 1) (upd σ d (.own (G.n0 + i) 0 s'.length)) (setM M (G.n0 + i) (some (ob s'))) ds σ' M') : Lx G (⟨d, .convert t t' x, ty, pos, aft, g⟩ :: os) i σ M (⟨.own (G.n0 + i) 0 s'.length, [(G.n0 + i, some (ob s'))]⟩ :: ds) σ' M' := by
  obtain ⟨h1, rfl⟩ := okO_inv h
  obtain ⟨e, g1, g2⟩ := E
  exact lx_on c (fun _ _ _ => w_toBytes (s := ⟨s.toArray⟩) T g1 g2 ((ev_see (by simp [Op.operands])).trans hx) (by unfold maxLen; simpa using h1) ⟨by simp, by simp [app]; rfl⟩) r
theorem x_tos {t' id : Nat} {s : Str} (E : Eb G.P t) (T : isStr G.P t' = true) (hx : ev σ x = .own id 0 s.length) (hm : hideL (G.h i) M id = some (ob s)) (c : Ck G ⟨d, .convert t t' x, ty, pos, aft, g⟩ i σ []) (r : Lx G os (i + 1) (upd σ d (tx s)) M ds σ' M') : Lx G (⟨d, .convert t t' x, ty, pos, aft, g⟩ :: os) i σ M (⟨tx s, []⟩ :: ds) σ' M' := by
  obtain ⟨e, g1, g2⟩ := E
  exact lx_on c (fun _ _ hs => w_toStr g1 g2 T (els := s.map byteEl) (by
    rw [(ev_see (by simp [Op.operands])).trans hx]
    refine vels_mono hs ?_
    have e1 : (ob s) = ⟨s.map byteEl, 1⟩ := rfl
    simp only [vels, hm, Option.bind_some, e1]
    rw [if_pos ⟨trivial, by simp⟩, List.drop_zero, List.take_of_length_le (by simp)]) (vbytes_map s) ⟨rfl, rfl⟩) r
theorem x_tosA {t' : Nat} {s : Str} (E : Eb G.P t) (T : isStr G.P t' = true) (hx : ev σ x = ar s) (c : Ck G ⟨d, .convert t t' x, ty, pos, aft, g⟩ i σ []) (r : Lx G os (i + 1) (upd σ d (tx s)) M ds σ' M') : Lx G (⟨d, .convert t t' x, ty, pos, aft, g⟩ :: os) i σ M (⟨tx s, []⟩ :: ds) σ' M' := by
  obtain ⟨e, g1, g2⟩ := E
  exact lx_on c (fun _ _ hs => w_toStr g1 g2 T (els := s.map byteEl) (by
    rw [(ev_see (by simp [Op.operands])).trans hx]
    have e1 : ar s = .arr (s.map byteEl) := rfl
    rw [e1]
    simp only [vels]
    rw [if_pos]
    intro el hel
    obtain ⟨q, _, rfl⟩ := List.mem_map.1 hel
    rfl) (vbytes_map s) ⟨rfl, rfl⟩) r

/-- append: what is appended to and what is appended, as lists of cells. -/
theorem x_ap {t' sz b sz' b' : Nat} {els1 els2 : List (List V)} {oi : Option Nat} (E : El G.P t sz b) (E' : El G.P t' sz' b') (hx : vbase (hideL (G.h i) M) sz (ev σ x) = some (els1, oi)) (hy : vels (hideL (G.h i) M) sz (ev σ y) = some els2) (hf : fitB b (els1.length + els2.length) = true)
    (c : Ck G ⟨d, .call ⟨.builtin .append, #[x, y], #[t, t']⟩, ty, pos, aft, g⟩ i σ (dropE oi ++ [(G.n0 + i, some ⟨els1 ++ els2, sz⟩)]))
    (r : Lx G os (i + 1) (upd σ d (.own (G.n0 + i) 0 (els1.length + els2.length))) (app (dropE oi ++ [(G.n0 + i, some ⟨els1 ++ els2, sz⟩)]) M) ds σ' M') :
    Lx G (⟨d, .call ⟨.builtin .append, #[x, y], #[t, t']⟩, ty, pos, aft, g⟩ :: os) i σ M (⟨.own (G.n0 + i) 0 (els1.length + els2.length), dropE oi ++ [(G.n0 + i, some ⟨els1 ++ els2, sz⟩)]⟩ :: ds) σ' M' := by
  obtain ⟨e, zs, h1, h2, h3, h4, h5, h6⟩ := E
  obtain ⟨e', zs', g1, _⟩ := E'
  have hf := fitB_iff.1 hf
  exact lx_on c (fun _ _ hs => w_append h1 g1 h2 h3 h4 h5 (by rw [ev_see (by simp [Op.operands, Call.operands])]; exact vbase_mono hs hx) (by rw [ev_see (by simp [Op.operands, Call.operands])]; exact vels_mono hs hy) hf.1 hf.2 h6 ⟨rfl, (app_dropE _ _ _ _).symm⟩) r

section
variable {α : Type} [Enc α] {l1 l2 l3 : List α} {t' sz b : Nat}
theorem vels_ar {M : Hp} (hz : sz = Enc.sz α) : vels M sz (ar l2) = some (l2.map enc) := by
  simp only [vels]
  rw [if_pos]
  intro el hel
  obtain ⟨q, _, rfl⟩ := List.mem_map.1 hel
  rw [Enc.len, hz]
theorem vels_ob {M : Hp} {id : Nat} (hz : sz = Enc.sz α) (hm : M id = some (ob l2)) : vels M sz (.own id 0 l2.length) = some (l2.map enc) := by
  simp only [vels, hm, Option.bind_some]
  rw [if_pos ⟨hz.symm, by simp⟩, List.drop_zero, List.take_of_length_le (by simp)]
theorem vels_nl {M : Hp} : vels M sz nl = some (([] : List α).map enc) := rfl
theorem vbase_ob {M : Hp} {id : Nat} (hz : sz = Enc.sz α) (hm : M id = some (ob l1)) : vbase M sz (.own id 0 l1.length) = some (l1.map enc, some id) := by
  simp only [vbase, hm, Option.bind_some]
  rw [if_pos ⟨hz.symm, by simp⟩, List.take_of_length_le (by simp)]
/-- The same of a part at its head. -/
theorem vbase_obV {M : Hp} {id k : Nat} (hz : sz = Enc.sz α) (hm : M id = some (ob l1)) (hk : k ≤ l1.length) : vbase M sz (.own id 0 k) = some ((l1.take k).map enc, some id) := by
  simp only [vbase, hm, Option.bind_some]
  rw [if_pos ⟨hz.symm, by simpa using hk⟩, List.map_take]
/-- append to an object of the walk's own; to nothing. -/
theorem x_apO {id : Nat} (E : El G.P t sz b) (hz : sz = Enc.sz α) (hx : ev σ x = .own id 0 l1.length) (hm : hideL (G.h i) M id = some (ob l1)) (hy : vels (hideL (G.h i) M) sz (ev σ y) = some (l2.map enc)) (h : appO b l1 l2 = some l3)
    (c : Ck G ⟨d, .call ⟨.builtin .append, #[x, y], #[t, t]⟩, ty, pos, aft, g⟩ i σ [(id, none), (G.n0 + i, some (ob l3))])
    (r : Lx G os (i + 1) (upd σ d (.own (G.n0 + i) 0 l3.length)) (setM (setM M id none) (G.n0 + i) (some (ob l3))) ds σ' M') :
    Lx G (⟨d, .call ⟨.builtin .append, #[x, y], #[t, t]⟩, ty, pos, aft, g⟩ :: os) i σ M (⟨.own (G.n0 + i) 0 l3.length, [(id, none), (G.n0 + i, some (ob l3))]⟩ :: ds) σ' M' := by
  obtain ⟨h1, rfl⟩ := okO_inv h
  have hx' : vbase (hideL (G.h i) M) sz (ev σ x) = some (l1.map enc, some id) := by rw [hx]; exact vbase_ob hz hm
  have q := x_ap (G := G) (os := os) (i := i) (σ := σ) (σ' := σ') (M := M) (M' := M') (ds := ds) (d := d) (ty := ty) (pos := pos) (aft := aft) (g := g) E E hx' hy (by simpa using h1)
  simp only [dropE, List.length_map, ← List.map_append, ← List.length_append, hz, List.cons_append, List.nil_append] at q
  exact q c r
theorem x_apN (E : El G.P t sz b) (hz : sz = Enc.sz α) (hx : ev σ x = nl) (hy : vels (hideL (G.h i) M) sz (ev σ y) = some (l2.map enc)) (h : appO b [] l2 = some l3)
    (c : Ck G ⟨d, .call ⟨.builtin .append, #[x, y], #[t, t]⟩, ty, pos, aft, g⟩ i σ [(G.n0 + i, some (ob l3))])
    (r : Lx G os (i + 1) (upd σ d (.own (G.n0 + i) 0 l3.length)) (setM M (G.n0 + i) (some (ob l3))) ds σ' M') :
    Lx G (⟨d, .call ⟨.builtin .append, #[x, y], #[t, t]⟩, ty, pos, aft, g⟩ :: os) i σ M (⟨.own (G.n0 + i) 0 l3.length, [(G.n0 + i, some (ob l3))]⟩ :: ds) σ' M' := by
  obtain ⟨h1, rfl⟩ := okO_inv h
  have hx' : vbase (hideL (G.h i) M) sz (ev σ x) = some (([] : List α).map enc, none) := by rw [hx]; rfl
  have q := x_ap (G := G) (os := os) (i := i) (σ := σ) (σ' := σ') (M := M) (M' := M') (ds := ds) (d := d) (ty := ty) (pos := pos) (aft := aft) (g := g) E E hx' hy (by simpa using h1)
  simp only [dropE, List.length_map, ← List.map_append, ← List.length_append, hz, List.cons_append, List.nil_append] at q
  exact q c r
end

/-! ### Calls -/
variable {cal : Operand} {args : Array Operand} {ts : Array TypeId} {f : Nat} {caps us : List V}
theorem x_pu (hc : ev σ cal = .fn f caps) (hp : plain G.P f = true) (h : Pu G.P f us u) (he : args.toList.map (ev σ) ++ caps = us) (c : Ck G ⟨d, .call ⟨.value cal, args, ts⟩, ty, pos, aft, g⟩ i σ []) (r : Lx G os (i + 1) (upd σ d u) M ds σ' M') : Lx G (⟨d, .call ⟨.value cal, args, ts⟩, ty, pos, aft, g⟩ :: os) i σ M (⟨u, []⟩ :: ds) σ' M' :=
  lx_on c (yl_pu ((ev_see (by simp [Op.operands, Call.operands])).trans hc) hp (by
    rw [evl_congr (σ' := σ) fun y hy => ev_see (by simp [Op.operands, Call.operands] at hy ⊢; simp [hy]), he]
    exact h)) r
theorem x_fx {es : Eff} {Mc : Hp} (hc : ev σ cal = .fn f caps) (hp : plain G.P f = true) (h : Fx G.P f us Mc (G.n0 + i) u es) (hM : Sub Mc (hideL (G.h i) M)) (he : args.toList.map (ev σ) ++ caps = us) (c : Ck G ⟨d, .call ⟨.value cal, args, ts⟩, ty, pos, aft, g⟩ i σ es) (r : Lx G os (i + 1) (upd σ d u) (app es M) ds σ' M') : Lx G (⟨d, .call ⟨.value cal, args, ts⟩, ty, pos, aft, g⟩ :: os) i σ M (⟨u, es⟩ :: ds) σ' M' :=
  lx_on c (yl_fx ((ev_see (by simp [Op.operands, Call.operands])).trans hc) hp hM (by
    rw [evl_congr (σ' := σ) fun y hy => ev_see (by simp [Op.operands, Call.operands] at hy ⊢; simp [hy]), he]
    exact h)) r
theorem x_bo {id : Nat} {o : Ob} {us' : List V} (hc : ev σ cal = .fn f caps) (hp : plain G.P f = true) (h : Pu G.P f us' u) (hM : hideL (G.h i) M id = some o) (he : args.toList.map (ev σ) ++ caps = us) (hus : Fzs id o us us') (hu : Pl u) (c : Ck G ⟨d, .call ⟨.value cal, args, ts⟩, ty, pos, aft, g⟩ i σ []) (r : Lx G os (i + 1) (upd σ d u) M ds σ' M') : Lx G (⟨d, .call ⟨.value cal, args, ts⟩, ty, pos, aft, g⟩ :: os) i σ M (⟨u, []⟩ :: ds) σ' M' :=
  lx_on c (yl_bo (us' := us') ((ev_see (by simp [Op.operands, Call.operands])).trans hc) hp hM (by
    rw [evl_congr (σ' := σ) fun y hy => ev_see (by simp [Op.operands, Call.operands] at hy ⊢; simp [hy]), he]
    exact hus) h hu) r
end
end Go.Ka
namespace Go.Ka
open Enc (enc)
open Go.RowKit
variable [Tab]

def FUEL : Nat := 4611686018427387904
theorem sX2 {x : Option (List (List V))} (u : List (List V)) (h : x = some u) : x = some u := h
theorem sX3 {x : Option (List V)} (u : List V) (h : x = some u) : x = some u := h
theorem eXL {x : List V} (u : List V) (h : x = u) : x = u := h
theorem lgO {α : Type} {l : List α} {i : Int} {x : α} (h : lgetO l i = some x) : l[i.toNat]? = some x := (lgetO_some h).2.1
theorem lgB {α : Type} {l : List α} {i : Int} {x : α} (h : lgetO l i = some x) : (decide (0 ≤ i) && decide (i < l.length)) = true := by
  obtain ⟨h0, _, h1⟩ := lgetO_some h
  simp only [Bool.and_eq_true, decide_eq_true_eq]
  omega
/-! What says more, read as saying less -/
def Wk (u u' : V) : Prop := ∀ F ν v, Rel F ν v u → Rel F ν v u'
theorem Wk.refl (u : V) : Wk u u := fun _ _ _ h => h
theorem Wk.nil : Wk (.val (.slice none 0 0)) (.arr []) := fun F ν v h => by
  cases h
  exact .arr none 0 0 0 [] (fun _ _ => default) rfl (Nat.le_refl _) (Nat.zero_le _) (fun i el h => by simp at h) (fun i el j u h => by simp at h) (fun h => absurd rfl h) (fun i el j u h => by simp at h)
inductive Wks : List V → List V → Prop
  | nil : Wks [] []
  | cons {u u' : V} {us us' : List V} (h : Wk u u') (hs : Wks us us') : Wks (u :: us) (u' :: us')
theorem wkn0 : Wks [] [] := .nil
theorem wkc {u u' : V} {us us' : List V} (h : Wk u u') (hs : Wks us us') : Wks (u :: us) (u' :: us') := .cons h hs
theorem Wks.refl : ∀ (us : List V), Wks us us
  | [] => .nil
  | u :: us => .cons (Wk.refl u) (Wks.refl us)
theorem Wks.len {us us' : List V} (h : Wks us us') : us.length = us'.length := by
  induction h with
  | nil => rfl
  | cons _ _ ih => simp [ih]
theorem Wks.at {us us' : List V} (h : Wks us us') : ∀ (j : Nat) (u' : V), us'[j]? = some u' → ∃ u, us[j]? = some u ∧ Wk u u' := by
  induction h with
  | nil => intro j u' hj; simp at hj
  | cons h hs ih =>
    intro j u' hj
    cases j with
    | zero => simp at hj; subst hj; exact ⟨_, rfl, h⟩
    | succ j => exact ih j u' (by simpa using hj)
theorem Wk.agg {us us' : List V} (h : Wks us us') (hc : (us'.all V.cell) = true) : Wk (.agg us) (.agg us') := fun F ν v hr => by
  cases hr with
  | agg vs _ hl hce hr =>
    refine .agg vs us' (hl.trans h.len) (fun j u hj => cellL hc u (List.mem_of_getElem? hj)) fun j v u hv hj => ?_
    obtain ⟨u0, h0, hw⟩ := h.at j u hj
    exact hw _ _ _ (hr j v u0 hv h0)
theorem Wk.tup {us us' : List V} (h : Wks us us') : Wk (.tup us) (.tup us') := fun F ν v hr => by
  cases hr with
  | tup vs _ hl hr =>
    refine .tup vs us' (hl.trans h.len) fun j v u hv hj => ?_
    obtain ⟨u0, h0, hw⟩ := h.at j u hj
    exact hw _ _ _ (hr j v u0 hv h0)
inductive Wkss : List (List V) → List (List V) → Prop
  | nil : Wkss [] []
  | cons {u u' : List V} {us us' : List (List V)} (h : Wks u u') (hs : Wkss us us') : Wkss (u :: us) (u' :: us')
theorem wkn : Wkss [] [] := .nil
theorem wkl {u u' : List V} {us us' : List (List V)} (h : Wks u u') (hs : Wkss us us') : Wkss (u :: us) (u' :: us') := .cons h hs
theorem Wkss.len {us us' : List (List V)} (h : Wkss us us') : us.length = us'.length := by
  induction h with
  | nil => rfl
  | cons _ _ ih => simp [ih]
theorem Wkss.at {us us' : List (List V)} (h : Wkss us us') : ∀ (j : Nat) (u' : List V), us'[j]? = some u' → ∃ u, us[j]? = some u ∧ Wks u u' := by
  induction h with
  | nil => intro j u' hj; simp at hj
  | cons h hs ih =>
    intro j u' hj
    cases j with
    | zero => simp at hj; subst hj; exact ⟨_, rfl, h⟩
    | succ j => exact ih j u' (by simpa using hj)
theorem Wk.arr {us us' : List (List V)} (h : Wkss us us') (hc : ∀ el ∈ us', ∀ u' ∈ el, u'.cell = true) : Wk (.arr us) (.arr us') := fun F ν v hr => by
  cases hr with
  | arr A n c sz _ vals hn hcn hm hsz hce hA hr =>
    have both : ∀ (i : Nat) (el : List V) (j : Nat) (u : V), us'[i]? = some el → el[j]? = some u → ∃ el0 u0, us[i]? = some el0 ∧ el0[j]? = some u0 ∧ Wk u0 u := fun i el j u hi hj => by
      obtain ⟨el0, h0, hw⟩ := h.at i el hi
      obtain ⟨u0, h1, hw⟩ := hw.at j u hj
      exact ⟨el0, u0, h0, h1, hw⟩
    refine .arr A n c sz us' vals (h.len ▸ hn) hcn hm (fun i el hi => ?_) (fun i el j u hi hj => hc el (List.mem_of_getElem? hi) u (List.mem_of_getElem? hj)) (fun h0 => ?_) (fun i el j u hi hj => ?_)
    · obtain ⟨el0, h0, hw⟩ := h.at i el hi
      rw [← hw.len]
      exact hsz i el0 h0
    · obtain ⟨b, o, hA1, hA2⟩ := hA h0
      refine ⟨b, o, hA1, fun i el j u hi hj => ?_⟩
      obtain ⟨el0, u0, g1, g2, _⟩ := both i el j u hi hj
      exact hA2 i el0 j u0 g1 g2
    · obtain ⟨el0, u0, g1, g2, hw⟩ := both i el j u hi hj
      exact hw _ _ _ (hr i el0 j u0 g1 g2)

theorem Yl.wk {P : Program} {o : Oper} {σ : Nat → V} {M : Hp} {id : Nat} {u u' : V} {es : Eff} (h : Yl P o σ M id u es) (hw : Wk u u') : Yl P o σ M id u' es := fun B M' hs a w F ν h1 h2 h3 h4 => by
  refine Oper.wp_mono ?_ (wp_of_false (h B M' hs a w F ν h1 h2 h3 h4))
  rintro a' w' ⟨v, u1, M1, F', ν', rfl, ⟨rfl, rfl⟩, g1, g2, g3, g4, g5⟩
  exact ⟨v, u', _, F', ν', rfl, ⟨rfl, rfl⟩, g1, g2, g3, g4, hw _ _ _ g5⟩

theorem Pu.args {P : Program} {f : Nat} {us us' : List V} {u : V} (h : Pu P f us' u) (hw : Wks us us') (hn : ∀ x ∈ us, NF x) : Pu P f us u :=
  ⟨hn, h.hu, fun w F ν args hok hnx hl hr => h.run w F ν args hok hnx (hl.trans hw.len) fun j v u' hv hu => by
    obtain ⟨u0, h0, hw⟩ := hw.at j u' hu
    exact hw _ _ _ (hr j v u0 hv h0)⟩

theorem pln : ∀ u ∈ ([] : List V), Pl u := fun _ h => by cases h
theorem plc {a : V} {l : List V} (h : Pl a) (r : ∀ u ∈ l, Pl u) : ∀ u ∈ a :: l, Pl u := fun u hu => by
  rcases List.mem_cons.1 hu with rfl | hu
  · exact h
  · exact r u hu
section
variable {i : Nat} {o : Ob}
theorem fzn : Fzs i o [] [] := .nil
theorem fzc {u u' : V} {us us' : List V} (h : Fz2 i o u u') (hs : Fzs i o us us') : Fzs i o (u :: us) (u' :: us') := .cons h hs
theorem fzO {α : Type} [Enc α] {l : List α} : Fz2 i (ob l) (.own i 0 l.length) (ar l) := by
  have h : Fz2 i (ob l) (.own i 0 l.length) (.arr (((ob l).els.drop 0).take l.length)) := Fz2.own (by simp)
  have e : ((ob l).els.drop 0).take l.length = l.map enc := by
    rw [List.drop_zero, List.take_of_length_le (by simp)]
  rw [e] at h
  exact h
end

section
variable {G : Rg} {os : List Oper} {i : Nat} {σ σ' : Nat → V} {M M' : Hp} {u : V} {ds : List Yd}
variable {d : Option Nat} {ty : Nat} {pos : String} {aft : Array Edge} {g : Option (Nat × Bool)} {x y : Operand} {t : Nat}
variable {cal : Operand} {args : Array Operand} {ts : Array TypeId} {f : Nat} {caps us us' : List V}

theorem vlO' {α : Type} [Enc α] {sz id : Nat} {M : Hp} {l : List α} (hz : sz = Enc.sz α) (hx : ev σ x = .own id 0 l.length) (hm : M id = some (ob l)) : vels M sz (ev σ x) = some (l.map enc) := by rw [hx]; exact vels_ob hz hm
theorem vlN' {α : Type} [Enc α] {sz : Nat} {M : Hp} (hx : ev σ x = nl) : vels M sz (ev σ x) = some (([] : List α).map enc) := by rw [hx]; rfl
theorem vlA' {α : Type} [Enc α] {sz : Nat} {M : Hp} {l : List α} (hz : sz = Enc.sz α) (hx : ev σ x = ar l) : vels M sz (ev σ x) = some (l.map enc) := by rw [hx]; exact vels_ar hz
theorem x_bsA {α : Type} [Enc α] (l : List α) {parts : Array (Nat × Operand)} {n sz b : Nat} (E : El G.P t sz b) (h : vparts sz 0 (evs σ parts.toList) = some (l.map enc)) (hn : (Nat.beq parts.toList.length n && Nat.ble (n * sz) 16777216 && Nat.ble n 16777216) = true) (c : Ck G ⟨d, .buildSlice t n parts, ty, pos, aft, g⟩ i σ []) (r : Lx G os (i + 1) (upd σ d (ar l)) M ds σ' M') : Lx G (⟨d, .buildSlice t n parts, ty, pos, aft, g⟩ :: os) i σ M (⟨ar l, []⟩ :: ds) σ' M' := x_bs E h hn c r
theorem x_bsW {α : Type} [Enc α] (l : List α) {parts : Array (Nat × Operand)} {n sz b : Nat} {els : List (List V)} (E : El G.P t sz b) (h : vparts sz 0 (evs σ parts.toList) = some els) (hn : (Nat.beq parts.toList.length n && Nat.ble (n * sz) 16777216 && Nat.ble n 16777216) = true) (hw : Wkss els (l.map enc)) (c : Ck G ⟨d, .buildSlice t n parts, ty, pos, aft, g⟩ i σ []) (r : Lx G os (i + 1) (upd σ d (ar l)) M ds σ' M') : Lx G (⟨d, .buildSlice t n parts, ty, pos, aft, g⟩ :: os) i σ M (⟨ar l, []⟩ :: ds) σ' M' := by
  obtain ⟨e, zs, h1, h2, h3, h4, h5, _⟩ := E
  simp only [Bool.and_eq_true, Nat.beq_eq, Nat.ble_eq] at hn
  refine lx_on c (Yl.wk (u := .arr els) (fun _ _ _ => w_buildSlice h1 h2 h4 h5 hn.1.1 (by
    have : evs (see G.ops ⟨d, .buildSlice t n parts, ty, pos, aft, g⟩ σ) parts.toList = evs σ parts.toList := List.map_congr_left fun p hp => by
      rw [ev_see (by simp only [Op.operands, List.mem_map]; exact ⟨p, hp, rfl⟩)]
    rw [this]
    exact h) hn.1.2 hn.2 ⟨rfl, rfl⟩) (Wk.arr hw fun el hel u hu => ?_)) r
  obtain ⟨a, _, rfl⟩ := List.mem_map.1 hel
  exact Enc.cell a u hu
theorem x_puW (hc : ev σ cal = .fn f caps) (hp : plain G.P f = true) (h : Pu G.P f us' u) (he : args.toList.map (ev σ) ++ caps = us) (hw : Wks us us') (hn : ∀ x ∈ us, NF x) (c : Ck G ⟨d, .call ⟨.value cal, args, ts⟩, ty, pos, aft, g⟩ i σ []) (r : Lx G os (i + 1) (upd σ d u) M ds σ' M') : Lx G (⟨d, .call ⟨.value cal, args, ts⟩, ty, pos, aft, g⟩ :: os) i σ M (⟨u, []⟩ :: ds) σ' M' :=
  x_pu hc hp (h.args hw hn) he c r
theorem w_nilCheck {P : Program} {B : Gd} {id : Nat} {K : V → Hp → Prop} (hx : (∃ cs, ev σ x = .iptr cs) ∨ ∃ a b e, ev σ x = .ptr a b e) (hK : K (ev σ x) M) : OpW P B ⟨d, .nilCheck x, ty, pos, aft, g⟩ σ M id K := by
  refine opw_of hK fun a w F ν _ hm => ?_
  have hr := ev_rel hm x
  refine ⟨a.eval x, ?_, hr⟩
  rcases hx with ⟨cs, h⟩ | ⟨q1, q2, q3, h⟩ <;> rw [h] at hr <;> generalize hv : a.eval x = v at hr <;> cases hr <;> simp [execOp, hv]
theorem x_nc (hx : ev σ x = u) (hp : (∃ cs, u = .iptr cs) ∨ ∃ a b e, u = .ptr a b e) (c : Ck G ⟨d, .nilCheck x, ty, pos, aft, g⟩ i σ []) (r : Lx G os (i + 1) (upd σ d u) M ds σ' M') : Lx G (⟨d, .nilCheck x, ty, pos, aft, g⟩ :: os) i σ M (⟨u, []⟩ :: ds) σ' M' := by
  have e := (ev_see (ops := G.ops) (o := ⟨d, .nilCheck x, ty, pos, aft, g⟩) (σ := σ) (x := x) (by simp [Op.operands])).trans hx
  exact lx_on c (fun _ _ _ => w_nilCheck (by rw [e]; exact hp) ⟨e, rfl⟩) r
theorem x_cvII {t' : Nat} {n : Int} (U : (G.P.underlying t).isSome = true) (W : wordOf G.P t' = some .i64) (hx : ev σ x = i64 n) (hn : inR n = true) (c : Ck G ⟨d, .convert t t' x, ty, pos, aft, g⟩ i σ []) (r : Lx G os (i + 1) (upd σ d (i64 n)) M ds σ' M') : Lx G (⟨d, .convert t t' x, ty, pos, aft, g⟩ :: os) i σ M (⟨i64 n, []⟩ :: ds) σ' M' :=
  lx_on c (fun _ _ _ => w_convInt U W ((ev_see (by simp [Op.operands])).trans hx) ⟨by have := inR_iff.1 hn; rw [wrap_i64 this.1 this.2], rfl⟩) r
end
end Go.Ka
namespace Go.Ka
open Go.RowKit
variable [Tab]

def KeepL (σ : Nat → V) : List (Nat × V) → Prop
  | [] => True
  | p :: r => Wk (σ p.1) p.2 ∧ KeepL σ r
theorem KeepL.maps {σ : Nat → V} {L : List (Nat × V)} (h : KeepL σ L) {a : Act} {F : Fz} {ν : Nu} (hm : Maps a F ν σ) : Maps a F ν (ls L) := by
  intro t
  induction L with
  | nil => exact .any _
  | cons p r ih =>
    rw [ls_cons]
    split
    · rename_i e; subst e; exact h.1 _ _ _ (hm _)
    · exact ih h.2
/-- The same objects; slots let go, and known less. -/
theorem to_keep {X : Cx} {σ : Nat → V} {M : Hp} {n n' : Nat} (hn : n ≤ n') {L : List (Nat × V)} (hL : KeepL σ L) : To X ⟨σ, M, n⟩ ⟨ls L, M, n'⟩ := fun a w F ν hs =>
  ⟨F, ν, ⟨hs.ok, fun id hid => hs.nxt id (Nat.le_trans hn hid), hL.maps hs.maps, hs.size, hs.df, hs.leF, hs.old, Nat.le_trans hs.le hn⟩⟩
theorem wkr {u : V} : Wk u u := Wk.refl u

/-- A closure that reads what it caught, as a plain function. -/
structure Clo (P : Program) (f : Nat) (caps : List V) (Mc : Hp) (n : Nat) {α β : Type} (ea : α → List V) (eb : β → V) (p : α → Option β) : Prop where
  pl : plain P f = true
  run : ∀ x b, p x = some b → ∀ n', n ≤ n' → Fx P f (ea x ++ caps) Mc n' (eb b) []
  caps : ∀ u ∈ caps, Old n u
  M : ∀ x o, Mc x = some o → x < n ∧ OldO n o
theorem Clo.mono {P : Program} {f : Nat} {caps : List V} {Mc : Hp} {n n' : Nat} {α β : Type} {ea : α → List V} {eb : β → V} {p : α → Option β} (h : Clo P f caps Mc n ea eb p) (hn : n ≤ n') : Clo P f caps Mc n' ea eb p :=
  ⟨h.pl, fun x b hb m hm => h.run x b hb m (Nat.le_trans hn hm), fun u hu y hy => Nat.lt_of_lt_of_le (h.caps u hu y hy) hn, fun x o hx => ⟨Nat.lt_of_lt_of_le (h.M x o hx).1 hn, fun el hel u hu y hy => Nat.lt_of_lt_of_le ((h.M x o hx).2 el hel u hu y hy) hn⟩⟩

/-- Objects of plain cells. -/
def NFO (o : Ob) : Prop := ∀ el ∈ o.els, ∀ u ∈ el, NF u
theorem zip_at : ∀ {is : List Nat} {os : List Ob} {x : Nat} {o : Ob}, hl (is.zip os) x = some o → ∃ j : Nat, is[j]? = some x ∧ os[j]? = some o := by
  intro is
  induction is with
  | nil => intro os x o h; simp [hl] at h
  | cons i r ih =>
    intro os x o h
    cases os with
    | nil => simp [hl] at h
    | cons p q =>
      rw [List.zip_cons_cons, hl_cons] at h
      split at h
      · rename_i e; cases h; exact ⟨0, by simp [e], by simp⟩
      · obtain ⟨j, h1, h2⟩ := ih h
        exact ⟨j + 1, by simpa using h1, by simpa using h2⟩
theorem at_zip : ∀ {is : List Nat} {os : List Ob} {x j : Nat} {o : Ob}, is.Nodup → is[j]? = some x → os[j]? = some o → hl (is.zip os) x = some o := by
  intro is
  induction is with
  | nil => intro os x j o _ h; simp at h
  | cons i r ih =>
    intro os x j o hn h1 h2
    cases os with
    | nil => simp at h2
    | cons p q =>
      rw [List.zip_cons_cons, hl_cons]
      cases j with
      | zero => simp at h1 h2; simp [h1, h2]
      | succ j =>
        simp at h1 h2
        have hx : x ∈ r := List.mem_of_getElem? h1
        have hne : x ≠ i := fun e => (List.nodup_cons.1 hn).1 (e ▸ hx)
        rw [if_neg hne]
        exact ih (List.nodup_cons.1 hn).2 h1 h2

theorem Ok.alike {w0 w : World} {F0 F : Fz} {D1 D2 : Nat → Prop} {ν1 ν2 : Nu} {M1 M2 : Hp} (h : Ok ⟨w0, F0, D1⟩ F ν1 M1 w) (hD : ∀ b, D1 b ↔ D2 b) (τ : Nat → Nat) (hm : ∀ x o, M2 x = some o → M1 (τ x) = some o ∧ ν2 x = ν1 (τ x) ∧ NFO o)
    (hinj : ∀ x y o o', M2 x = some o → M2 y = some o' → τ x = τ y → x = y) : Ok ⟨w0, F0, D2⟩ F ν2 M2 w := by
  refine ⟨h.fz, fun x o hx => ?_, fun x y o o' k k' hx hy hne hkx hky => ?_, ⟨h.below.os, h.below.tape, h.below.output, h.below.size, fun b hb hd => h.below.block b hb fun h1 => hd ((hD b).1 h1)⟩, fun x o k hx hkx hv => ?_, h.tab, fun b o hb hd => h.ice b o hb fun h1 => hd ((hD b).1 h1)⟩
  · obtain ⟨h1, h2, h3⟩ := hm x o hx
    obtain ⟨k, hk, hat, hf⟩ := h.ob _ _ h1
    refine ⟨k, h2.trans hk, ?_, hf⟩
    rcases hat with ⟨hv, cur, ty, fr, g1, ⟨g2, gty⟩, g3, g4, g5, g6, g7⟩ | hat
    · refine .inl ⟨hv, cur, ty, fr, g1, ⟨g2, gty⟩, g3, g4, g5, g6, fun i el j u a b => ?_⟩
      obtain ⟨hc, v, hv, hr⟩ := g7 i el j u a b
      exact ⟨hc, v, hv, hr.nf (h3 el (List.mem_of_getElem? a) u (List.mem_of_getElem? b))⟩
    · exact .inr hat
  · obtain ⟨h1, h2, _⟩ := hm x o hx
    obtain ⟨g1, g2, _⟩ := hm y o' hy
    exact h.inj _ _ o o' k k' h1 g1 (fun e => hne (hinj x y o o' hx hy e)) (h2 ▸ hkx) (g2 ▸ hky)
  · obtain ⟨h1, h2, _⟩ := hm x o hx
    exact (h.live _ o k h1 (h2 ▸ hkx) hv).imp (hD _).1 id

/-- A contract over plain cells by the numbers 0 .. k-1, by other numbers. -/
theorem fx_cl {P : Program} {f : Nat} {us us' : List V} {os : List Ob} {is : List Nat} {u : V} {n : Nat} (hlen : is.length = os.length) (hnf : ∀ o ∈ os, NFO o) (hu : NF u) (h : FS P f us (hl ((List.range os.length).zip os)) os.length u [])
    (hnd : is.Nodup) (hlt : ∀ i ∈ is, i < n) (hus : Trs (fun j => is.getD j 0) (List.range os.length) [] us' us) (hold : ∀ x ∈ us', Old n x) : Fx P f us' (hl (is.zip os)) n u [] := by
  have hM : ∀ x o, hl (is.zip os) x = some o → x < n ∧ NFO o := fun x o hx => by
    obtain ⟨j, h1, h2⟩ := zip_at hx
    exact ⟨hlt x (List.mem_of_getElem? h1), hnf o (List.mem_of_getElem? h2)⟩
  refine ⟨hold, fun x o hx => ⟨(hM x o hx).1, fun el hel u hu => ((hM x o hx).2 el hel u hu).old n⟩, (fun e he => by cases he), fun x o hx el hel u hu => ((hM x o hx).2 el hel u hu).old _, hu.old _, ?_⟩
  intro w F ν args hok hnx hl1 hargs
  let k := os.length
  let τ : Nat → Nat := fun j => is.getD j 0
  let νc : Nu := fun y => if y < k then ν (τ y) else none
  have cEq : ∀ y, y < k → νc y = ν (τ y) := fun y hy => if_pos hy
  have τat : ∀ j, j < k → is[j]? = some (τ j) := fun j hj => by
    have : j < is.length := by omega
    show is[j]? = some (is.getD j 0)
    rw [List.getD_eq_getElem?_getD, List.getElem?_eq_getElem this]; rfl
  have ofC : ∀ j o, hl ((List.range os.length).zip os) j = some o → j < k ∧ os[j]? = some o := fun j o hj => by
    obtain ⟨i, h1, h2⟩ := zip_at hj
    have hi : i < k := (List.getElem?_eq_some_iff.1 h2).1
    rw [List.getElem?_range hi] at h1
    cases h1
    exact ⟨hi, h2⟩
  have toC : ∀ j o, j < k → os[j]? = some o → hl ((List.range os.length).zip os) j = some o := fun j o hj ho => at_zip List.nodup_range (by rw [List.getElem?_range hj]) ho
  have τinj : ∀ x y, x < k → y < k → τ x = τ y → x = y := fun x y hx hy e => by
    have h1 := τat x hx
    have h2 := τat y hy
    rw [e] at h1
    exact (List.getElem?_inj (by omega) hnd).1 (h1.trans h2.symm)
  have hDD : ∀ b, own0 ν (hl (is.zip os)) b ↔ own0 νc (hl ((List.range os.length).zip os)) b := fun b => by
    constructor
    · rintro ⟨x, o, kb, h1, h2, h3, h4⟩
      obtain ⟨j, g1, g2⟩ := zip_at h1
      have hj : j < k := (List.getElem?_eq_some_iff.1 g2).1
      refine ⟨j, o, kb, toC j o hj g2, ?_, h3, h4⟩
      rw [cEq j hj]
      have := τat j hj
      rw [g1] at this
      cases this
      exact h2
    · rintro ⟨j, o, kb, h1, h2, h3, h4⟩
      obtain ⟨hj, g⟩ := ofC j o h1
      exact ⟨τ j, o, kb, at_zip hnd (τat j hj) g, by rw [← cEq j hj]; exact h2, h3, h4⟩
  have okc : Ok ⟨w, F, own0 νc (hl ((List.range os.length).zip os))⟩ F νc (hl ((List.range os.length).zip os)) w := hok.alike hDD τ (fun j o hj => by
      obtain ⟨h1, h2⟩ := ofC j o hj
      exact ⟨at_zip hnd (τat j h1) h2, cEq j h1, hnf o (List.mem_of_getElem? h2)⟩) (fun x y o o' hx hy e => τinj x y (ofC x o hx).1 (ofC y o' hy).1 e)
  refine (h w F νc args okc (fun y hy => if_neg (by omega)) (hl1.trans hus.len) (fun j v u hv hu => ?_)).mono fun e w' hx => ?_
  · obtain ⟨u0, h0, hw⟩ := hus.at j u hu
    exact hw F ν νc v (fun y hy => cEq y (List.mem_range.1 hy)) (fun y hy => by cases hy) (hargs j v u0 hv h0)
  · obtain ⟨v, F', ν', rfl, ok', hF, hold', hrel⟩ := hx
    refine ⟨v, F', ν, rfl, ?_, hF, fun _ _ => rfl, hrel.nf hu⟩
    refine Ok.alike ok' (fun b => (hDD b).symm) (fun x => is.idxOf x) (fun x o hx => ?_) (fun x y o o' hx hy e => ?_)
    · obtain ⟨j, h1, h2⟩ := zip_at hx
      have hj : j < k := (List.getElem?_eq_some_iff.1 h2).1
      have hx' : x ∈ is := List.mem_of_getElem? h1
      have hi : is.idxOf x < is.length := List.idxOf_lt_length_iff.2 hx'
      have e : is.idxOf x = j := by
        have h3 : is[is.idxOf x]? = some x := by rw [List.getElem?_eq_getElem hi, List.getElem_idxOf]
        exact (List.getElem?_inj hi hnd).1 (h3.trans h1.symm)
      refine ⟨?_, ?_, hnf o (List.mem_of_getElem? h2)⟩
      · show app [] _ (is.idxOf x) = _
        rw [e]
        exact toC j o hj h2
      · rw [e, hold' j hj, cEq j hj]
        have := τat j hj
        rw [h1] at this
        cases this
        rfl
    · obtain ⟨i, h1, _⟩ := zip_at hx
      obtain ⟨j, h2, _⟩ := zip_at hy
      have hx' : x ∈ is := List.mem_of_getElem? h1
      have hy' : y ∈ is := List.mem_of_getElem? h2
      have e1 : is[is.idxOf x]? = some x := by rw [List.getElem?_eq_getElem (List.idxOf_lt_length_iff.2 hx'), List.getElem_idxOf]
      have e2 : is[is.idxOf y]? = some y := by rw [List.getElem?_eq_getElem (List.idxOf_lt_length_iff.2 hy'), List.getElem_idxOf]
      have e3 : is.idxOf x = is.idxOf y := e
      rw [e3, e2] at e1
      exact (Option.some.inj e1).symm

def ptrs (is : List Nat) : List V := is.map fun i => .ptr i 0 0
theorem Trs.of {ρ : Nat → Nat} {D Z : List Nat} : ∀ {us us' : List V}, us.length = us'.length → (∀ (j : Nat) (u u' : V), us[j]? = some u → us'[j]? = some u' → Tr ρ D Z u u') → Trs ρ D Z us us' := by
  intro us
  induction us with
  | nil => intro us' hl _; cases us' with | nil => exact .nil | cons => simp at hl
  | cons u r ih =>
    intro us' hl h
    cases us' with
    | nil => simp at hl
    | cons u' r' => exact .cons (h 0 u u' rfl rfl) (ih (by simpa using hl) fun j a b ha hb => h (j + 1) a b (by simpa using ha) (by simpa using hb))

theorem clo_of {P : Program} {f : Nat} {α β : Type} {ea : α → List V} {eb : β → V} {p : α → Option β} {os : List Ob} {is : List Nat} {n : Nat} (hpl : plain P f = true) (hlen : is.length = os.length) (hnf : ∀ o ∈ os, NFO o) (hea : ∀ x, ∀ u ∈ ea x, NF u) (heb : ∀ b, NF (eb b))
    (h : ∀ x b, p x = some b → FS P f (ea x ++ ptrs (List.range os.length)) (hl ((List.range os.length).zip os)) os.length (eb b) []) (hnd : is.Nodup) (hlt : (is.all fun i => Nat.blt i n) = true) : Clo P f (ptrs is) (hl (is.zip os)) n ea eb p := by
  have hlt : ∀ i ∈ is, i < n := fun i hi => by simpa using List.all_eq_true.1 hlt i hi
  have hcap : ∀ m, n ≤ m → ∀ u ∈ ptrs is, Old m u := fun m hm u hu y hy => by
    obtain ⟨i, hi, rfl⟩ := List.mem_map.1 hu
    cases hy
    exact Nat.lt_of_lt_of_le (hlt _ hi) hm
  refine ⟨hpl, fun x b hb n' hn' => fx_cl hlen hnf (heb b) (h x b hb) hnd (fun i hi => Nat.lt_of_lt_of_le (hlt i hi) hn') (Trs.append (Trs.nfs (hea x)) (Trs.of (by simp [ptrs, hlen]) fun j u u' h1 h2 => ?_)) (fun u hu => ?_), hcap n (Nat.le_refl _), fun x o hx => ?_⟩
  · simp only [ptrs, List.getElem?_map] at h1 h2
    cases hi : is[j]? with
    | none => simp [hi] at h1
    | some i =>
      have hj : j < os.length := by rw [← hlen]; exact (List.getElem?_eq_some_iff.1 hi).1
      simp [hi] at h1
      subst h1
      rw [List.getElem?_range hj] at h2
      simp at h2
      subst h2
      refine Tr.ptr ?_
      simp only [Bool.and_eq_true, List.elem_eq_contains, List.contains_iff_mem, List.mem_range]
      refine ⟨hj, ?_⟩
      rw [List.getD_eq_getElem?_getD, hi]
      simp
  · rcases List.mem_append.1 hu with h1 | h1
    · exact (hea x u h1).old _
    · exact hcap n' hn' u h1
  · obtain ⟨j, h1, h2⟩ := zip_at hx
    exact ⟨hlt x (List.mem_of_getElem? h1), fun el hel u hu => (hnf o (List.mem_of_getElem? h2) el hel u hu).old n⟩

theorem fx_ho {P : Program} {f F : Nat} {caps us : List V} {Mc : Hp} {n : Nat} {α β : Type} {ea : α → List V} {eb : β → V} {p : α → Option β} {u : V} (hc : Clo P f caps Mc n ea eb p) (hus : ∀ x ∈ us, NF x ∨ x = .fn f caps) (hu : NF u) (run : FS P F us Mc n u []) : Fx P F us Mc n u [] :=
  ⟨fun x hx => by
    rcases hus x hx with h | rfl
    · exact h.old n
    · intro y hy
      cases hy with
      | fn h2 h3 => exact hc.caps _ (List.mem_of_getElem? h2) y h3,
  hc.M, (fun e he => by cases he), fun x o hx el hel u hu y hy => Nat.lt_succ_of_lt ((hc.M x o hx).2 el hel u hu y hy), hu.old _, run⟩
theorem nfon : ∀ o ∈ ([] : List Ob), NFO o := fun _ h => by cases h
theorem nfoc {o : Ob} {l : List Ob} (h : NFO o) (r : ∀ o ∈ l, NFO o) : ∀ x ∈ o :: l, NFO x := fun x hx => by
  rcases List.mem_cons.1 hx with rfl | hx
  · exact h
  · exact r x hx
theorem nfo1 {cs : List V} {n : Nat} (h : ∀ u ∈ cs, NF u) : NFO ⟨[cs], n⟩ := fun el hel u hu => by
  rw [List.mem_singleton.1 hel] at hu
  exact h u hu
def AllH (M : Hp) : List (Nat × Ob) → Prop
  | [] => True
  | p :: r => M p.1 = some p.2 ∧ AllH M r
theorem subH {M : Hp} {H : List (Nat × Ob)} (h : AllH M H) : Sub (hl H) M := by
  induction H with
  | nil => intro x o hx; cases hx
  | cons p r ih =>
    intro x o hx
    rw [hl_cons] at hx
    split at hx
    · rename_i e; subst e; cases hx; exact h.1
    · exact ih h.2 x o hx
theorem nfF {f : Nat} {caps : List V} : ∀ x ∈ ([] : List V), NF x ∨ x = .fn f caps := fun _ h => by cases h
theorem nfcF {f : Nat} {caps : List V} {a : V} {l : List V} (h : NF a) (r : ∀ x ∈ l, NF x ∨ x = .fn f caps) : ∀ x ∈ a :: l, NF x ∨ x = .fn f caps := fun u hu => by
  rcases List.mem_cons.1 hu with rfl | hu
  · exact .inl h
  · exact r u hu
theorem nffF {f : Nat} {caps : List V} {l : List V} (r : ∀ x ∈ l, NF x ∨ x = .fn f caps) : ∀ x ∈ (.fn f caps) :: l, NF x ∨ x = .fn f caps := fun u hu => by
  rcases List.mem_cons.1 hu with rfl | hu
  · exact .inr rfl
  · exact r u hu
end Go.Ka
namespace Go.Ka
open Go.RowKit
variable [Tab]

/-- A value that names one object, by whatever number. -/
def Fam (j : Nat) (u : Nat → V) : Prop := ∀ F ν ν' v id, ν' id = ν j → Rel F ν v (u j) → Rel F ν' v (u id)
inductive Fams (j : Nat) : (Nat → List V) → Prop
  | nil : Fams j fun _ => []
  | cons {u : Nat → V} {us : Nat → List V} (h : Fam j u) (hs : Fams j us) : Fams j fun i => u i :: us i
theorem Fam.nf {j : Nat} {u : V} (h : NF u) : Fam j fun _ => u := fun _ _ _ _ _ _ hr => hr.nf h
theorem Fam.own {j a n : Nat} : Fam j fun i => .own i a n := fun F ν ν' v id h hr => by
  cases hr with
  | own _ _ _ c A k hk hc hm hA hB => exact .own id a n c A k (h.trans hk) hc hm hA hB
theorem Fams.len {j : Nat} {us : Nat → List V} (h : Fams j us) : ∀ i, (us i).length = (us j).length := by
  induction h with
  | nil => intro i; rfl
  | cons _ _ ih => intro i; simp [ih i]
theorem Fams.at {j : Nat} {us : Nat → List V} (h : Fams j us) : ∀ (x i : Nat) (u' : V), (us i)[x]? = some u' → ∃ u : Nat → V, (us j)[x]? = some (u j) ∧ u i = u' ∧ Fam j u := by
  induction h with
  | nil => intro x i u' hx; simp at hx
  | cons h hs ih =>
    intro x i u' hx
    cases x with
    | zero => simp at hx; exact ⟨_, rfl, hx, h⟩
    | succ x => exact ih x i u' (by simpa using hx)
theorem Fam.tup {j : Nat} {us : Nat → List V} (h : Fams j us) : Fam j fun i => .tup (us i) := fun F ν ν' v id he hr => by
  dsimp only at hr ⊢
  generalize hu : us j = uj at hr
  cases hr with
  | tup vs _ hl hr =>
    subst hu
    refine .tup vs _ (hl.trans (h.len id).symm) fun x v u' hv hu' => ?_
    obtain ⟨u, h1, rfl, h2⟩ := h.at x id u' hu'
    exact h2 F ν ν' v id he (hr x v _ hv h1)
theorem Fam.agg {j : Nat} {us : Nat → List V} (h : Fams j us) (hc : ∀ i, ((us i).all V.cell) = true) : Fam j fun i => .agg (us i) := fun F ν ν' v id he hr => by
  dsimp only at hr ⊢
  generalize hu : us j = uj at hr
  cases hr with
  | agg vs _ hl hce hr =>
    subst hu
    refine .agg vs _ (hl.trans (h.len id).symm) (fun x u hx => cellL (hc id) u (List.mem_of_getElem? hx)) fun x v u' hv hu' => ?_
    obtain ⟨u, h1, rfl, h2⟩ := h.at x id u' hu'
    exact h2 F ν ν' v id he (hr x v _ hv h1)

/-- A call of plain values that hands back an object of its own. -/
structure Nw (P : Program) (f : Nat) (us : List V) (u : Nat → V) (o : Ob) : Prop where
  hus : ∀ x ∈ us, NF x
  ho : NFO o
  run : ∃ j, FS P f us M0 0 (u j) [(j, some o)] ∧ Fam j u

section
variable {P : Program} {σ : Nat → V} {M : Hp} {id : Nat} {dst : Option Nat} {ty : Nat} {pos : String} {after : Array Edge} {guard : Option (Nat × Bool)} {c : Operand} {args : Array Operand} {ts : Array TypeId} {f : Nat} {caps : List V} {u : Nat → V} {o : Ob}
theorem yl_nw (hc : ev σ c = .fn f caps) (hp : plain P f = true) (h : Nw P f (args.toList.map (ev σ) ++ caps) u o) : Yl P ⟨dst, .call ⟨.value c, args, ts⟩, ty, pos, after, guard⟩ σ M id (u id) [(id, some o)] := by
  intro B M' hs a w F ν hok hid hN hm
  obtain ⟨vs, hrun, hl, hr⟩ := call_enter (args := args) (ts := ts) (dst := dst) (ty := ty) (pos := pos) (after := after) (guard := guard) (w := w) hm hc hp
  obtain ⟨j, run, fam⟩ := h.run
  unfold Oper.wp
  rw [hrun]
  simp only [Oper.upon]
  refine (run w F ν0 vs (hok.enter (νc := ν0) (Mc := M0) (fun x o hx => by cases hx)) (fun _ _ => rfl) hl (fun j v u hj hu => (hr j v u hj hu).nf (h.hus u (List.mem_of_getElem? hu)))).mono fun e w' hx => ?_
  obtain ⟨v, F', ν', rfl, ok', hF, _, hrel⟩ := hx
  have at0 : ∀ x o', app [(j, some o)] M0 x = some o' → x = j ∧ o' = o := fun x o' hx => by
    simp only [app, setM_at] at hx
    split at hx
    · rename_i e; exact ⟨e, (Option.some.inj hx).symm⟩
    · cases hx
  have atj : app [(j, some o)] M0 j = some o := by simp [app, setM_at]
  obtain ⟨kj, hkj, _⟩ := ok'.ob j o atj
  let ν2 : Nu := fun x => if x = id then ν' j else none
  have ok2 : Ok ⟨w, F, own0 ν0 M0⟩ F' ν2 (setM M0 id (some o)) w' := Ok.alike ok' (fun _ => Iff.rfl) (fun _ => j) (fun x o' hx => by
    rw [setM_at] at hx
    split at hx
    · rename_i e; cases hx; exact ⟨atj, if_pos e, h.ho⟩
    · cases hx) (fun x y o1 o2 hx hy _ => by
    rw [setM_at] at hx hy
    split at hx
    · rename_i e1
      split at hy
      · rename_i e2; exact e1.trans e2.symm
      · cases hy
    · cases hx)
  let ν3 : Nu := fun x => if x = id then ν' j else ν x
  have hν : Nu.le ν ν3 := fun x k hx => by
    show (if x = id then _ else _) = _
    rw [if_neg (fun e => by rw [e, hid] at hx; cases hx)]
    exact hx
  refine ⟨v, u id, app [(id, some o)] M', F', ν3, rfl, ⟨rfl, rfl⟩, hok.call (Mc := M0) (νc := ν0) (fun x o hx => by cases hx) ok2 hF hν (fun x o' hx => ?_), hF, hν, fun x hx => if_neg hx, fam F' ν' ν3 v id (if_pos rfl) hrel⟩
  simp only [app, setM_at] at hx
  split at hx
  · rename_i e
    cases hx
    exact .inl ⟨by rw [setM_at, if_pos e], by show (if x = id then _ else _) = (if x = id then _ else _); rw [if_pos e, if_pos e], fun el hel u hu y hy => absurd hy (h.ho el hel u hu y)⟩
  · rename_i e
    exact .inr ⟨hx, rfl, if_neg e⟩
end

section
variable {G : Rg} {os : List Oper} {i : Nat} {σ σ' : Nat → V} {M M' : Hp} {ds : List Yd}
variable {d : Option Nat} {ty : Nat} {pos : String} {aft : Array Edge} {g : Option (Nat × Bool)}
variable {cal : Operand} {args : Array Operand} {ts : Array TypeId} {f : Nat} {caps us us' : List V} {u : Nat → V} {o : Ob}
theorem x_nw (hc : ev σ cal = .fn f caps) (hp : plain G.P f = true) (h : Nw G.P f us u o) (he : args.toList.map (ev σ) ++ caps = us) (c : Ck G ⟨d, .call ⟨.value cal, args, ts⟩, ty, pos, aft, g⟩ i σ [(G.n0 + i, some o)]) (r : Lx G os (i + 1) (upd σ d (u (G.n0 + i))) (setM M (G.n0 + i) (some o)) ds σ' M') : Lx G (⟨d, .call ⟨.value cal, args, ts⟩, ty, pos, aft, g⟩ :: os) i σ M (⟨u (G.n0 + i), [(G.n0 + i, some o)]⟩ :: ds) σ' M' :=
  lx_on c (yl_nw ((ev_see (by simp [Op.operands, Call.operands])).trans hc) hp (by
    rw [evl_congr (σ' := σ) fun y hy => ev_see (by simp [Op.operands, Call.operands] at hy ⊢; simp [hy]), he]
    exact h)) r
end
theorem nfob {α : Type} [Enc α] {l : List α} : NFO (ob l) := fun el hel u hu => by
  obtain ⟨a, _, rfl⟩ := List.mem_map.1 hel
  exact Enc.nf a u hu
theorem sub1 {M : Hp} {j : Nat} {o : Ob} (h : M j = some o) : Sub (app [(j, some o)] M0) M := fun x o' hx => by
  simp only [app, setM_at] at hx
  split at hx
  · rename_i e; subst e; cases hx; exact h
  · cases hx
theorem Nw.args {P : Program} {f : Nat} {us us' : List V} {u : Nat → V} {o : Ob} (h : Nw P f us' u o) (hw : Wks us us') (hn : ∀ x ∈ us, NF x) : Nw P f us u o := by
  obtain ⟨j, run, fam⟩ := h.run
  exact ⟨hn, h.ho, j, fun w F ν args hok hnx hl hr => run w F ν args hok hnx (hl.trans hw.len) fun j v u' hv hu => by
    obtain ⟨u0, h0, hw⟩ := hw.at j u' hu
    exact hw _ _ _ (hr j v u0 hv h0), fam⟩
end Go.Ka
namespace Go.Ka
open Go.RowKit
variable [Tab]

/-- An error: there is one, or none. -/
def er (b : Bool) : V := bif b then .nz else .val .nilIface
theorem nfr {b : Bool} : NF (er b) := by cases b <;> intro y hy <;> cases hy
theorem tre {ρ : Nat → Nat} {D Z : List Nat} {b : Bool} : Tr ρ D Z (er b) (er b) := Tr.nf nfr
theorem Pl.er {b : Bool} : Pl (er b) := by cases b; exact Pl.val; exact Pl.nz
section
variable {P : Program} {B : Gd} {σ σ' : Nat → V} {M M' : Hp} {id : Nat} {K : V → Hp → Prop} {dst : Option Nat} {ty : Nat} {pos : String} {after : Array Edge} {guard : Option (Nat × Bool)}
theorem w_nebool {t t' : Nat} {x y : Operand} {a b : Bool} (ht : P.underlying t = some .bool) (hx : ev σ x = .val (.bool a)) (hy : ev σ y = .val (.bool b)) (hK : K (.val (.bool (!(a == b)))) M) :
    OpW P B ⟨dst, .binOp .neq t x y t', ty, pos, after, guard⟩ σ M id K := by
  refine opw_of hK fun ac w F ν _ hm => ?_
  have h1 := ev_rel hm x
  have h2 := ev_rel hm y
  rw [hx] at h1
  rw [hy] at h2
  have e1 := rel_val h1
  have e2 := rel_val h2
  exact ⟨_, by simp [execOp, e1, e2, eqGuard_at_bool, run_neq_bool w t a b ht], .val _ rfl⟩
theorem w_en {op : BinOp} {t t' : Nat} {x : Operand} {b c : Bool} (ht : P.underlying t = some (.interface (P.methodsAt t))) (hx : ev σ x = er b) (ho : (op = .eql ∧ c = !b) ∨ (op = .neq ∧ c = b)) (hK : K (bo c) M) :
    OpW P B ⟨dst, .binOp op t x (.const .nilIface) t', ty, pos, after, guard⟩ σ M id K := by
  refine opw_of hK fun ac w F ν _ hm => ?_
  have h1 := ev_rel hm x
  rw [hx] at h1
  have e2 : ac.eval (.const .nilIface) = .nilIface := rfl
  cases b with
  | false =>
    have e1 : ac.eval x = .nilIface := rel_val h1
    rcases ho with ⟨rfl, rfl⟩ | ⟨rfl, rfl⟩
    · exact ⟨_, by simp [execOp, e1, e2, eqGuard, run_eql_nil_nil w t ht], .val _ rfl⟩
    · exact ⟨_, by simp [execOp, e1, e2, eqGuard, run_neq_nil_nil w t ht], .val _ rfl⟩
  | true =>
    generalize hv : ac.eval x = v at h1
    cases h1 with
    | nz u z =>
      rcases ho with ⟨rfl, rfl⟩ | ⟨rfl, rfl⟩
      · exact ⟨_, by simp [execOp, hv, e2, eqGuard, run_eql_held_nil w t u z ht], .val _ rfl⟩
      · exact ⟨_, by simp [execOp, hv, e2, eqGuard, run_neq_held_nil w t u z ht], .val _ rfl⟩
end
section
variable {G : Rg} {os : List Oper} {i : Nat} {σ σ' : Nat → V} {M M' : Hp} {u : V} {ds : List Yd}
variable {d : Option Nat} {ty : Nat} {pos : String} {aft : Array Edge} {g : Option (Nat × Bool)} {x y : Operand} {t : Nat}
theorem x_be {t' : Nat} {a b : Bool} (Q : G.P.underlying t = some .bool) (hx : ev σ x = bo a) (hy : ev σ y = bo b) (c : Ck G ⟨d, .binOp .eql t x y t', ty, pos, aft, g⟩ i σ []) (r : Lx G os (i + 1) (upd σ d (bo (a == b))) M ds σ' M') : Lx G (⟨d, .binOp .eql t x y t', ty, pos, aft, g⟩ :: os) i σ M (⟨bo (a == b), []⟩ :: ds) σ' M' :=
  lx_on c (fun _ _ _ => w_eqbool Q ((ev_see (by simp [Op.operands])).trans hx) ((ev_see (by simp [Op.operands])).trans hy) ⟨rfl, rfl⟩) r
theorem x_bn {t' : Nat} {a b : Bool} (Q : G.P.underlying t = some .bool) (hx : ev σ x = bo a) (hy : ev σ y = bo b) (c : Ck G ⟨d, .binOp .neq t x y t', ty, pos, aft, g⟩ i σ []) (r : Lx G os (i + 1) (upd σ d (bo (!(a == b)))) M ds σ' M') : Lx G (⟨d, .binOp .neq t x y t', ty, pos, aft, g⟩ :: os) i σ M (⟨bo (!(a == b)), []⟩ :: ds) σ' M' :=
  lx_on c (fun _ _ _ => w_nebool Q ((ev_see (by simp [Op.operands])).trans hx) ((ev_see (by simp [Op.operands])).trans hy) ⟨rfl, rfl⟩) r
theorem x_ee {t' : Nat} {b : Bool} (Q : G.P.underlying t = some (.interface (G.P.methodsAt t))) (hx : ev σ x = er b) (c : Ck G ⟨d, .binOp .eql t x (.const .nilIface) t', ty, pos, aft, g⟩ i σ []) (r : Lx G os (i + 1) (upd σ d (bo (!b))) M ds σ' M') : Lx G (⟨d, .binOp .eql t x (.const .nilIface) t', ty, pos, aft, g⟩ :: os) i σ M (⟨bo (!b), []⟩ :: ds) σ' M' :=
  lx_on c (fun _ _ _ => w_en Q ((ev_see (by simp [Op.operands])).trans hx) (.inl ⟨rfl, rfl⟩) ⟨rfl, rfl⟩) r
theorem x_en {t' : Nat} {b : Bool} (Q : G.P.underlying t = some (.interface (G.P.methodsAt t))) (hx : ev σ x = er b) (c : Ck G ⟨d, .binOp .neq t x (.const .nilIface) t', ty, pos, aft, g⟩ i σ []) (r : Lx G os (i + 1) (upd σ d (bo b)) M ds σ' M') : Lx G (⟨d, .binOp .neq t x (.const .nilIface) t', ty, pos, aft, g⟩ :: os) i σ M (⟨bo b, []⟩ :: ds) σ' M' :=
  lx_on c (fun _ _ _ => w_en Q ((ev_see (by simp [Op.operands])).trans hx) (.inr ⟨rfl, rfl⟩) ⟨rfl, rfl⟩) r
end

/-- The tables are there. -/
def TabOn (w : World) : Prop := (∀ b o v, Tab.T b o = some v → w.cell? ⟨b, o, none⟩ = some v) ∧ ∀ b o, Tab.H b = some o → w.heap[b]? = some o
theorem Ok.tabOn {B : Gd} {F : Fz} {ν : Nu} {M : Hp} {w : World} (h : Ok B F ν M w) : TabOn w := ⟨fun b o v hv => h.fz _ _ _ (h.tab.1 _ _ _ hv), h.tab.2⟩
theorem rel_vals {F : Fz} {ν : Nu} {args vs : List Value} (hl : args.length = (vs.map V.val).length) (hr : ∀ (j : Nat) (v : Value) (u : V), args[j]? = some v → (vs.map V.val)[j]? = some u → Rel F ν v u) : args = vs := by
  refine List.ext_getElem (by simpa using hl) fun j h1 h2 => ?_
  exact rel_val (hr j args[j] (.val vs[j]) (List.getElem?_eq_getElem h1) (by simp [h2]))
/-- Values in, a value out; the heap may have grown. -/
theorem pu_val {P : Program} {f : Nat} {vs : List Value} {u : V} (hu : NF u) (hp : Pl u) (h : ∀ w, TabOn w → Calls P f vs.toArray w fun e w' => ∃ v, e = .returned v ∧ Rel (fun _ _ => none) ν0 v u ∧ Below w.heap.size w w') :
    Pu P f (vs.map V.val) u := ⟨fun x hx => by obtain ⟨v, _, rfl⟩ := List.mem_map.1 hx; exact nfv, hu, fun w F ν args hok hid hl hr => by
  have e := rel_vals hl hr
  subst e
  refine (h w hok.tabOn).mono fun e w' hx => ?_
  obtain ⟨v, h1, h2, h3⟩ := hx
  exact ⟨v, F, ν, h1, hok.on h3.os h3.tape h3.output h3.size h3.block, Fz.le_refl _, fun _ _ => rfl, hp _ _ _ _ _ h2⟩⟩
theorem below_drewN (w : World) (n : Nat) : Below w.heap.size w (w.drewN n) := ⟨rfl, rfl, rfl, Nat.le_refl _, fun _ _ => rfl⟩
theorem below_self (w : World) : Below w.heap.size w w := ⟨rfl, rfl, rfl, Nat.le_refl _, fun _ _ => rfl⟩
theorem below_drew (w : World) : Below w.heap.size w w.drew := ⟨rfl, rfl, rfl, Nat.le_refl _, fun _ _ => rfl⟩
theorem lgBE {α : Type} {l : List α} {j : Int} {a : α} {n : Nat} (h : lgetO l j = some a) (e : l.length = n) : (decide (0 ≤ j) && decide (j < n)) = true := e ▸ lgB h
end Go.Ka
namespace Go.Ka
variable [Tab]
def s_indexByte (s : Str) (c : UInt8) : Option Int := some (Lib.indexByte s c)
def s_trim (s t : Str) : Option Str := match t with
  | [c] => okO (decide (c.toNat < 128) && decide (s.length ≤ 9223372036854775807)) (Lib.trimB s c)
  | _ => none
def s_trimPrefix (s p : Str) : Option Str := some (Lib.trimPrefix s p)
def s_atoi (s : Str) : Option (Int × Bool) := okO (decide (s.length ≤ 281474976710656)) (match Lib.atoiAll s with
  | .ok v => (v, false)
  | .range => (Lib.atoiSat s, true)
  | _ => (0, true))
def s_itoa (n : Int) : Option Str := okO (inR n) (Lib.itoa n)
def s_fields (s : Str) : Option (List Str) := okO ((decide (s.length < 4294967281) && s.all fun b => decide (b.toNat < 128)) && decide ((Lib.fields s).length ≤ 9223372036854775807)) (Lib.fields s)
def s_cloneS (l : List Str) : Option (List Str) := okO (decide (l.length * 16 ≤ 140737488355328)) l
def insL (x : Str) : List Str → List Str
  | [] => [x]
  | y :: r => bif decide (x ≤ y) then x :: y :: r else y :: insL x r
def sortL (l : List Str) : List Str := l.foldr insL []
theorem insL_perm (x : Str) (l : List Str) : (insL x l).Perm (x :: l) := by
  induction l with
  | nil => exact .refl _
  | cons y r ih =>
    unfold insL
    cases decide (x ≤ y)
    · exact (ih.cons y).trans (.swap x y r)
    · exact .refl _
theorem sortL_perm (l : List Str) : (sortL l).Perm l := by
  induction l with
  | nil => exact .refl _
  | cons x r ih => exact (insL_perm x _).trans (ih.cons x)
@[simp] theorem sortL_len (l : List Str) : (sortL l).length = l.length := (sortL_perm l).length_eq
theorem insL_sorted (x : Str) (l : List Str) (h : l.Pairwise (· ≤ ·)) : (insL x l).Pairwise (· ≤ ·) := by
  induction l with
  | nil => simp [insL]
  | cons y r ih =>
    unfold insL
    cases hb : decide (x ≤ y)
    · have hxy : y ≤ x := (List.le_total x y).resolve_left (by simpa using hb)
      have hr := List.pairwise_cons.1 h
      refine List.pairwise_cons.2 ⟨fun z hz => ?_, ih hr.2⟩
      rcases List.mem_cons.1 ((insL_perm x r).mem_iff.1 hz) with rfl | hz
      · exact hxy
      · exact hr.1 z hz
    · have hxy : x ≤ y := by simpa using hb
      have hr := List.pairwise_cons.1 h
      refine List.pairwise_cons.2 ⟨fun z hz => ?_, h⟩
      rcases List.mem_cons.1 hz with rfl | hz
      · exact hxy
      · exact List.le_trans hxy (hr.1 z hz)
theorem sortL_sorted (l : List Str) : (sortL l).Pairwise (· ≤ ·) := by
  induction l with
  | nil => exact .nil
  | cons x r ih => exact insL_sorted x _ ih
theorem sortL_eq (l : List Str) : sortL l = l.mergeSort fun x y => decide (x ≤ y) := by
  refine List.Perm.eq_of_pairwise (le := (· ≤ ·)) (fun a b _ _ h1 h2 => List.le_antisymm h1 h2) (sortL_sorted l) ?_ ((sortL_perm l).trans (List.mergeSort_perm l _).symm)
  have := List.pairwise_mergeSort (le := fun x y : Str => decide (x ≤ y)) (fun a b c h1 h2 => by simp at h1 h2 ⊢; exact List.le_trans h1 h2) (fun a b => by simpa using List.le_total a b) l
  exact this.imp fun h => by simpa using h
def s_sortS (l : List Str) : Option Unit := okO (decide (l.length < 4611686018427387904)) ()
def s_compactS (l : List Str) : Option (List Str) := okO (decide (l.length ≤ 4611686018427387904)) (Lib.compact l)
end Go.Ka
namespace Go.Ka
open Go.RowKit Go.Sort Go.Proofs
variable [Tab]

theorem blk_putRow {w : World} {blk : Nat} {cur : Array Value} {ty : TypeId} {fr : Nat × Nat} (h : w.heap[blk]? = some (.cells cur ty fr)) (l : List Str) (n : Nat) (os : Array Obj) :
    (grow (putRow encStr (Sort.ahead w n) blk 0 l.toArray) os).heap[blk]? = some (.cells (putCells encStr 0 l.toArray cur) ty fr) := by
  have hb := lt_of_some h
  show ((putRow encStr (Sort.ahead w n) blk 0 l.toArray).heap ++ os)[blk]? = _
  rw [Array.getElem?_append_left (by simpa using hb)]
  show ((w.heap).modify blk _)[blk]? = _
  rw [Array.getElem?_modify, if_pos rfl, h]
  rfl
theorem blk_other {w : World} {blk b : Nat} (l : List Str) (n : Nat) (os : Array Obj) (hb : b < w.heap.size) (hn : b ≠ blk) :
    (grow (putRow encStr (Sort.ahead w n) blk 0 l.toArray) os).heap[b]? = w.heap[b]? := by
  show ((putRow encStr (Sort.ahead w n) blk 0 l.toArray).heap ++ os)[b]? = _
  rw [Array.getElem?_append_left (by simpa using hb)]
  show ((w.heap).modify blk _)[b]? = _
  rw [Array.getElem?_modify, if_neg (Ne.symm hn)]
theorem putCells_get (l : List Str) (cur : Array Value) (hc : l.length ≤ cur.size) {i : Nat} {s : Str} (hi : l[i]? = some s) : (putCells encStr 0 l.toArray cur)[i]? = some (str s) := by
  have hlt := (List.getElem?_eq_some_iff.1 hi).1
  have hs := (List.getElem?_eq_some_iff.1 hi).2
  simp only [putCells, Array.getElem?_mapIdx]
  rw [Array.getElem?_eq_getElem (show i < cur.size by omega)]
  simp [hlt, str]
  rw [← hs]
theorem ob_at {l : List Str} {i : Nat} {el : List V} (h : (ob l).els[i]? = some el) : ∃ s, l[i]? = some s ∧ el = [tx s] := by
  simp only [ob, List.getElem?_map] at h
  cases hs : l[i]? with
  | none => simp [hs] at h
  | some s => simp [hs] at h; exact ⟨s, rfl, h.symm⟩

/-- A row of texts, laid anew. -/
theorem obAt_putRow {F : Fz} {ν : Nu} {w : World} {k : Blk} {l l' : List Str} (h : RealAt F ν w (ob l) k) (hl : l'.length = l.length) (n : Nat) (os : Array Obj) (hv : k.vt = false) :
    ObAt F ν (grow (putRow encStr (Sort.ahead w n) k.b 0 l'.toArray) os) (ob l') k := by
  obtain ⟨cur, ty, fr, h1, ⟨h2, gty⟩, h3, h4, h5, h6, h7⟩ := h
  have hs : (ob l).sz = 1 := rfl
  have hfit : l.length ≤ cur.size := by
    rw [h2]
    have : (ob l).els.length = l.length := by simp [ob]
    rw [this, hs] at h6
    omega
  refine .inl ⟨hv, _, ty, fr, blk_putRow h1 l' n os, ⟨by simp [putCells, h2], gty⟩, h3, h4, fun i el he => ?_, ?_, fun i el j u he hj => ?_⟩
  · obtain ⟨s, _, rfl⟩ := ob_at he; rfl
  · have e1 : (ob l').els.length = l.length := by simp [ob, hl]
    have e2 : (ob l).els.length = l.length := by simp [ob]
    have e3 : (ob l').sz = (ob l).sz := rfl
    rw [e1, e3, ← e2]; exact h6
  · obtain ⟨s, hs', rfl⟩ := ob_at he
    cases j with
    | zero =>
      simp at hj
      subst hj
      refine ⟨rfl, str s, ?_, .val _ rfl⟩
      have : i * (ob l').sz + 0 = i := by show i * 1 + 0 = i; omega
      rw [this]
      exact putCells_get l' cur (by omega) hs'
    | succ j => simp at hj
theorem holds_real {F : Fz} {ν : Nu} {w : World} {k : Blk} {l : List Str} (h : RealAt F ν w (ob l) k) : Holds encStr w k.b 0 l.toArray := by
  obtain ⟨cur, ty, fr, h1, ⟨h2, gty⟩, h3, h4, h5, h6, h7⟩ := h
  intro j hj
  have hj' : j < l.length := by simpa using hj
  have e1 : (ob l).els.length = l.length := by simp [ob]
  have e3 : (ob l).sz = 1 := rfl
  obtain ⟨_, v, hv, hr⟩ := h7 j [tx l[j]] 0 (tx l[j]) (by simp [ob, hj']; rfl) rfl
  rw [e3, show j * 1 + 0 = 0 + j by omega] at hv
  have e := rel_val hr
  subst e
  refine ⟨?_, ?_⟩
  · rw [cell_at h1, hv]; simp [hj', str]
  · have hc : 0 + j < k.cap := by rw [e1, e3] at h6; omega
    have := h3 (0 + j) hc
    simp only [World.frozen?, h1]
    simp only [Bool.and_eq_false_iff, decide_eq_false_iff_not]
    omega
theorem Ok.worldV {B : Gd} {F : Fz} {ν : Nu} {M : Hp} {w : World} (h : Ok B F ν M w) {w' : World} (h1 : w'.os = w.os) (h2 : w'.tape = w.tape) (h3 : w'.output = w.output) (h4 : w.heap.size ≤ w'.heap.size)
    {id : Nat} {o o' : Ob} {k : Blk} (hm : M id = some o) (hk : ν id = some k) (hv : k.vt = true) (h5 : ∀ b, b < w.heap.size → w'.heap[b]? = w.heap[b]?) (h6 : ObAt F ν w' o' k) : Ok B F ν (setM M id (some o')) w' := by
  have g := h.on h1 h2 h3 h4 h5
  refine ⟨g.fz, fun x q hx => ?_, fun x y q r k1 k2 a b hne c d v1 v2 => ?_, g.below, fun x q k1 a b v1 => ?_, g.tab, g.ice⟩
  · by_cases e : x = id
    · subst e
      rw [setM_same] at hx
      cases hx
      exact ⟨k, hk, h6, fun h => by rw [hv] at h; cases h⟩
    · rw [setM_ne e] at hx
      exact g.ob x q hx
  · have hx : x ≠ id := fun e => by subst e; rw [hk] at c; cases c; rw [hv] at v1; cases v1
    have hy : y ≠ id := fun e => by subst e; rw [hk] at d; cases d; rw [hv] at v2; cases v2
    rw [setM_ne hx] at a
    rw [setM_ne hy] at b
    exact g.inj x y q r k1 k2 a b hne c d v1 v2
  · have hx : x ≠ id := fun e => by subst e; rw [hk] at b; cases b; rw [hv] at v1; cases v1
    rw [setM_ne hx] at a
    exact g.live x q k1 a b v1
theorem old_own {n id a k : Nat} (h : id < n) : Old n (.own id a k) := fun y hy => by cases hy; exact h
theorem hl_one {id x : Nat} {o o' : Ob} (h : hl [(id, o)] x = some o') : x = id ∧ o' = o := by
  rw [hl_cons] at h
  split at h
  · rename_i e; cases h; exact ⟨e, rfl⟩
  · cases h
theorem hl_at {id : Nat} {o : Ob} : hl [(id, o)] id = some o := by rw [hl_cons, if_pos rfl]
theorem fx_one {P : Program} {f id n : Nat} {o o' : Ob} {us : List V} {u : V} (hus : ∀ x ∈ us, Old n x) (hid : id < n) (ho : NFO o) (ho' : NFO o') (hu : Old (n + 1) u)
    (run : ∀ w F ν k (args : List Value), Ok ⟨w, F, own0 ν (hl [(id, o)])⟩ F ν (hl [(id, o)]) w → ν id = some k → ObAt F ν w o k → args.length = us.length → (∀ (j : Nat) (v : Value) (u : V), args[j]? = some v → us[j]? = some u → Rel F ν v u) →
      Calls P f args.toArray w fun e w' => ∃ v, e = .returned v ∧ w'.os = w.os ∧ w'.tape = w.tape ∧ w'.output = w.output ∧ w.heap.size ≤ w'.heap.size ∧ (∀ b, b < w.heap.size → (k.vt = false → b ≠ k.b) → w'.heap[b]? = w.heap[b]?) ∧ ObAt F ν w' o' k ∧ Rel F ν v u) :
    Fx P f us (hl [(id, o)]) n u [(id, some o')] := by
  refine ⟨hus, fun x q hx => ?_, fun e he => ?_, fun x q hx => ?_, hu, fun w F ν args hok hn hl1 hr => ?_⟩
  · obtain ⟨rfl, rfl⟩ := hl_one hx
    exact ⟨hid, fun el hel u hu => (ho el hel u hu).old _⟩
  · simp only [List.mem_singleton] at he
    subst he
    exact .inl ⟨hid, by rw [hl_at]; rfl⟩
  · simp only [app, setM_at] at hx
    split at hx
    · cases hx; exact fun el hel u hu => (ho' el hel u hu).old _
    · obtain ⟨rfl, rfl⟩ := hl_one hx
      exact fun el hel u hu => (ho el hel u hu).old _
  · obtain ⟨k, hk, hat, _⟩ := hok.ob id o hl_at
    refine (run w F ν k args hok hk hat hl1 hr).mono fun e w' hx => ?_
    obtain ⟨v, rfl, h1, h2, h3, h4, h5, h6, h7⟩ := hx
    refine ⟨v, F, ν, rfl, ?_, Fz.le_refl _, fun _ _ => rfl, h7⟩
    show Ok _ F ν (setM _ id (some o')) w'
    cases hv : k.vt with
    | false => exact hok.world h1 h2 h3 h4 hl_at hk hv (fun b hb hn => h5 b hb fun _ => hn) h6
    | true => exact hok.worldV h1 h2 h3 h4 hl_at hk hv (fun b hb => h5 b hb fun h => by rw [hv] at h; cases h) h6
theorem own_arg {F : Fz} {ν : Nu} {id n : Nat} {args : List Value} {us : List V} (hl : args.length = us.length) (hr : ∀ (j : Nat) (v : Value) (u : V), args[j]? = some v → us[j]? = some u → Rel F ν v u) (he : us = [.own id 0 n]) :
    ∃ A c k, args = [.slice A n c] ∧ ν id = some k ∧ n ≤ c ∧ c ≤ maxLen ∧ (c ≠ 0 → A = some ⟨k.b, 0, none⟩ ∧ c * k.sz ≤ k.cap) ∧ (A = none ∨ ∃ off, A = some ⟨k.b, off, none⟩ ∧ k.vt = false) := by
  subst he
  match args, hl with
  | [a], _ =>
    have := hr 0 a (.own id 0 n) rfl rfl
    cases this with
    | own _ _ _ c A k hk hc hm hA hB => exact ⟨A, c, k, rfl, hk, hc, hm, fun h => by simpa using hA h, hB⟩
theorem sort_fx {P : Program} {f : Nat} (h0 : ∀ (p : Option Addr) (cap : Nat) (w : World), Calls P f #[.slice p 0 cap] w fun e w' => e = .returned (.tuple #[]) ∧ w' = w)
    (h1 : ∀ (blk off cap : Nat) (ss : List (List UInt8)) (w : World), Holds encStr w blk off ss.toArray → blk < w.heap.size → ss.length < 4611686018427387904 → Calls P f #[.slice (some ⟨blk, off, none⟩) ss.length cap] w fun e w' =>
      e = .returned (.tuple #[]) ∧ ∃ n os, w' = grow (putRow encStr (Sort.ahead w n) blk off (ss.mergeSort fun x y => decide (x ≤ y)).toArray) os)
    {l : List Str} {u : Unit} (h : s_sortS l = some u) {id n : Nat} (hid : id < n) : Fx P f [.own id 0 l.length] (hl [(id, ob l)]) n (.tup []) [(id, some (ob (sortL l)))] := by
  obtain ⟨hb, _⟩ := okO_inv h
  have hb : l.length < 4611686018427387904 := by simpa using hb
  refine fx_one (fun x hx => by rw [List.mem_singleton.1 hx]; exact old_own hid) hid nfob nfob ((NF.tup nfn).old _) fun w F ν k args hok hk hat hl hr => ?_
  obtain ⟨A, c, k', rfl, hk', hnc, hcm, hA, hB⟩ := own_arg hl hr rfl
  rw [hk] at hk'
  cases hk'
  simp only [← sortL_eq] at h1
  have hlen : (sortL l).length = l.length := sortL_len l
  by_cases hl0 : l = []
  · subst hl0
    refine (h0 A c w).mono fun e w' hx => ?_
    obtain ⟨rfl, rfl⟩ := hx
    have : sortL [] = [] := by simp [sortL]
    exact ⟨_, rfl, rfl, rfl, rfl, Nat.le_refl _, fun _ _ _ => rfl, by rw [this]; exact hat, .tup [] [] rfl (fun j v u h => by simp at h)⟩
  · have hpos : 0 < l.length := List.length_pos_iff.2 hl0
    obtain ⟨rfl, _⟩ := hA (by omega)
    have hv : k.vt = false := by
      obtain ⟨s, r, e⟩ := List.exists_cons_of_ne_nil hl0
      exact (hat.real (i := 0) (el := [tx s]) (by rw [e]; rfl)).1
    have hre := hat.realV hv
    refine (h1 k.b 0 c l w (holds_real hre) (hok.obLt hl_at hk hv) hb).mono fun e w' hx => ?_
    obtain ⟨rfl, q, os, rfl⟩ := hx
    refine ⟨_, rfl, rfl, rfl, rfl, by simp [grow], fun b hb hn => blk_other _ q os hb (hn hv), obAt_putRow hre hlen q os hv, .tup [] [] rfl (fun j v u h => by simp at h)⟩
theorem compact_len (l : List Str) : (Lib.compact l).length ≤ l.length := by
  simp only [Lib.compact, Lib.compactUpTo, List.length_map]
  exact Nat.le_trans (List.length_filter_le _ _) (by simp)
theorem compact_fx {P : Program} {f : Nat} (h0 : ∀ (p : Option Addr) (cap : Nat) (w : World), Calls P f #[.slice p 0 cap] w fun e w' => e = .returned (.slice p 0 cap) ∧ w' = w)
    (h1 : ∀ (blk off cap : Nat) (zs : List (List UInt8)) (w : World), Holds encStr w blk off zs.toArray → zs.length ≤ 9223372036854775807 → zs.length ≤ cap → Calls P f #[.slice (some ⟨blk, off, none⟩) zs.length cap] w fun e w' =>
      e = .returned (.slice (some ⟨blk, off, none⟩) (Lib.compact zs).length cap) ∧ ∃ q, w' = putRow encStr (Sort.ahead w q) blk off (Lib.compact zs ++ List.replicate (zs.length - (Lib.compact zs).length) []).toArray)
    {l l' : List Str} (h : s_compactS l = some l') {id n : Nat} (hid : id < n) : Fx P f [.own id 0 l.length] (hl [(id, ob l)]) n (.own id 0 l'.length) [(id, some (ob (l' ++ List.replicate (l.length - l'.length) [])))] := by
  obtain ⟨hb, rfl⟩ := okO_inv h
  have hb : l.length ≤ 4611686018427387904 := by simpa using hb
  have hcl := compact_len l
  refine fx_one (fun x hx => by rw [List.mem_singleton.1 hx]; exact old_own hid) hid nfob nfob (old_own (by omega)) fun w F ν k args hok hk hat hl hr => ?_
  obtain ⟨A, c, k', rfl, hk', hnc, hcm, hA, hB⟩ := own_arg hl hr rfl
  rw [hk] at hk'
  cases hk'
  by_cases hl0 : l = []
  · subst hl0
    refine (h0 A c w).mono fun e w' hx => ?_
    obtain ⟨rfl, rfl⟩ := hx
    exact ⟨_, rfl, rfl, rfl, rfl, Nat.le_refl _, fun _ _ _ => rfl, hat, .own id 0 0 c A k hk (Nat.zero_le _) hcm (fun h => by simpa using hA h) hB⟩
  · have hpos : 0 < l.length := List.length_pos_iff.2 hl0
    obtain ⟨rfl, hcap⟩ := hA (by omega)
    have hv : k.vt = false := by
      obtain ⟨s, r, e⟩ := List.exists_cons_of_ne_nil hl0
      exact (hat.real (i := 0) (el := [tx s]) (by rw [e]; rfl)).1
    have hre := hat.realV hv
    refine (h1 k.b 0 c l w (holds_real hre) (by omega) hnc).mono fun e w' hx => ?_
    obtain ⟨rfl, q, rfl⟩ := hx
    have e : ∀ (d : List Str), putRow encStr (Sort.ahead w q) k.b 0 d.toArray = grow (putRow encStr (Sort.ahead w q) k.b 0 d.toArray) #[] := fun d => by simp
    rw [e]
    exact ⟨_, rfl, rfl, rfl, rfl, by simp [grow], fun b hb hn => blk_other _ q _ hb (hn hv), obAt_putRow hre (by simp; omega) q _ hv, .own id 0 _ c _ k hk (by omega) hcm (fun h => ⟨by simp, by simpa using hcap⟩) hB⟩
end Go.Ka
namespace Go.Ka
open Enc (enc)
open Go.RowKit Go.Proofs
variable [Tab]

/-- A row of the call's own, as an object. -/
theorem nw_own {α : Type} [Enc α] {P : Program} {f e : Nat} {us : List V} {l : List α} (hus : ∀ x ∈ us, NF x)
    (h : ∀ w F (args : List Value), (∀ b o v, F b o = some v → w.cell? ⟨b, o, none⟩ = some v) → TabOn w → args.length = us.length → (∀ (j : Nat) (v : Value) (u : V), args[j]? = some v → us[j]? = some u → Rel F ν0 v u) →
      Calls P f args.toArray w fun e' w' => ∃ (v' : Value) (vals : Nat → Nat → Value), e' = .returned v' ∧ w'.ownsRow w.heap.size e (Enc.sz α) v' l.length ((List.range (l.length * Enc.sz α)).map fun i => vals (i / Enc.sz α) (i % Enc.sz α)) ∧ Below w.heap.size w w' ∧
        ∀ (i : Nat) (a : α) (j : Nat) (u : V), l[i]? = some a → (enc a)[j]? = some u → Rel F ν0 (vals i j) u) :
    Nw P f us (fun id => .own id 0 l.length) (ob l) := by
  refine ⟨hus, nfob, 0, fun w F ν args hok hn hl hr => ?_, Fam.own⟩
  have hν : ν = ν0 := by funext x; exact hn x (Nat.zero_le _)
  subst hν
  refine (h w F args hok.fz hok.tabOn hl hr).mono fun e' w' hx => ?_
  obtain ⟨v', vals, rfl, ⟨hlen, hown⟩, hb, hrel⟩ := hx
  have hok' := hok.on hb.os hb.tape hb.output hb.size hb.block
  have e0 : ∀ x, F x = F x := fun _ => rfl
  rcases hown with ⟨rfl, h0⟩ | ⟨g, cap, cur, rfl, hg, hh, hnc, hcm, hcs, htk⟩
  · have hl0 : l = [] := List.length_eq_zero_iff.1 h0
    subst hl0
    obtain ⟨ok2, hle⟩ := hok'.new (id := 0) (o := ob ([] : List α)) (k := ⟨0, Enc.sz α, 0, true, 0⟩) (hn 0 (Nat.le_refl _)) (fun h => by cases h) (fun h => by cases h) (fun h => by cases h) (.inr ⟨rfl, rfl, rfl, rfl⟩)
    exact ⟨_, F, _, rfl, ok2, Fz.le_refl _, fun _ h => absurd h (Nat.not_lt_zero _), .own 0 0 0 0 none ⟨0, Enc.sz α, 0, true, 0⟩ (if_pos rfl) (Nat.le_refl _) (Nat.zero_le _) (fun h => absurd rfl h) (.inl rfl)⟩
  · have hFg : ∀ x, F g x = none := fun x => by
      cases hx : F g x with
      | none => rfl
      | some v => have := hok.lt hx; omega
    have hsz : ∀ (i : Nat) (a : α), l[i]? = some a → (enc a).length = Enc.sz α := fun i a _ => Enc.len a
    have at' : ∀ (i : Nat) (a : α) (j : Nat) (u : V), l[i]? = some a → (enc a)[j]? = some u → cur[i * Enc.sz α + j]? = some (vals i j) := fun i a j u hi hj => by
      have h1 : i < l.length := (List.getElem?_eq_some_iff.1 hi).1
      have h2 : j < Enc.sz α := by rw [← Enc.len a]; exact (List.getElem?_eq_some_iff.1 hj).1
      have h3 : i * Enc.sz α + j < l.length * Enc.sz α := by
        calc i * Enc.sz α + j < i * Enc.sz α + Enc.sz α := by omega
          _ = (i + 1) * Enc.sz α := by rw [Nat.succ_mul]
          _ ≤ l.length * Enc.sz α := Nat.mul_le_mul_right _ h1
      have h4 : (cur.toList.take (l.length * Enc.sz α))[i * Enc.sz α + j]? = some (vals i j) := by
        rw [htk, List.getElem?_map, List.getElem?_range h3]
        have : 0 < Enc.sz α := by omega
        simp only [Option.map_some, Option.some.injEq]
        rw [Nat.mul_comm i, Nat.mul_add_div this, Nat.div_eq_of_lt h2, Nat.mul_add_mod, Nat.mod_eq_of_lt h2, Nat.add_zero]
      rw [List.getElem?_take_of_lt h3] at h4
      simpa using h4
    have hob : ObAt F ν0 w' (ob l) ⟨g, Enc.sz α, cur.size, false, e⟩ := by
      refine .inl ⟨rfl, cur, e, (0, 0), hh, ⟨rfl, rfl⟩, fun x _ => by simp, rfl, fun i el he => ?_, ?_, fun i el j u he hj => ?_⟩
      · simp only [ob, List.getElem?_map] at he
        cases hs : l[i]? with
        | none => simp [hs] at he
        | some a => simp [hs] at he; rw [← he]; exact Enc.len a
      · have : (ob l).els.length = l.length := by simp [ob]
        rw [this]
        show l.length * Enc.sz α ≤ cur.size
        rw [hcs]
        exact Nat.mul_le_mul_right _ hnc
      · simp only [ob, List.getElem?_map] at he
        cases hs : l[i]? with
        | none => simp [hs] at he
        | some a =>
          simp [hs] at he
          subst he
          exact ⟨Enc.cell a u (List.mem_of_getElem? hj), vals i j, at' i a j u hs hj, hrel i a j u hs hj⟩
    obtain ⟨ok2, hle⟩ := hok'.new (id := 0) (o := ob l) (k := ⟨g, Enc.sz α, cur.size, false, e⟩) (hn 0 (Nat.le_refl _)) (fun _ => hFg) (fun _ id' o' k' h => by cases h) (fun _ => .inr hg) hob
    exact ⟨_, F, _, rfl, ok2, Fz.le_refl _, fun _ h => absurd h (Nat.not_lt_zero _), .own 0 0 _ cap _ ⟨g, Enc.sz α, cur.size, false, e⟩ (if_pos rfl) hnc hcm (fun _ => ⟨by simp, by rw [hcs]; simp⟩) (.inr ⟨_, rfl, rfl⟩)⟩

theorem nw_cloneS {P : Program} {f e : Nat} (h0 : ∀ (n c : Nat) (w : World), Calls P f #[.slice none n c] w fun e w' => e = .returned (.slice none 0 0) ∧ w' = w)
    (hz : ∀ (a : Addr) (c : Nat) (w : World), Calls P f #[.slice (some a) 0 c] w fun e' w' => ∃ v', e' = .returned v' ∧ w'.ownsRow w.heap.size e 1 v' 0 [] ∧ v' ≠ .slice none 0 0 ∧ Below w.heap.size w w')
    (h1 : ∀ (b off n c : Nat) (zs : List ByteArray) (w : World), n ≤ zs.length → n * 16 ≤ 140737488355328 → (∀ j, j < zs.length → w.cell? ⟨b, off + j, none⟩ = some (.string (zs.getD j ByteArray.empty))) →
      Calls P f #[.slice (some ⟨b, off, none⟩) n c] w fun e' w' => ∃ v', e' = .returned v' ∧ w'.ownsRow w.heap.size e 1 v' n ((zs.take n).map (Value.string)) ∧ v' ≠ .slice none 0 0 ∧ Below w.heap.size w w')
    {l l' : List Str} (h : s_cloneS l = some l') : Nw P f [ar l] (fun id => .own id 0 l'.length) (ob l') := by
  obtain ⟨hb, rfl⟩ := okO_inv h
  have hb : l.length * 16 ≤ 140737488355328 := by simpa using hb
  refine nw_own (e := e) (nfc (NF.ar l) nfn) fun w F args hF _ hl hr => ?_
  match args, hl with
  | [a], _ =>
    have ha := hr 0 a (ar l) rfl rfl
    have e1 : Enc.sz Str = 1 := rfl
    generalize hels : l.map enc = els at ha
    have ha' : Rel F ν0 a (.arr els) := by rw [← hels]; exact hr 0 a (ar l) rfl rfl
    clear ha
    cases ha' with
    | arr A n c sz _ vals hn hc hm hsz hce hA hr2 =>
      have hn' : l.length = n := by rw [← hn, ← hels]; simp
      let vv : Nat → Nat → Value := fun i _ => str (l.getD i [])
      have hrel : ∀ (i : Nat) (a : Str) (j : Nat) (u : V), l[i]? = some a → (enc a)[j]? = some u → Rel F ν0 (vv i j) u := fun i a j u hi hj => by
        cases j with
        | zero =>
          simp [enc] at hj
          subst hj
          show Rel F ν0 (str (l.getD i [])) (tx a)
          rw [List.getD_eq_getElem?_getD, hi]
          exact .val _ rfl
        | succ j => simp [enc] at hj
      have hrow : ((List.range (l.length * Enc.sz Str)).map fun i => vv (i / Enc.sz Str) (i % Enc.sz Str)) = l.map str := by
        refine List.ext_getElem (by simp [e1]) fun i h1 h2 => ?_
        have : i < l.length := by simpa using h2
        simp [e1, vv, this]
      cases A with
      | none =>
        have hl0 : l = [] := by
          by_cases h : n = 0
          · exact List.length_eq_zero_iff.1 (by omega)
          · obtain ⟨b, o, hA, _⟩ := hA h; cases hA
        refine (h0 n c w).mono fun e' w' hx => ?_
        obtain ⟨rfl, rfl⟩ := hx
        exact ⟨_, vv, rfl, by rw [hrow, hl0]; exact ⟨rfl, .inl ⟨rfl, rfl⟩⟩, below_self _, hrel⟩
      | some a =>
        by_cases h : n = 0
        · subst h
          have hl0 : l = [] := List.length_eq_zero_iff.1 hn'
          refine (hz a c w).mono fun e' w' hx => ?_
          obtain ⟨v', rfl, ho, _, hb⟩ := hx
          exact ⟨v', vv, rfl, by rw [hrow, hl0]; exact ho, hb, hrel⟩
        · obtain ⟨b, o, hA, hcell⟩ := hA h
          cases hA
          refine (h1 b o n c (l.map fun s => ⟨s.toArray⟩) w (by simp [hn']) (by omega) (fun j hj => ?_)).mono fun e' w' hx => ?_
          · have hj : j < l.length := by simpa using hj
            have g1 : els[j]? = some [tx l[j]] := by rw [← hels]; simp [hj]; rfl
            have g2 := hcell j _ 0 _ g1 rfl
            have g3 := hr2 j _ 0 _ g1 rfl
            have : sz = 1 := (hsz j _ g1).symm
            subst this
            rw [show o + j = o + j * 1 + 0 by omega, hF _ _ _ g2, rel_val g3]
            simp [hj, str]
          · obtain ⟨v', rfl, ho, _, hb⟩ := hx
            refine ⟨v', vv, rfl, ?_, hb, hrel⟩
            rw [hrow, hn']
            rw [List.take_of_length_le (by simp [hn']), List.map_map] at ho
            exact ho

theorem nw_fields {P : Program} {f e : Nat} (h1 : ∀ (s : ByteArray) (w : World), TabOn w → s.size < 4294967281 → (∀ (j : Nat) b, s.data.toList[j]? = some b → b.toNat < 128) →
      Calls P f #[.string s] w fun e' w' => e' = .returned (.slice (some ⟨w.heap.size, 0, none⟩) (Lib.fields s.data.toList).length (Lib.fields s.data.toList).length) ∧ w' = w.alloc (.cells ((Lib.fields s.data.toList).map fun l => Value.string ⟨l.toArray⟩).toArray e))
    {s : Str} {l : List Str} (h : s_fields s = some l) : Nw P f [tx s] (fun id => .own id 0 l.length) (ob l) := by
  obtain ⟨hb, rfl⟩ := okO_inv h
  simp only [Bool.and_eq_true, decide_eq_true_eq, List.all_eq_true] at hb
  have hm : (Lib.fields s).length ≤ maxLen := hb.2
  have hb := hb.1
  refine nw_own (e := e) (nfc nfv nfn) fun w F args hF ht hl hr => ?_
  have ea := rel_vals (vs := [str s]) hl hr
  subst ea
  have e1 : Enc.sz Str = 1 := rfl
  let l := Lib.fields s
  let vv : Nat → Nat → Value := fun i _ => str (l.getD i [])
  have hrow : ((List.range (l.length * Enc.sz Str)).map fun i => vv (i / Enc.sz Str) (i % Enc.sz Str)) = l.map str := by
    refine List.ext_getElem (by simp [e1]) fun i h1 h2 => ?_
    have : i < l.length := by simpa using h2
    simp [e1, vv, this]
  refine (h1 ⟨s.toArray⟩ w ht (by simpa [ByteArray.size] using hb.1) (fun j b hj => hb.2 b (List.mem_of_getElem? (by simpa using hj)))).mono fun e' w' hx => ?_
  obtain ⟨rfl, rfl⟩ := hx
  refine ⟨_, vv, rfl, ?_, ?_, fun i a j u hi hj => ?_⟩
  · show World.ownsRow _ _ _ _ _ _ ((List.range (l.length * Enc.sz Str)).map fun i => vv (i / Enc.sz Str) (i % Enc.sz Str))
    rw [hrow]
    refine ⟨by simp [e1, l], .inr ⟨w.heap.size, l.length, (l.map str).toArray, rfl, Nat.le_refl _, ?_, Nat.le_refl _, hm, by simp [e1], ?_⟩⟩
    · show (w.heap.push _)[w.heap.size]? = _
      rw [Array.getElem?_push_size]
      rfl
    · show List.take (l.length * Enc.sz Str) (l.map str).toArray.toList = _
      rw [e1, Nat.mul_one]
      exact List.take_of_length_le (by simp)
  · exact ⟨rfl, rfl, rfl, by show _ ≤ (w.heap.push _).size; simp, fun b hb => by show (w.heap.push _)[b]? = _; rw [Array.getElem?_push_lt hb]; simp [hb]⟩
  · cases j with
    | zero =>
      simp [enc] at hj
      subst hj
      show Rel F ν0 (str (l.getD i [])) (tx a)
      rw [List.getD_eq_getElem?_getD, hi]
      exact .val _ rfl
    | succ j => simp [enc] at hj
/-- A list that is handed back, as one that nobody writes. -/
theorem Nw.pu {α : Type} [Enc α] {P : Program} {f : Nat} {us : List V} {l : List α} (h : Nw P f us (fun id => .own id 0 l.length) (ob l)) : Pu P f us (ar l) := by
  obtain ⟨j, run, _⟩ := h.run
  refine ⟨h.hus, NF.ar l, fun w F ν args hok hnx hl hr => (run w F ν args hok hnx hl hr).mono fun e w' hx => ?_⟩
  obtain ⟨v, F', ν', rfl, ok', hF, hold, hrel⟩ := hx
  have hm : app [(j, some (ob l))] M0 j = some (ob l) := by simp [app, setM_at]
  obtain ⟨k, hk, hat, hFk⟩ := ok'.ob j _ hm
  obtain ⟨F2, hic, ok2⟩ := hat.cellF hFk (ok'.drop j) (i := j) hk (fun hv id' o' k' a => by
    simp only [app, setM_at] at a
    split at a
    · cases a
    · cases a) (fun hv => ok'.live _ _ _ hm hk hv)
  refine ⟨v, F2, ν', rfl, ?_, Fz.le_trans hF hic.le, hold, (fzO (i := j) (l := l)) _ _ _ _ hic hrel⟩
  exact ok2.sub fun x o hx => by cases hx
/-- What is handed back, as a value of which nobody writes. -/
theorem Nw.puF {P : Program} {f : Nat} {us : List V} {u : Nat → V} {u' : V} {o : Ob} (h : Nw P f us u o) (hf : ∀ j, Fz2 j o (u j) u') (hu : NF u') : Pu P f us u' := by
  obtain ⟨j, run, _⟩ := h.run
  refine ⟨h.hus, hu, fun w F ν args hok hnx hl hr => (run w F ν args hok hnx hl hr).mono fun e w' hx => ?_⟩
  obtain ⟨v, F', ν', rfl, ok', hF, hold, hrel⟩ := hx
  have hm : app [(j, some o)] M0 j = some o := by simp [app, setM_at]
  obtain ⟨k, hk, hat, hFk⟩ := ok'.ob j _ hm
  obtain ⟨F2, hic, ok2⟩ := hat.cellF hFk (ok'.drop j) (i := j) hk (fun hv id' o' k' a => by
    simp only [app, setM_at] at a
    split at a
    · cases a
    · cases a) (fun hv => ok'.live _ _ _ hm hk hv)
  refine ⟨v, F2, ν', rfl, ?_, Fz.le_trans hF hic.le, hold, hf j _ _ _ _ hic hrel⟩
  exact ok2.sub fun x o hx => by cases hx
end Go.Ka
namespace Go.Ka
open Enc (enc)
open Go.RowKit
variable [Tab]
section
variable {P : Program} {B : Gd} {σ : Nat → V} {M : Hp} {id : Nat} {K : V → Hp → Prop} {dst : Option Nat} {ty : Nat} {pos : String} {after : Array Edge} {guard : Option (Nat × Bool)}
theorem w_buildSliceO {t e sz n : Nat} {parts : Array (Nat × Operand)} {zs : List V} {els els' : List (List V)} (ht : elOf P t = some e) (hs : szOf P e = some sz) (hz : zcells P e = some zs) (hzl : zs.length = sz) (hn : parts.toList.length = n)
    (hv : vparts sz 0 (evs σ parts.toList) = some els) (hbig : n * sz ≤ 16777216) (hn2 : n ≤ 16777216) (hw : Wkss els els') (hce : ∀ el ∈ els', ∀ u ∈ el, u.cell = true) (hK : K (.own id 0 n) (setM M id (some ⟨els', sz⟩))) : OpW P B ⟨dst, .buildSlice t n parts, ty, pos, after, guard⟩ σ M id K := by
  refine opw_on hK fun ac w F ν hok hid hm => ?_
  obtain ⟨hel, hels⟩ := vparts_len _ _ _ hv
  have heln : els.length = n := by rw [hel, ← hn]; simp [evs]
  obtain ⟨i, z, hi, hz1, vs, hvz, rfl, h1⟩ := zcells_info hz
  rw [List.length_map] at hzl
  obtain ⟨hl, hq⟩ := parts_rel hm parts.toList
  -- the cells
  have cells : ∃ ws : List Value, RL F ν ws els.flatten ∧ (Instr.buildSlice t n (parts.map fun p => (p.1, ac.eval p.2))).run P w = .ok (.slice (some ⟨w.heap.size, 0, none⟩) n n) (w.alloc (.cells ws.toArray e)) := by
    by_cases h0 : n * sz = 0
    · obtain ⟨ws, hw, hr⟩ := vfill_run (pl := fun i => some (i * sz, sz)) _ _ [] [] _ hl hq ⟨rfl, fun j x hx => by simp at hx, fun j y x hy => by simp at hy⟩ (by
        have := vparts_fill (evs σ parts.toList) 0 els [] [] hv (by simp) (by rw [← hel, heln]; simpa using h0.symm)
        simpa using this)
      refine ⟨ws, by simpa using hr, ?_⟩
      have hw' : Instr.fill (fun i => some (i * sz, sz)) #[] (List.map (fun p => (p.fst, ac.eval p.snd)) parts.toList) = some ws.toArray := by simpa using hw
      simp only [Instr.buildSlice, Sem.run_bind, run_underlying (elOf_und ht), Result.andThen, szOf_run hs, h0]
      simp [Array.range_zero', hw', newRow]
    · obtain ⟨zw, hzw, hzwl, hzm⟩ := rep_zero (zs := vs) (n := n) hzl h0
      obtain ⟨ws, hw, hr⟩ := vfill_run (pl := fun i => some (i * sz, sz)) _ _ (zw.map .val) zw _ hl hq (RL.vals (F := F) (ν := ν) fun v hv => h1 v (hzm v hv)) (by
        have := vparts_fill (evs σ parts.toList) 0 els [] (zw.map .val) hv (by simp) (by rw [List.length_map, hzwl, ← hel, heln])
        simpa using this)
      refine ⟨ws, by simpa using hr, ?_⟩
      have hw' : Instr.fill (fun i => some (i * sz, sz)) zw.toArray (List.map (fun p => (p.fst, ac.eval p.snd)) parts.toList) = some ws.toArray := by simpa using hw
      have hbig' : ¬ (n * sz > 2 ^ 24) := by omega
      simp only [Instr.buildSlice, Sem.run_bind, run_underlying (elOf_und ht), Result.andThen, szOf_run hs, h0, hbig', if_false, zeroValue, typeInfo]
      simp only [run_program, hi, Sem.run_pure, hz1, hvz, hzw]
      simp [hw', newRow]
  obtain ⟨ws, hr, hrun⟩ := cells
  have ok1 := hok.allocs (.cells ws.toArray e)
  have hel := hr.elements (els := els) (sz := sz) hels (cur := ws.toArray) (rest := []) (by simp)
  have h2 := ok1.made (id := id) (o := ⟨els', sz⟩) hid (heap_new w _) (hok.noF (Nat.le_refl _)) (hok.notOb (Nat.le_refl _)) (.inr hok.size) (fun x _ => by simp) (fun i el hi => by
      obtain ⟨el0, h0, hq⟩ := hw.at i el hi
      rw [← hq.len]
      exact hels el0 (List.mem_of_getElem? h0)) (by show els'.length * sz ≤ _; rw [← hw.len]; exact hel.1) (fun i el j u hi hj => by
      obtain ⟨el0, h0, hq⟩ := hw.at i el hi
      obtain ⟨u0, h1, hq⟩ := hq.at j u hj
      obtain ⟨_, v, hv, hv2⟩ := hel.2 i el0 j u0 h0 h1
      exact ⟨hce el (List.mem_of_getElem? hi) u (List.mem_of_getElem? hj), v, hv, hq _ _ _ hv2⟩)
  refine ⟨.value (.slice (some ⟨w.heap.size, 0, none⟩) n n), _, _, F, _, ?_, .inl rfl, h2.1, Fz.le_refl _, h2.2, setN_other, ?_⟩
  · simp only [execOp]
    simp [hrun]
  · refine .own id 0 n n _ ⟨w.heap.size, sz, ws.toArray.size, false, e⟩ (by simp [setN]) (Nat.le_refl _) (by unfold maxLen; omega) (fun _ => ⟨by simp, ?_⟩) (.inr ⟨_, rfl, rfl⟩)
    have := hel.1
    rw [heln] at this
    simpa using this
end
section
variable {G : Rg} {os : List Oper} {i : Nat} {σ σ' : Nat → V} {M M' : Hp} {u : V} {ds : List Yd}
variable {d : Option Nat} {ty : Nat} {pos : String} {aft : Array Edge} {g : Option (Nat × Bool)} {x y : Operand} {t : Nat}
theorem x_bsO {α : Type} [Enc α] (l : List α) {parts : Array (Nat × Operand)} {n sz b : Nat} {els : List (List V)} (E : El G.P t sz b) (hz : sz = Enc.sz α) (h : vparts sz 0 (evs σ parts.toList) = some els) (hn : (Nat.beq parts.toList.length n && Nat.ble (n * sz) 16777216 && Nat.ble n 16777216) = true) (hl : l.length = n) (hw : Wkss els (l.map enc)) (c : Ck G ⟨d, .buildSlice t n parts, ty, pos, aft, g⟩ i σ [(G.n0 + i, some (ob l))]) (r : Lx G os (i + 1) (upd σ d (.own (G.n0 + i) 0 l.length)) (setM M (G.n0 + i) (some (ob l))) ds σ' M') : Lx G (⟨d, .buildSlice t n parts, ty, pos, aft, g⟩ :: os) i σ M (⟨.own (G.n0 + i) 0 l.length, [(G.n0 + i, some (ob l))]⟩ :: ds) σ' M' := by
  subst hz
  obtain ⟨e, zs, h1, h2, h3, h4, h5, _⟩ := E
  simp only [Bool.and_eq_true, Nat.beq_eq, Nat.ble_eq] at hn
  subst hl
  exact lx_on c (fun _ _ hs => w_buildSliceO h1 h2 h4 h5 hn.1.1 (by
    have : evs (see G.ops ⟨d, .buildSlice t l.length parts, ty, pos, aft, g⟩ σ) parts.toList = evs σ parts.toList := List.map_congr_left fun p hp => by
      rw [ev_see (by simp only [Op.operands, List.mem_map]; exact ⟨p, hp, rfl⟩)]
    rw [this]
    exact h) hn.1.2 hn.2 hw (fun el hel u hu => by
      obtain ⟨a, _, rfl⟩ := List.mem_map.1 hel
      exact Enc.cell a u hu) ⟨rfl, rfl⟩) r
end
end Go.Ka
namespace Go.Ka
open Go.RowKit
variable [Tab]
/-- An array's type: its length, its elements' cells, its zero cells. -/
def Ar (P : Program) (t n sz : Nat) (zs : List V) : Prop := ∃ e, P.underlying t = some (.array n e) ∧ szOf P e = some sz ∧ zcells P t = some zs
section
variable {P : Program} {B : Gd} {σ : Nat → V} {M : Hp} {id : Nat} {K : V → Hp → Prop} {dst : Option Nat} {ty : Nat} {pos : String} {after : Array Edge} {guard : Option (Nat × Bool)}
theorem w_buildArr {t n sz : Nat} {parts : Array (Nat × Operand)} {zs cs : List V} (hA : Ar P t n sz zs) (hc : vfill (fun i => some (i * sz, sz)) (evs σ parts.toList) zs = some cs) (hK : K (.agg cs) M) :
    OpW P B ⟨dst, .build t parts, ty, pos, after, guard⟩ σ M id K := by
  obtain ⟨e, he, hs, hz⟩ := hA
  refine opw_of hK fun ac w F ν hok hm => ?_
  obtain ⟨i, z, hi, hz1, vs, hv, rfl, h1⟩ := zcells_info hz
  obtain ⟨hl, hq⟩ := parts_rel hm parts.toList
  obtain ⟨ws, hw, hr⟩ := vfill_run _ _ _ _ _ hl hq (RL.vals (F := F) (ν := ν) h1) hc
  have hb : P.built t (parts.map fun p => (p.1, ac.eval p.2)).toList = some ws.toArray := by
    unfold szOf at hs
    cases hi2 : P.info? e with
    | none => simp [hi2] at hs
    | some ie =>
      simp [hi2] at hs
      unfold Program.built
      simp only [hi, he, hz1, hi2, hv, Array.toList_map, hs]
      simpa using hw
  exact ⟨.agg ws.toArray, by simp [execOp, run_build w t _ _ hb], hr.agg⟩
theorem w_indexArr {t n sz i j off q : Nat} {zs : List V} {x y : Operand} {k : IntKind} (hA : Ar P t n sz zs) (hx : ev σ x = .ptr i j off) (hy : ev σ y = .val (.int k (q : Nat))) (hq : q < n) (hK : K (.ptr i j (off + q * sz)) M) :
    OpW P B ⟨dst, .indexAddr t x y, ty, pos, after, guard⟩ σ M id K := by
  obtain ⟨e, he, hs, hz⟩ := hA
  refine opw_of hK fun ac w F ν hok hm => ?_
  have h2 := ev_rel hm y
  rw [hy] at h2
  have e2 := rel_val h2
  have h1 := ev_rel hm x
  rw [hx] at h1
  generalize hv : ac.eval x = v at h1
  cases h1 with
  | ptr _ _ _ kk hk =>
    have hin : (q : Int) < (n : Int) := by omega
    refine ⟨.pointer (some ⟨kk.b, j * kk.sz + off + q * sz, none⟩), ?_, ?_⟩
    · simp [execOp, hv, e2, Instr.indexAt, asIntOf, run_underlying he, hin, szOf_run hs, Addr.add_lit, Instr.sureAddr, hq]
    · rw [Nat.add_assoc]
      exact .ptr i j _ kk hk
end
section
variable {G : Rg} {os : List Oper} {i : Nat} {σ σ' : Nat → V} {M M' : Hp} {u : V} {ds : List Yd}
variable {d : Option Nat} {ty : Nat} {pos : String} {aft : Array Edge} {g : Option (Nat × Bool)} {x y : Operand} {t : Nat}
theorem x_bdA {parts : Array (Nat × Operand)} {zs cs : List V} {n sz : Nat} (A : Ar G.P t n sz zs) (h : vfill (fun i => some (i * sz, sz)) (evs σ parts.toList) zs = some cs) (c : Ck G ⟨d, .build t parts, ty, pos, aft, g⟩ i σ []) (r : Lx G os (i + 1) (upd σ d (.agg cs)) M ds σ' M') : Lx G (⟨d, .build t parts, ty, pos, aft, g⟩ :: os) i σ M (⟨.agg cs, []⟩ :: ds) σ' M' :=
  lx_on c (fun _ _ _ => w_buildArr A (by
    have : evs (see G.ops ⟨d, .build t parts, ty, pos, aft, g⟩ σ) parts.toList = evs σ parts.toList := List.map_congr_left fun p hp => by
      rw [ev_see (by simp only [Op.operands, List.mem_map]; exact ⟨p, hp, rfl⟩)]
    rw [this]
    exact h) ⟨rfl, rfl⟩) r
theorem x_ip {n sz q id j off : Nat} {zs : List V} {k : IntKind} (A : Ar G.P t n sz zs) (hx : ev σ x = .ptr id j off) (hy : ev σ y = .val (.int k (q : Nat))) (hq : Nat.blt q n = true) (c : Ck G ⟨d, .indexAddr t x y, ty, pos, aft, g⟩ i σ []) (r : Lx G os (i + 1) (upd σ d (.ptr id j (off + q * sz))) M ds σ' M') : Lx G (⟨d, .indexAddr t x y, ty, pos, aft, g⟩ :: os) i σ M (⟨.ptr id j (off + q * sz), []⟩ :: ds) σ' M' :=
  lx_on c (fun _ _ _ => w_indexArr A ((ev_see (by simp [Op.operands])).trans hx) ((ev_see (by simp [Op.operands])).trans hy) (by simpa using hq) ⟨rfl, rfl⟩) r
end
end Go.Ka
namespace Go.Ka
open Go.RowKit
variable [Tab]
theorem appendS_room {P : Program} {w : World} {t t2 e ty sz n m c : Nat} {A : Option Addr} {s : ByteArray} {news : List Value} (ht : elOf P t = some e) (ht2 : P.underlying t2 = some .string) (hs : szOf P e = some sz) (hm : s.size = m) (hnw : news = Lib.strCells s) (hroom : n + m ≤ c) (b o : Nat) (hA : A = some ⟨b, o, none⟩ ∨ news = []) {w' : World} (hst : (storeCells ⟨b, o + n * sz, none⟩ news).run P w = .ok () w') :
    (Builtin.append_ #[t, t2] ty #[.slice A n c, .string s]).run P w = .ok (.slice A (n + m) c) w' := by
  have hf := Lib.run_firstCells_string (P := P) w sz s
  rw [hm, ← hnw] at hf
  rcases hA with rfl | rfl
  · simp [Builtin.append_, run_underlying (elOf_und ht), run_underlying ht2, szOf_run hs, Builtin.lenOf, hm, hroom, hf, Addr.add_lit, hst]
  · simp [storeCells] at hst
    subst hst
    cases A <;> simp [Builtin.append_, run_underlying (elOf_und ht), run_underlying ht2, szOf_run hs, Builtin.lenOf, hm, hroom, hf, storeCells]

theorem appendS_grows {P : Program} {w : World} {t t2 e ty sz by' n m c : Nat} {A : Option Addr} {s : ByteArray} {news olds : List Value} {zs : List V} (ht : elOf P t = some e) (ht2 : P.underlying t2 = some .string) (hs : szOf P e = some sz) (hb : bytOf P e = some by') (hz : zcells P e = some zs) (hzl : zs.length = sz)
    (hl : news.length = m * sz) (hm : s.size = m) (hnw : news = Lib.strCells s) (hlo : olds.length = n * sz)
    (hold : (∃ b o, A = some ⟨b, o, none⟩ ∧ ∀ (j : Nat) (y : Value), olds[j]? = some y → w.cell? ⟨b, o + j, none⟩ = some y) ∨ n = 0) (hgrow : c < n + m) (hbig : (n + m) * by' ≤ 140737488355328) (hmx : n + m ≤ maxLen) :
    ∃ rest : List Value, (Builtin.append_ #[t, t2] ty #[.slice A n c, .string s]).run P w = .ok (.slice (some ⟨w.heap.size, 0, none⟩) (n + m) (grownCap w (n + m) c e)) (w.drew.alloc (.cells (olds ++ news ++ rest).toArray e)) ∧ (olds ++ news ++ rest).length = grownCap w (n + m) c e * sz := by
  obtain ⟨i, z, hi, hz1, vs, hv, rfl, h1⟩ := zcells_info hz
  have hby : i.bytes = by' := by simpa [bytOf, hi] using hb
  have hsi : i.size = sz := by simpa [szOf, hi] using hs
  have hn : ¬ (n + m ≤ c) := by omega
  have h63 : ¬ (9223372036854775807 < ((n : Int) + (m : Int))) := by unfold maxLen at hmx; omega
  have hfit := growslice_fits (need := n + m) (old := c) (bytes := i.bytes) hgrow (by rw [hby]; exact hbig)
  have h48 : ¬ (281474976710656 < Builtin.nextslicecap (n + m) c * i.bytes) := by omega
  have hf := Lib.run_firstCells_string (P := P) w.drew sz s
  rw [hm, ← hnw] at hf
  have hfo := first_run (P := P) (w := w.drew) (c := c) hlo (by simpa using hold)
  have hge := grownCap_ge w (n + m) c e
  refine ⟨(Builtin.zeroCells z.cells (grownCap w (n + m) c e - (n + m))).toList, ?_, ?_⟩
  · rw [hsi.symm] at hf hfo
    simp [Builtin.append_, run_underlying (elOf_und ht), run_underlying ht2, sizeOf, typeInfo, zeroValue, hi, hz1, Builtin.lenOf, hm, hn, h63, h48, Question.forced, hf, hfo, newRow, grownCap]
    congr 2
    apply Array.ext'
    simp
  · simp only [List.length_append, hlo, hl, Array.length_toList, size_zeroCells, hv, List.size_toArray]
    rw [List.length_map] at hzl
    rw [hzl, ← Nat.add_mul, ← Nat.add_mul]
    congr 1
    omega

section
variable {P : Program} {B : Gd} {σ : Nat → V} {M : Hp} {id : Nat} {K : V → Hp → Prop} {dst : Option Nat} {ty : Nat} {pos : String} {after : Array Edge} {guard : Option (Nat × Bool)}
theorem w_appendS {t t2 e by' : Nat} {x y : Operand} {zs : List V} {els1 : List (List V)} {s : ByteArray} {oi : Option Nat} (ht : elOf P t = some e) (ht2 : P.underlying t2 = some .string) (hs : szOf P e = some 1) (hb : bytOf P e = some by') (hz : zcells P e = some zs) (hzl : zs.length = 1)
    (hx : vbase M 1 (ev σ x) = some (els1, oi)) (hy : ev σ y = .val (.string s)) (hbig : (els1.length + s.size) * by' ≤ 140737488355328) (hmx : els1.length + s.size ≤ maxLen) 
    (hK : K (.own id 0 (els1.length + s.size)) (setM (dropM M oi) id (some ⟨els1 ++ s.data.toList.map byteEl, 1⟩))) :
    OpW P B ⟨dst, .call ⟨.builtin .append, #[x, y], #[t, t2]⟩, ty, pos, after, guard⟩ σ M id K := by
  refine opw_on hK fun ac w F ν hok hid hm => ?_
  have hv2 : ac.eval y = .string s := by have := ev_rel hm y; rw [hy] at this; exact rel_val this
  generalize hels2 : s.data.toList.map byteEl = els2 at *
  have hl2 : ∀ el ∈ els2, el.length = 1 := by rw [← hels2]; intro el hel; obtain ⟨q, _, rfl⟩ := List.mem_map.1 hel; rfl
  obtain ⟨news, hnw⟩ : ∃ news, news = Lib.strCells s := ⟨_, rfl⟩
  have hsl : els2.length = s.size := by rw [← hels2, List.length_map, Array.length_toList]; rfl
  have hnl : news.length = els2.length * 1 := by rw [hnw, Lib.strCells_length, hsl, Nat.mul_one]
  have hnr : RL F ν news els2.flatten := by
    rw [← hels2, hnw]
    have e : (s.data.toList.map byteEl).flatten = (Lib.strCells s).map .val := by
      simp only [Lib.strCells]
      induction s.data.toList with
      | nil => rfl
      | cons b r ih => simp [byteEl, ih]
    rw [e]
    exact RL.vals (F := F) (ν := ν) fun v hv => by
      simp only [Lib.strCells, List.mem_map] at hv
      obtain ⟨q, _, rfl⟩ := hv
      rfl
  rw [← hsl] at hK hbig hmx ⊢
  generalize hsz : (1 : Nat) = sz at *
  have hsz0 : sz ≠ 0 := by omega
  have h1 := ev_rel hm x
  -- the growing way, wherever the elements lie
  have grow : ∀ (A : Option Addr) (c : Nat) (olds : List Value), ac.eval x = .slice A els1.length c → (∀ el ∈ els1, el.length = sz) → olds.length = els1.length * sz → RL F ν olds els1.flatten →
      ((∃ b o, A = some ⟨b, o, none⟩ ∧ ∀ (j : Nat) (y : Value), olds[j]? = some y → w.cell? ⟨b, o + j, none⟩ = some y) ∨ els1.length = 0) → c < els1.length + els2.length →
      ∃ r v w' F' ν', (execOp ac.eval ⟨dst, .call ⟨.builtin .append, #[x, y], #[t, t2]⟩, ty, pos, after, guard⟩).run P w = .ok r w' ∧ (r = .value v ∨ (r = .skip ∧ v = undef)) ∧ Ok B F' ν' (setM (dropM M oi) id (some ⟨els1 ++ els2, sz⟩)) w' ∧ Fz.le F F' ∧ Nu.le ν ν' ∧ (∀ x, x ≠ id → ν' x = ν x) ∧ Rel F' ν' v (.own id 0 (els1.length + els2.length)) := by
    intro A c olds hv hl1 hol hor hold hgrow
    obtain ⟨rest, hrun, hrl⟩ := appendS_grows (P := P) (w := w) (ty := ty) ht ht2 hs hb hz hzl hnl hsl.symm hnw hol hold hgrow hbig hmx
    have hD : Ok B F ν (dropM M oi) w := by
      cases oi with
      | none => exact hok
      | some i => exact hok.drop i
    have ok1 := hD.drewOn.allocs (.cells (olds ++ news ++ rest).toArray e)
    have hnn : RL F ν (olds ++ news) (els1 ++ els2).flatten := by
      rw [List.flatten_append]
      exact hor.append hnr
    have hel := hnn.elements (els := els1 ++ els2) (sz := sz) (by
      intro el hel
      rcases List.mem_append.1 hel with h | h
      · exact hl1 el h
      · exact hl2 el h) (cur := (olds ++ news ++ rest).toArray) (rest := rest) (by simp)
    have h2 := ok1.made (id := id) (o := ⟨els1 ++ els2, sz⟩) hid (heap_new w.drew _) (hD.noF (Nat.le_refl _)) (hD.notOb (Nat.le_refl _)) (.inr hD.size) (fun x _ => by simp) (fun i el hi => by
      have hm := List.mem_of_getElem? hi
      rcases List.mem_append.1 hm with h | h
      · exact hl1 el h
      · exact hl2 el h) hel.1 hel.2
    refine ⟨.value _, .slice (some ⟨w.heap.size, 0, none⟩) (els1.length + els2.length) (grownCap w (els1.length + els2.length) c e), _, F, _, ?_, .inl rfl, h2.1, Fz.le_refl _, h2.2, setN_other, ?_⟩
    · simp only [execOp, resolve, invoke, builtin, hv, hv2, List.map_toArray, List.map_cons, List.map_nil]
      simp [hrun]
    · refine .own id 0 _ _ _ ⟨w.heap.size, sz, (olds ++ news ++ rest).toArray.size, false, e⟩ (by simp [setN]) (grownCap_ge w _ _ _) (grownCap_le_maxLen w _ _ _ hmx) (fun _ => ⟨by simp, ?_⟩) (.inr ⟨_, rfl, rfl⟩)
      show (0 + _) * sz ≤ (olds ++ news ++ rest).toArray.size
      rw [Nat.zero_add, List.size_toArray, hrl]
      exact Nat.le_refl _
  generalize hv : ac.eval x = v at h1
  unfold vbase at hx
  split at hx
  · rename_i he
    rw [he] at h1
    simp only [Option.some.injEq, Prod.mk.injEq] at hx
    obtain ⟨rfl, rfl⟩ := hx
    have e1 := rel_val h1
    subst e1
    by_cases h0 : els2.length = 0
    · have hn0 : news = [] := List.eq_nil_of_length_eq_zero (by rw [hnl, h0, Nat.zero_mul])
      have happ := appendS_room (P := P) (w := w) (ty := ty) (n := 0) (c := 0) (A := none) ht ht2 hs hsl.symm hnw (by omega) 0 0 (.inr hn0) (w' := w) (by rw [hn0]; simp [storeCells])
      have he2 : els2 = [] := List.eq_nil_of_length_eq_zero h0
      obtain ⟨ok2, hle⟩ := hok.new (id := id) (o := ⟨[] ++ els2, sz⟩) (k := ⟨0, sz, 0, true, 0⟩) hid (fun h => by cases h) (fun h => by cases h) (fun h => by cases h) (.inr ⟨rfl, rfl, rfl, by simp [he2]⟩)
      refine ⟨.value (.slice none (0 + els2.length) 0), _, w, F, _, ?_, .inl rfl, ok2, Fz.le_refl _, hle, setN_other, ?_⟩
      · simp only [execOp, resolve, invoke, builtin]
        simp [hv, hv2, happ]
      · refine .own id 0 _ _ _ ⟨0, sz, 0, true, 0⟩ (by simp [setN]) (by simp; omega) (by omega) (fun h => absurd rfl h) (.inl rfl)
    · exact grow none 0 [] hv (by simp) (by simp) ⟨rfl, fun j x hx => by simp at hx, fun j y x hy => by simp at hy⟩ (.inr rfl) (by simp; omega)
  · rename_i i n he
    rw [he] at h1
    cases hM : M i with
    | none => simp [hM] at hx
    | some o =>
      simp only [hM, Option.bind_some] at hx
      split at hx
      · rename_i hc
        obtain ⟨rfl, hnle⟩ := hc
        simp only [Option.some.injEq, Prod.mk.injEq] at hx
        obtain ⟨htk, rfl⟩ := hx
        generalize htk' : els1 = tk at *
        have hlen : n = tk.length := by rw [← htk, List.length_take]; omega
        rw [hlen] at h1
        cases h1 with
        | own _ _ _ c A k hk hcn hcm hA hB =>
          obtain ⟨hat0, hFk⟩ := hok.at hM hk
          replace hat0 := hat0.take n
          rw [htk] at hat0
          have g5 := hat0.lens
          dsimp only at g5
          have hl1 : ∀ el ∈ tk, el.length = o.sz := fun el hel => by
            obtain ⟨q, hq⟩ := List.mem_iff_getElem?.1 hel
            exact g5 _ _ hq
          by_cases hroom : tk.length + els2.length ≤ c
          · rcases hat0 with ⟨hvt, cur, ty', fr, g1, ⟨g2, gty⟩, g3, g4, g5, g6, g7⟩ | ⟨hvt, hcap, hksz, he0⟩
            rotate_left
            · -- no block yet, and nothing is appended
              dsimp only at hksz he0
              have hc0 : c = 0 := by
                by_cases h : c = 0
                · exact h
                · have h2 := (hA h).2
                  rw [hcap, hksz, Nat.zero_add] at h2
                  have : 0 < c * o.sz := Nat.mul_pos (by omega) (by omega)
                  omega
              subst hc0
              have h0 : els2.length = 0 := by omega
              have hn0 : news = [] := List.eq_nil_of_length_eq_zero (by rw [hnl, h0, Nat.zero_mul])
              have happ := appendS_room (P := P) (w := w) (ty := ty) (A := A) ht ht2 hs hsl.symm hnw hroom 0 0 (.inr hn0) (w' := w) (by rw [hn0]; simp [storeCells])
              have he2 : els2 = [] := List.eq_nil_of_length_eq_zero h0
              obtain ⟨ok2, hle⟩ := (hok.drop i).new (id := id) (o := ⟨tk ++ els2, o.sz⟩) (k := ⟨0, o.sz, 0, true, 0⟩) hid (fun h => by cases h) (fun h => by cases h) (fun h => by cases h) (.inr ⟨rfl, rfl, rfl, by simp [he0, he2]⟩)
              refine ⟨.value (.slice A (tk.length + els2.length) 0), _, w, F, _, ?_, .inl rfl, ok2, Fz.le_refl _, hle, setN_other, ?_⟩
              · simp only [execOp, resolve, invoke, builtin]
                simp [hv, hv2, happ]
              · exact .own id 0 _ _ _ ⟨0, o.sz, 0, true, 0⟩ (by simp [setN]) hroom (by omega) (fun h => absurd rfl h) (hB.imp (fun h => h) fun ⟨_, _, h⟩ => by rw [hvt] at h; cases h)
            -- there is room
            dsimp only at g4 g5 g6 g7
            have hFk := hFk hvt
            have hA' : A = some ⟨k.b, 0, none⟩ ∨ news = [] := by
              by_cases h0 : c = 0
              · have : els2.length = 0 := by omega
                rw [this, Nat.zero_mul] at hnl
                exact .inr (List.eq_nil_of_length_eq_zero hnl)
              · obtain ⟨h, _⟩ := hA h0
                exact .inl (by simpa using h)
            have hfit : tk.length * o.sz + news.length ≤ cur.size := by
              rw [g2, hnl, ← Nat.add_mul]
              by_cases h0 : c = 0
              · have : tk.length + els2.length = 0 := by omega
                rw [this]
                simp
              · have := (hA h0).2
                rw [Nat.zero_add, g4] at this
                exact Nat.le_trans (Nat.mul_le_mul_right _ hroom) this
            obtain ⟨w', hrun, hb', hk', hsz', ho, htp, hou⟩ := run_cells_at (P := P) g1 hfit (by rw [g2]; exact g3) hnr.one
            have happ := appendS_room (P := P) (w := w) (ty := ty) ht ht2 hs hsl.symm hnw hroom k.b 0 hA' (w' := w') (by rw [Nat.zero_add]; exact hrun)
            have hlt : (cur.toList.take (tk.length * o.sz)).length = tk.length * o.sz := by
              rw [List.length_take]
              have := Array.length_toList (xs := cur)
              omega
            have hat' : ObAt F ν w' ⟨tk ++ els2, o.sz⟩ k := by
              refine .inl ⟨hvt, _, ty', fr, hb', ⟨?_, gty⟩, g3, g4, fun i el hi => ?_, ?_, fun i el j u hi hj => ?_⟩
              · simp only [List.size_toArray, List.length_append, List.length_drop, Array.length_toList, hlt]
                omega
              · rcases List.mem_append.1 (List.mem_of_getElem? hi) with h | h
                · exact hl1 el h
                · exact hl2 el h
              · dsimp only
                rw [List.length_append, Nat.add_mul, ← hnl, ← g2]
                exact hfit
              · dsimp only at hi ⊢
                rw [List.getElem?_toArray, List.append_assoc]
                by_cases hin : i < tk.length
                · rw [List.getElem?_append_left hin] at hi
                  have hlen := g5 _ _ hi
                  have hjlt := (List.getElem?_eq_some_iff.1 hj).1
                  have hm1 : (i + 1) * o.sz ≤ tk.length * o.sz := Nat.mul_le_mul_right _ hin
                  rw [Nat.add_mul] at hm1
                  rw [List.getElem?_append_left (by omega), List.getElem?_take, if_pos (by omega), Array.getElem?_toList]
                  exact g7 _ _ _ _ hi hj
                · rw [List.getElem?_append_right (by omega)] at hi
                  have hu := flat_at els2 o.sz (fun i el h => hl2 el (List.mem_of_getElem? h)) _ j el u hi hj
                  obtain ⟨y, hy⟩ := get_of_length hnr.1 hu
                  have hylt := (List.getElem?_eq_some_iff.1 hy).1
                  have hi2 : i * o.sz + j - tk.length * o.sz = (i - tk.length) * o.sz + j := by
                    rw [Nat.sub_mul]
                    have : tk.length * o.sz ≤ i * o.sz := Nat.mul_le_mul_right _ (by omega)
                    omega
                  have hge : tk.length * o.sz ≤ i * o.sz := Nat.mul_le_mul_right _ (by omega)
                  rw [List.getElem?_append_right (by omega), hlt, hi2, List.getElem?_append_left hylt]
                  exact ⟨hnr.2.1 _ _ hu, y, hy, hnr.2.2 _ _ _ hy hu⟩
            have ok1 := (hok.world ho htp hou (by omega) hM hk hvt (fun b _ hne => hk' b hne) hat').drop i
            have eM : setM (setM M i (some ⟨tk ++ els2, o.sz⟩)) i none = setM M i none := by
              funext x
              simp only [setM_at]
              split <;> rfl
            rw [eM] at ok1
            have hob : ∀ id' o' k', setM M i none id' = some o' → ν id' = some k' → k'.vt = false → k'.b ≠ k.b := fun id' o' k' a b v1 => by
              by_cases e : id' = i
              · subst e
                rw [setM_same] at a
                cases a
              · rw [setM_ne e] at a
                exact hok.inj _ _ _ _ _ _ a hM e b hk v1 hvt
            obtain ⟨ok2, hle⟩ := ok1.new hid (fun _ => hFk) (fun _ => hob) (fun _ => hok.live _ _ _ hM hk hvt) hat'
            refine ⟨.value (.slice A (tk.length + els2.length) c), _, w', F, _, ?_, .inl rfl, ok2, Fz.le_refl _, hle, setN_other, ?_⟩
            · simp only [execOp, resolve, invoke, builtin]
              simp [hv, hv2, happ]
            · refine .own id 0 _ _ _ k (by simp [setN]) hroom hcm hA hB
          · obtain ⟨_, A1, c1, olds, hv1, _, _, hol, hor, hosrc⟩ := vels_src (els := tk) (sz := o.sz) hok (Rel.own (F := F) i 0 tk.length c A k hk hcn hcm hA hB) (by simp [vels, hM, ← htk, List.length_take, hnle])
            cases hv1
            exact grow A c olds hv hl1 hol hor (hosrc.imp (fun h => h) els_of_nil) (by omega)
      · cases hx
  · cases hx
end
end Go.Ka
namespace Go.Ka
open Go.RowKit
variable [Tab]
section
variable {P : Program} {B : Gd} {σ : Nat → V} {M : Hp} {id : Nat} {K : V → Hp → Prop} {dst : Option Nat} {ty : Nat} {pos : String} {after : Array Edge} {guard : Option (Nat × Bool)}
theorem w_appendT {t t2 e e2 sz by' : Nat} {x y : Operand} {zs : List V} {els2 : List (List V)} {o : Ob} {i T : Nat} (ht : elOf P t = some e) (ht2 : elOf P t2 = some e2) (hs : szOf P e = some sz) (hb : bytOf P e = some by') (hz : zcells P e = some zs) (hzl : zs.length = sz)
    (hx : ev σ x = .owt i o.els.length T) (hM : M i = some o) (hosz : o.sz = sz) (hTe : T = e) (hy : vels M sz (ev σ y) = some els2) (hbig : (o.els.length + els2.length) * by' ≤ 140737488355328) (hmx : o.els.length + els2.length ≤ maxLen) (hsz0 : sz ≠ 0)
    (hK : K (.owt id (o.els.length + els2.length) e) (setM (dropM M (some i)) id (some ⟨o.els ++ els2, sz⟩))) :
    OpW P B ⟨dst, .call ⟨.builtin .append, #[x, y], #[t, t2]⟩, ty, pos, after, guard⟩ σ M id K := by
  refine opw_on hK fun ac w F ν hok hid hm => ?_
  obtain ⟨hl2, A2, c2, news, hv2, hc2, _, hnl, hnr, hsrc⟩ := vels_src hok (ev_rel hm y) hy
  have hsrc' : (∃ b o, A2 = some ⟨b, o, none⟩ ∧ ∀ (j : Nat) (y : Value), news[j]? = some y → w.cell? ⟨b, o + j, none⟩ = some y) ∨ els2.length = 0 := hsrc.imp (fun h => h) els_of_nil
  have h1 := ev_rel hm x
  -- the growing way, wherever the elements lie
  have grow : ∀ (A : Option Addr) (c : Nat) (olds : List Value), ac.eval x = .slice A o.els.length c → (∀ el ∈ o.els, el.length = sz) → olds.length = o.els.length * sz → RL F ν olds o.els.flatten →
      ((∃ b o, A = some ⟨b, o, none⟩ ∧ ∀ (j : Nat) (y : Value), olds[j]? = some y → w.cell? ⟨b, o + j, none⟩ = some y) ∨ o.els.length = 0) → c < o.els.length + els2.length →
      ∃ r v w' F' ν', (execOp ac.eval ⟨dst, .call ⟨.builtin .append, #[x, y], #[t, t2]⟩, ty, pos, after, guard⟩).run P w = .ok r w' ∧ (r = .value v ∨ (r = .skip ∧ v = undef)) ∧ Ok B F' ν' (setM (dropM M (some i)) id (some ⟨o.els ++ els2, sz⟩)) w' ∧ Fz.le F F' ∧ Nu.le ν ν' ∧ (∀ x, x ≠ id → ν' x = ν x) ∧ Rel F' ν' v (.owt id (o.els.length + els2.length) e) := by
    intro A c olds hv hl1 hol hor hold hgrow
    obtain ⟨rest, hrun, hrl⟩ := append_grows (P := P) (w := w) (ty := ty) (c2 := c2) ht ht2 hs hb hz hzl hnl hsrc' hol hold hgrow hbig hmx
    have hD : Ok B F ν (dropM M (some i)) w := hok.drop i
    have ok1 := hD.drewOn.allocs (.cells (olds ++ news ++ rest).toArray e)
    have hnn : RL F ν (olds ++ news) (o.els ++ els2).flatten := by
      rw [List.flatten_append]
      exact hor.append hnr
    have hel := hnn.elements (els := o.els ++ els2) (sz := sz) (by
      intro el hel
      rcases List.mem_append.1 hel with h | h
      · exact hl1 el h
      · exact hl2 el h) (cur := (olds ++ news ++ rest).toArray) (rest := rest) (by simp)
    have h2 := ok1.made (id := id) (o := ⟨o.els ++ els2, sz⟩) hid (heap_new w.drew _) (hD.noF (Nat.le_refl _)) (hD.notOb (Nat.le_refl _)) (.inr hD.size) (fun x _ => by simp) (fun i el hi => by
      have hm := List.mem_of_getElem? hi
      rcases List.mem_append.1 hm with h | h
      · exact hl1 el h
      · exact hl2 el h) hel.1 hel.2
    refine ⟨.value _, .slice (some ⟨w.heap.size, 0, none⟩) (o.els.length + els2.length) (grownCap w (o.els.length + els2.length) c e), _, F, _, ?_, .inl rfl, h2.1, Fz.le_refl _, h2.2, setN_other, ?_⟩
    · simp only [execOp, resolve, invoke, builtin, hv, hv2, List.map_toArray, List.map_cons, List.map_nil]
      simp [hrun]
    · refine .owt id _ _ _ _ ⟨w.heap.size, sz, (olds ++ news ++ rest).toArray.size, false, e⟩ (by simp [setN]) (grownCap_ge w _ _ _) (grownCap_le_maxLen w _ _ _ hmx) (fun _ => ⟨by simp, ?_⟩) (.inr ⟨_, rfl, rfl⟩) (fun _ => rfl)
      show (0 + _) * sz ≤ (olds ++ news ++ rest).toArray.size
      rw [Nat.zero_add, List.size_toArray, hrl]
      exact Nat.le_refl _
  generalize hv : ac.eval x = v at h1
  rw [hx] at h1
  subst hosz
  cases h1 with
  | owt _ _ c _ A k hk hcn hcm hA hB hTy =>
    obtain ⟨hat0, hFk⟩ := hok.at hM hk
    have g5 := hat0.lens
    have hl1 : ∀ el ∈ o.els, el.length = o.sz := fun el hel => by
      obtain ⟨q, hq⟩ := List.mem_iff_getElem?.1 hel
      exact g5 _ _ hq
    by_cases hroom : o.els.length + els2.length ≤ c
    · rcases hat0 with ⟨hvt, cur, ty', fr, g1, ⟨g2, gty⟩, g3, g4, g5, g6, g7⟩ | ⟨hvt, hcap, hksz, he0⟩
      rotate_left
      · -- no block yet, and nothing is appended
        have hc0 : c = 0 := by
          by_cases h : c = 0
          · exact h
          · have h2 := (hA h).2
            rw [hcap, hksz, Nat.zero_add] at h2
            have : 0 < c * o.sz := Nat.mul_pos (by omega) (by omega)
            omega
        subst hc0
        have h0 : els2.length = 0 := by omega
        have hn0 : news = [] := List.eq_nil_of_length_eq_zero (by rw [hnl, h0, Nat.zero_mul])
        have happ := append_room (P := P) (ty := ty) (c2 := c2) (A := A) ht ht2 hs hnl hsrc' hroom 0 0 (.inr hn0) (w' := w) (by subst hn0; simp [storeCells])
        have he2 : els2 = [] := List.eq_nil_of_length_eq_zero h0
        obtain ⟨ok2, hle⟩ := (hok.drop i).new (id := id) (o := ⟨o.els ++ els2, o.sz⟩) (k := ⟨0, o.sz, 0, true, 0⟩) hid (fun h => by cases h) (fun h => by cases h) (fun h => by cases h) (.inr ⟨rfl, rfl, rfl, by simp [he0, he2]⟩)
        refine ⟨.value (.slice A (o.els.length + els2.length) 0), _, w, F, _, ?_, .inl rfl, ok2, Fz.le_refl _, hle, setN_other, ?_⟩
        · simp only [execOp, resolve, invoke, builtin]
          simp [hv, hv2, happ]
        · exact .owt id _ _ _ _ ⟨0, o.sz, 0, true, 0⟩ (by simp [setN]) hroom (by omega) (fun h => absurd rfl h) (hB.imp (fun h => h) fun ⟨_, _, h⟩ => by rw [hvt] at h; cases h) (fun h => by cases h)
      -- there is room
      have hFk := hFk hvt
      have hA' : A = some ⟨k.b, 0, none⟩ ∨ news = [] := by
        by_cases h0 : c = 0
        · have : els2.length = 0 := by omega
          rw [this, Nat.zero_mul] at hnl
          exact .inr (List.eq_nil_of_length_eq_zero hnl)
        · obtain ⟨h, _⟩ := hA h0
          exact .inl (by simpa using h)
      have hfit : o.els.length * o.sz + news.length ≤ cur.size := by
        rw [g2, hnl, ← Nat.add_mul]
        by_cases h0 : c = 0
        · have : o.els.length + els2.length = 0 := by omega
          rw [this]
          simp
        · have := (hA h0).2
          rw [Nat.zero_add, g4] at this
          exact Nat.le_trans (Nat.mul_le_mul_right _ hroom) this
      obtain ⟨w', hrun, hb', hk', hsz', ho, htp, hou⟩ := run_cells_at (P := P) g1 hfit (by rw [g2]; exact g3) hnr.one
      have happ := append_room (P := P) (ty := ty) (c2 := c2) ht ht2 hs hnl hsrc' hroom k.b 0 hA' (w' := w') (by rw [Nat.zero_add]; exact hrun)
      have hlt : (cur.toList.take (o.els.length * o.sz)).length = o.els.length * o.sz := by rw [List.length_take, Array.length_toList]; omega
      have hat' : ObAt F ν w' ⟨o.els ++ els2, o.sz⟩ k := by
        refine .inl ⟨hvt, _, ty', fr, hb', ⟨?_, gty⟩, g3, g4, fun i el hi => ?_, ?_, fun i el j u hi hj => ?_⟩
        · simp only [List.size_toArray, List.length_append, List.length_drop, Array.length_toList, hlt]
          omega
        · rcases List.mem_append.1 (List.mem_of_getElem? hi) with h | h
          · exact hl1 el h
          · exact hl2 el h
        · dsimp only
          rw [List.length_append, Nat.add_mul, ← hnl, ← g2]
          exact hfit
        · dsimp only at hi ⊢
          rw [List.getElem?_toArray, List.append_assoc]
          by_cases hin : i < o.els.length
          · rw [List.getElem?_append_left hin] at hi
            have hlen := g5 _ _ hi
            have hjlt := (List.getElem?_eq_some_iff.1 hj).1
            have hm1 : (i + 1) * o.sz ≤ o.els.length * o.sz := Nat.mul_le_mul_right _ hin
            rw [Nat.add_mul] at hm1
            rw [List.getElem?_append_left (by omega), List.getElem?_take, if_pos (by omega), Array.getElem?_toList]
            exact g7 _ _ _ _ hi hj
          · rw [List.getElem?_append_right (by omega)] at hi
            have hu := flat_at els2 o.sz (fun i el h => hl2 el (List.mem_of_getElem? h)) _ j el u hi hj
            obtain ⟨y, hy⟩ := get_of_length hnr.1 hu
            have hylt := (List.getElem?_eq_some_iff.1 hy).1
            have hi2 : i * o.sz + j - o.els.length * o.sz = (i - o.els.length) * o.sz + j := by
              rw [Nat.sub_mul]
              have : o.els.length * o.sz ≤ i * o.sz := Nat.mul_le_mul_right _ (by omega)
              omega
            have hge : o.els.length * o.sz ≤ i * o.sz := Nat.mul_le_mul_right _ (by omega)
            rw [List.getElem?_append_right (by omega), hlt, hi2, List.getElem?_append_left hylt]
            exact ⟨hnr.2.1 _ _ hu, y, hy, hnr.2.2 _ _ _ hy hu⟩
      have ok1 := (hok.world ho htp hou (by omega) hM hk hvt (fun b _ hne => hk' b hne) hat').drop i
      have eM : setM (setM M i (some ⟨o.els ++ els2, o.sz⟩)) i none = setM M i none := by
        funext x
        simp only [setM_at]
        split <;> rfl
      rw [eM] at ok1
      have hob : ∀ id' o' k', setM M i none id' = some o' → ν id' = some k' → k'.vt = false → k'.b ≠ k.b := fun id' o' k' a b v1 => by
        by_cases e : id' = i
        · subst e
          rw [setM_same] at a
          cases a
        · rw [setM_ne e] at a
          exact hok.inj _ _ _ _ _ _ a hM e b hk v1 hvt
      obtain ⟨ok2, hle⟩ := ok1.new hid (fun _ => hFk) (fun _ => hob) (fun _ => hok.live _ _ _ hM hk hvt) hat'
      refine ⟨.value (.slice A (o.els.length + els2.length) c), _, w', F, _, ?_, .inl rfl, ok2, Fz.le_refl _, hle, setN_other, ?_⟩
      · simp only [execOp, resolve, invoke, builtin]
        simp [hv, hv2, happ]
      · exact .owt id _ _ _ _ k (by simp [setN]) hroom hcm hA hB (fun h => (hTy h).trans hTe)
    · obtain ⟨_, A1, c1, olds, hv1, _, _, hol, hor, hosrc⟩ := vels_src (els := o.els) (sz := o.sz) hok (Rel.own (F := F) i 0 o.els.length c A k hk hcn hcm hA hB) (by simp [vels, hM])
      cases hv1
      exact grow A c olds hv hl1 hol hor (hosrc.imp (fun h => h) els_of_nil) (by omega)
theorem w_appendTS {t t2 e by' : Nat} {x y : Operand} {zs : List V} {s : ByteArray} {o : Ob} {i T : Nat} (ht : elOf P t = some e) (ht2 : P.underlying t2 = some .string) (hs : szOf P e = some 1) (hb : bytOf P e = some by') (hz : zcells P e = some zs) (hzl : zs.length = 1)
    (hx : ev σ x = .owt i o.els.length T) (hM : M i = some o) (hosz : o.sz = 1) (hTe : T = e) (hy : ev σ y = .val (.string s)) (hbig : (o.els.length + s.size) * by' ≤ 140737488355328) (hmx : o.els.length + s.size ≤ maxLen) 
    (hK : K (.owt id (o.els.length + s.size) e) (setM (dropM M (some i)) id (some ⟨o.els ++ s.data.toList.map byteEl, 1⟩))) :
    OpW P B ⟨dst, .call ⟨.builtin .append, #[x, y], #[t, t2]⟩, ty, pos, after, guard⟩ σ M id K := by
  refine opw_on hK fun ac w F ν hok hid hm => ?_
  have hv2 : ac.eval y = .string s := by have := ev_rel hm y; rw [hy] at this; exact rel_val this
  generalize hels2 : s.data.toList.map byteEl = els2 at *
  have hl2 : ∀ el ∈ els2, el.length = 1 := by rw [← hels2]; intro el hel; obtain ⟨q, _, rfl⟩ := List.mem_map.1 hel; rfl
  obtain ⟨news, hnw⟩ : ∃ news, news = Lib.strCells s := ⟨_, rfl⟩
  have hsl : els2.length = s.size := by rw [← hels2, List.length_map, Array.length_toList]; rfl
  have hnl : news.length = els2.length * 1 := by rw [hnw, Lib.strCells_length, hsl, Nat.mul_one]
  have hnr : RL F ν news els2.flatten := by
    rw [← hels2, hnw]
    have e : (s.data.toList.map byteEl).flatten = (Lib.strCells s).map .val := by
      simp only [Lib.strCells]
      induction s.data.toList with
      | nil => rfl
      | cons b r ih => simp [byteEl, ih]
    rw [e]
    exact RL.vals (F := F) (ν := ν) fun v hv => by
      simp only [Lib.strCells, List.mem_map] at hv
      obtain ⟨q, _, rfl⟩ := hv
      rfl
  rw [← hsl] at hK hbig hmx ⊢
  generalize hsz : (1 : Nat) = sz at *
  have hsz0 : sz ≠ 0 := by omega
  have h1 := ev_rel hm x
  -- the growing way, wherever the elements lie
  have grow : ∀ (A : Option Addr) (c : Nat) (olds : List Value), ac.eval x = .slice A o.els.length c → (∀ el ∈ o.els, el.length = sz) → olds.length = o.els.length * sz → RL F ν olds o.els.flatten →
      ((∃ b o, A = some ⟨b, o, none⟩ ∧ ∀ (j : Nat) (y : Value), olds[j]? = some y → w.cell? ⟨b, o + j, none⟩ = some y) ∨ o.els.length = 0) → c < o.els.length + els2.length →
      ∃ r v w' F' ν', (execOp ac.eval ⟨dst, .call ⟨.builtin .append, #[x, y], #[t, t2]⟩, ty, pos, after, guard⟩).run P w = .ok r w' ∧ (r = .value v ∨ (r = .skip ∧ v = undef)) ∧ Ok B F' ν' (setM (dropM M (some i)) id (some ⟨o.els ++ els2, sz⟩)) w' ∧ Fz.le F F' ∧ Nu.le ν ν' ∧ (∀ x, x ≠ id → ν' x = ν x) ∧ Rel F' ν' v (.owt id (o.els.length + els2.length) e) := by
    intro A c olds hv hl1 hol hor hold hgrow
    obtain ⟨rest, hrun, hrl⟩ := appendS_grows (P := P) (w := w) (ty := ty) ht ht2 hs hb hz hzl hnl hsl.symm hnw hol hold hgrow hbig hmx
    have hD : Ok B F ν (dropM M (some i)) w := hok.drop i
    have ok1 := hD.drewOn.allocs (.cells (olds ++ news ++ rest).toArray e)
    have hnn : RL F ν (olds ++ news) (o.els ++ els2).flatten := by
      rw [List.flatten_append]
      exact hor.append hnr
    have hel := hnn.elements (els := o.els ++ els2) (sz := sz) (by
      intro el hel
      rcases List.mem_append.1 hel with h | h
      · exact hl1 el h
      · exact hl2 el h) (cur := (olds ++ news ++ rest).toArray) (rest := rest) (by simp)
    have h2 := ok1.made (id := id) (o := ⟨o.els ++ els2, sz⟩) hid (heap_new w.drew _) (hD.noF (Nat.le_refl _)) (hD.notOb (Nat.le_refl _)) (.inr hD.size) (fun x _ => by simp) (fun i el hi => by
      have hm := List.mem_of_getElem? hi
      rcases List.mem_append.1 hm with h | h
      · exact hl1 el h
      · exact hl2 el h) hel.1 hel.2
    refine ⟨.value _, .slice (some ⟨w.heap.size, 0, none⟩) (o.els.length + els2.length) (grownCap w (o.els.length + els2.length) c e), _, F, _, ?_, .inl rfl, h2.1, Fz.le_refl _, h2.2, setN_other, ?_⟩
    · simp only [execOp, resolve, invoke, builtin, hv, hv2, List.map_toArray, List.map_cons, List.map_nil]
      simp [hrun]
    · refine .owt id _ _ _ _ ⟨w.heap.size, sz, (olds ++ news ++ rest).toArray.size, false, e⟩ (by simp [setN]) (grownCap_ge w _ _ _) (grownCap_le_maxLen w _ _ _ hmx) (fun _ => ⟨by simp, ?_⟩) (.inr ⟨_, rfl, rfl⟩) (fun _ => rfl)
      show (0 + _) * sz ≤ (olds ++ news ++ rest).toArray.size
      rw [Nat.zero_add, List.size_toArray, hrl]
      exact Nat.le_refl _
  generalize hv : ac.eval x = v at h1
  rw [hx] at h1
  subst hosz
  cases h1 with
  | owt _ _ c _ A k hk hcn hcm hA hB hTy =>
    obtain ⟨hat0, hFk⟩ := hok.at hM hk
    have g5 := hat0.lens
    have hl1 : ∀ el ∈ o.els, el.length = o.sz := fun el hel => by
      obtain ⟨q, hq⟩ := List.mem_iff_getElem?.1 hel
      exact g5 _ _ hq
    by_cases hroom : o.els.length + els2.length ≤ c
    · rcases hat0 with ⟨hvt, cur, ty', fr, g1, ⟨g2, gty⟩, g3, g4, g5, g6, g7⟩ | ⟨hvt, hcap, hksz, he0⟩
      rotate_left
      · -- no block yet, and nothing is appended
        have hc0 : c = 0 := by
          by_cases h : c = 0
          · exact h
          · have h2 := (hA h).2
            rw [hcap, hksz, Nat.zero_add] at h2
            have : 0 < c * o.sz := Nat.mul_pos (by omega) (by omega)
            omega
        subst hc0
        have h0 : els2.length = 0 := by omega
        have hn0 : news = [] := List.eq_nil_of_length_eq_zero (by rw [hnl, h0, Nat.zero_mul])
        have happ := appendS_room (P := P) (w := w) (ty := ty) (A := A) ht ht2 hs hsl.symm hnw hroom 0 0 (.inr hn0) (w' := w) (by rw [hn0]; simp [storeCells])
        have he2 : els2 = [] := List.eq_nil_of_length_eq_zero h0
        obtain ⟨ok2, hle⟩ := (hok.drop i).new (id := id) (o := ⟨o.els ++ els2, o.sz⟩) (k := ⟨0, o.sz, 0, true, 0⟩) hid (fun h => by cases h) (fun h => by cases h) (fun h => by cases h) (.inr ⟨rfl, rfl, rfl, by simp [he0, he2]⟩)
        refine ⟨.value (.slice A (o.els.length + els2.length) 0), _, w, F, _, ?_, .inl rfl, ok2, Fz.le_refl _, hle, setN_other, ?_⟩
        · simp only [execOp, resolve, invoke, builtin]
          simp [hv, hv2, happ]
        · exact .owt id _ _ _ _ ⟨0, o.sz, 0, true, 0⟩ (by simp [setN]) hroom (by omega) (fun h => absurd rfl h) (hB.imp (fun h => h) fun ⟨_, _, h⟩ => by rw [hvt] at h; cases h) (fun h => by cases h)
      -- there is room
      have hFk := hFk hvt
      have hA' : A = some ⟨k.b, 0, none⟩ ∨ news = [] := by
        by_cases h0 : c = 0
        · have : els2.length = 0 := by omega
          rw [this, Nat.zero_mul] at hnl
          exact .inr (List.eq_nil_of_length_eq_zero hnl)
        · obtain ⟨h, _⟩ := hA h0
          exact .inl (by simpa using h)
      have hfit : o.els.length * o.sz + news.length ≤ cur.size := by
        rw [g2, hnl, ← Nat.add_mul]
        by_cases h0 : c = 0
        · have : o.els.length + els2.length = 0 := by omega
          rw [this]
          simp
        · have := (hA h0).2
          rw [Nat.zero_add, g4] at this
          exact Nat.le_trans (Nat.mul_le_mul_right _ hroom) this
      obtain ⟨w', hrun, hb', hk', hsz', ho, htp, hou⟩ := run_cells_at (P := P) g1 hfit (by rw [g2]; exact g3) hnr.one
      have happ := appendS_room (P := P) (w := w) (ty := ty) ht ht2 hs hsl.symm hnw hroom k.b 0 hA' (w' := w') (by rw [Nat.zero_add]; exact hrun)
      have hlt : (cur.toList.take (o.els.length * o.sz)).length = o.els.length * o.sz := by rw [List.length_take, Array.length_toList]; omega
      have hat' : ObAt F ν w' ⟨o.els ++ els2, o.sz⟩ k := by
        refine .inl ⟨hvt, _, ty', fr, hb', ⟨?_, gty⟩, g3, g4, fun i el hi => ?_, ?_, fun i el j u hi hj => ?_⟩
        · simp only [List.size_toArray, List.length_append, List.length_drop, Array.length_toList, hlt]
          omega
        · rcases List.mem_append.1 (List.mem_of_getElem? hi) with h | h
          · exact hl1 el h
          · exact hl2 el h
        · dsimp only
          rw [List.length_append, Nat.add_mul, ← hnl, ← g2]
          exact hfit
        · dsimp only at hi ⊢
          rw [List.getElem?_toArray, List.append_assoc]
          by_cases hin : i < o.els.length
          · rw [List.getElem?_append_left hin] at hi
            have hlen := g5 _ _ hi
            have hjlt := (List.getElem?_eq_some_iff.1 hj).1
            have hm1 : (i + 1) * o.sz ≤ o.els.length * o.sz := Nat.mul_le_mul_right _ hin
            rw [Nat.add_mul] at hm1
            rw [List.getElem?_append_left (by omega), List.getElem?_take, if_pos (by omega), Array.getElem?_toList]
            exact g7 _ _ _ _ hi hj
          · rw [List.getElem?_append_right (by omega)] at hi
            have hu := flat_at els2 o.sz (fun i el h => hl2 el (List.mem_of_getElem? h)) _ j el u hi hj
            obtain ⟨y, hy⟩ := get_of_length hnr.1 hu
            have hylt := (List.getElem?_eq_some_iff.1 hy).1
            have hi2 : i * o.sz + j - o.els.length * o.sz = (i - o.els.length) * o.sz + j := by
              rw [Nat.sub_mul]
              have : o.els.length * o.sz ≤ i * o.sz := Nat.mul_le_mul_right _ (by omega)
              omega
            have hge : o.els.length * o.sz ≤ i * o.sz := Nat.mul_le_mul_right _ (by omega)
            rw [List.getElem?_append_right (by omega), hlt, hi2, List.getElem?_append_left hylt]
            exact ⟨hnr.2.1 _ _ hu, y, hy, hnr.2.2 _ _ _ hy hu⟩
      have ok1 := (hok.world ho htp hou (by omega) hM hk hvt (fun b _ hne => hk' b hne) hat').drop i
      have eM : setM (setM M i (some ⟨o.els ++ els2, o.sz⟩)) i none = setM M i none := by
        funext x
        simp only [setM_at]
        split <;> rfl
      rw [eM] at ok1
      have hob : ∀ id' o' k', setM M i none id' = some o' → ν id' = some k' → k'.vt = false → k'.b ≠ k.b := fun id' o' k' a b v1 => by
        by_cases e : id' = i
        · subst e
          rw [setM_same] at a
          cases a
        · rw [setM_ne e] at a
          exact hok.inj _ _ _ _ _ _ a hM e b hk v1 hvt
      obtain ⟨ok2, hle⟩ := ok1.new hid (fun _ => hFk) (fun _ => hob) (fun _ => hok.live _ _ _ hM hk hvt) hat'
      refine ⟨.value (.slice A (o.els.length + els2.length) c), _, w', F, _, ?_, .inl rfl, ok2, Fz.le_refl _, hle, setN_other, ?_⟩
      · simp only [execOp, resolve, invoke, builtin]
        simp [hv, hv2, happ]
      · exact .owt id _ _ _ _ k (by simp [setN]) hroom hcm hA hB (fun h => (hTy h).trans hTe)
    · obtain ⟨_, A1, c1, olds, hv1, _, _, hol, hor, hosrc⟩ := vels_src (els := o.els) (sz := o.sz) hok (Rel.own (F := F) i 0 o.els.length c A k hk hcn hcm hA hB) (by simp [vels, hM])
      cases hv1
      exact grow A c olds hv hl1 hol hor (hosrc.imp (fun h => h) els_of_nil) (by omega)
end
end Go.Ka
namespace Go.Ka
open Go.RowKit
open Enc (enc)
variable [Tab]

/-! ### What has no room behind it, told weaker -/
theorem Wk.tst (l : List Str) : Wk (.tst l) (ar l) := fun F ν v h => by
  cases h with
  | tst A n _ hn hm hA =>
    have at_ : ∀ (i : Nat) (el : List V) (j : Nat) (u : V), (l.map enc)[i]? = some el → el[j]? = some u → j = 0 ∧ ∃ s, l[i]? = some s ∧ u = tx s := fun i el j u hi hj => by
      obtain ⟨s, hs, rfl⟩ := map_inv hi
      have hj : ([tx s] : List V)[j]? = some u := hj
      cases j with
      | zero => simp at hj; exact ⟨rfl, s, hs, hj.symm⟩
      | succ j => simp at hj
    refine .arr A n n 1 (l.map enc) (fun i _ => str (l.getD i [])) (by simpa using hn) (Nat.le_refl _) hm (fun i el hi => ?_) (fun i el j u hi hj => ?_) (fun h0 => ?_) (fun i el j u hi hj => ?_)
    · obtain ⟨s, _, rfl⟩ := map_inv hi; rfl
    · obtain ⟨_, s, _, rfl⟩ := at_ i el j u hi hj; rfl
    · obtain ⟨b, o, rfl, h⟩ := hA h0
      refine ⟨b, o, rfl, fun i el j u hi hj => ?_⟩
      obtain ⟨rfl, s, hs, _⟩ := at_ i el j u hi hj
      have e : l.getD i [] = s := by simp [List.getD, hs]
      have := h i s hs
      show F b (o + i * 1 + 0) = some (str (l.getD i []))
      rw [e, Nat.mul_one]
      exact this
    · obtain ⟨rfl, s, hs, rfl⟩ := at_ i el j u hi hj
      have e : l.getD i [] = s := by simp [List.getD, hs]
      rw [e]
      exact .val _ rfl
theorem ObAt.weak {F : Fz} {ν : Nu} {w : World} {o o' : Ob} {k : Blk} (h : ObAt F ν w o k) (hw : Wkss o.els o'.els) (hs : o'.sz = o.sz) (hc : ∀ el ∈ o'.els, ∀ u ∈ el, u.cell = true) : ObAt F ν w o' k := by
  rcases h with ⟨h1, cur, ty, fr, g1, g2, g3, g4, g5, g6, g7⟩ | ⟨h1, h2, h3, h4⟩
  · refine .inl ⟨h1, cur, ty, fr, g1, g2, g3, g4.trans hs.symm, fun i el hi => ?_, ?_, fun i el j u hi hj => ?_⟩
    · obtain ⟨el0, h0, hq⟩ := hw.at i el hi
      rw [← hq.len, hs]; exact g5 i el0 h0
    · rw [← hw.len, hs]; exact g6
    · obtain ⟨el0, h0, hq⟩ := hw.at i el hi
      obtain ⟨u0, h1, hq⟩ := hq.at j u hj
      obtain ⟨_, v, hv, hr⟩ := g7 i el0 j u0 h0 h1
      exact ⟨hc el (List.mem_of_getElem? hi) u (List.mem_of_getElem? hj), v, by rw [hs]; exact hv, hq _ _ _ hr⟩
  · refine .inr ⟨h1, h2, h3.trans hs.symm, ?_⟩
    have := hw.len
    rw [h4] at this
    exact List.length_eq_zero_iff.1 this.symm
theorem Ok.weakOb {B : Gd} {F : Fz} {ν : Nu} {M : Hp} {w : World} (h : Ok B F ν M w) {i : Nat} {o o' : Ob} (hm : M i = some o) (hw : Wkss o.els o'.els) (hs : o'.sz = o.sz) (hc : ∀ el ∈ o'.els, ∀ u ∈ el, u.cell = true) : Ok B F ν (setM M i (some o')) w := by
  have src : ∀ x q, setM M i (some o') x = some q → ∃ q0, M x = some q0 := fun x q hx => by
    by_cases e : x = i
    · subst e; exact ⟨o, hm⟩
    · rw [setM_ne e] at hx; exact ⟨q, hx⟩
  refine ⟨h.fz, fun x q hx => ?_, fun x y q q' k k' hx hy hne a b c d => ?_, h.below, fun x q k hx a b => ?_, h.tab, h.ice⟩
  · by_cases e : x = i
    · subst e
      rw [setM_same] at hx
      cases hx
      obtain ⟨k, hk, hat, hF⟩ := h.ob _ _ hm
      exact ⟨k, hk, hat.weak hw hs hc, hF⟩
    · rw [setM_ne e] at hx
      exact h.ob _ _ hx
  · obtain ⟨q0, h0⟩ := src x q hx
    obtain ⟨q1, h1⟩ := src y q' hy
    exact h.inj _ _ _ _ _ _ h0 h1 hne a b c d
  · obtain ⟨q0, h0⟩ := src x q hx
    exact h.live _ _ _ h0 a b
theorem Yl.weakOb {P : Program} {o : Oper} {σ : Nat → V} {M : Hp} {id i : Nat} {u : V} {q q' : Ob} (h : Yl P o σ M id u []) (hm : M i = some q) (hw : Wkss q.els q'.els) (hs : q'.sz = q.sz) (hc : ∀ el ∈ q'.els, ∀ u ∈ el, u.cell = true) : Yl P o σ M id u [(i, some q')] := fun B M' hsub a w F ν h1 h2 h3 h4 => by
  refine Oper.wp_mono ?_ (wp_of_false (h B M' hsub a w F ν h1 h2 h3 h4))
  rintro a' w' ⟨v, u1, M1, F', ν', rfl, ⟨rfl, rfl⟩, g1, g2, g3, g4, g5⟩
  exact ⟨v, _, _, F', ν', rfl, ⟨rfl, rfl⟩, Ok.weakOb g1 (hsub _ _ hm) hw hs hc, g2, g3, g4, g5⟩
theorem To.weakOb {X : Cx} {σ : Nat → V} {M : Hp} {n i : Nat} {q q' : Ob} (hm : M i = some q) (hw : Wkss q.els q'.els) (hs : q'.sz = q.sz) (hc : ∀ el ∈ q'.els, ∀ u ∈ el, u.cell = true) : To X ⟨σ, M, n⟩ ⟨σ, setM M i (some q'), n⟩ := fun a w F ν h =>
  ⟨F, ν, ⟨h.ok.weakOb hm hw hs hc, h.nxt, h.maps, h.size, h.df, h.leF, h.old, h.le⟩⟩

section
variable {P : Program} {B : Gd} {σ : Nat → V} {M : Hp} {id : Nat} {K : V → Hp → Prop} {dst : Option Nat} {ty : Nat} {pos : String} {after : Array Edge} {guard : Option (Nat × Bool)}

/-! ### make -/
theorem w_makeSlice {t e b n : Nat} {x y : Operand} {z : Value} (ht : elOf P t = some e) (hs : szOf P e = some 1) (hb : bytOf P e = some b) (hz : zcells P e = some [.val z]) (hbytes : b * n ≤ 281474976710656) (h63 : n ≤ 9223372036854775807)
    (hx : ev σ x = .val (.int .i64 n)) (hy : ev σ y = .val (.int .i64 n)) (hK : K (.own id 0 n) (setM M id (some ⟨List.replicate n [.val z], 1⟩))) : OpW P B ⟨dst, .makeSlice t x y, ty, pos, after, guard⟩ σ M id K := by
  refine opw_on hK fun ac w F ν hok hid hm => ?_
  obtain ⟨i, z0, hi, hz1, vs, hvz, hzs, h1⟩ := zcells_info hz
  have hvs : vs = [z] := by
    cases vs with
    | nil => cases hzs
    | cons a r =>
      cases r with
      | nil => simp at hzs; rw [hzs]
      | cons b r => simp at hzs
  subst hvs
  have hbi : i.bytes = b := by simpa [bytOf, hi] using hb
  have hsi : i.size = 1 := by simpa [szOf, hi] using hs
  have e1 : ac.eval x = .int .i64 n := by have := ev_rel hm x; rw [hx] at this; exact rel_val this
  have e2 : ac.eval y = .int .i64 n := by have := ev_rel hm y; rw [hy] at this; exact rel_val this
  have hrun := run_make (P := P) w t e i z0 (elOf_und ht) hi hz1 .i64 .i64 (n : Int) (n : Int) (by omega) (Int.le_refl _) (by rw [hbi]; omega) (by omega)
  rw [hsi, Nat.mul_one, Int.toNat_natCast, hvz] at hrun
  have hcur : ∀ j, j < n → (madeCells [z].toArray n)[j]? = some z := fun j hj => by simp [madeCells, hj, Nat.mod_one]
  have ok1 := hok.allocs (.cells (madeCells [z].toArray n) e)
  have h2 := ok1.made (id := id) (o := ⟨List.replicate n [.val z], 1⟩) hid (heap_new w _) (hok.noF (Nat.le_refl _)) (hok.notOb (Nat.le_refl _)) (.inr hok.size) (fun x _ => by simp) (fun i el hi => by
      rw [List.eq_of_mem_replicate (List.mem_of_getElem? hi)]; rfl) (by simp [size_madeCells]) (fun i el j u hi hj => by
      have hil := (List.getElem?_eq_some_iff.1 hi).1
      rw [List.eq_of_mem_replicate (List.mem_of_getElem? hi)] at hj
      cases j with
      | succ j => simp at hj
      | zero =>
        simp at hj
        subst hj
        exact ⟨rfl, z, by simpa using hcur i (by simpa using hil), .val _ (h1 z (by simp))⟩)
  refine ⟨.value (.slice (some ⟨w.heap.size, 0, none⟩) n n), _, _, F, _, ?_, .inl rfl, h2.1, Fz.le_refl _, h2.2, setN_other, ?_⟩
  · simp only [execOp, e1, e2]
    simp [hrun]
  · refine .own id 0 n n _ ⟨w.heap.size, 1, (madeCells [z].toArray n).size, false, e⟩ (by simp [setN]) (Nat.le_refl _) h63 (fun _ => ⟨by simp, ?_⟩) (.inr ⟨_, rfl, rfl⟩)
    simp [size_madeCells]

/-! ### A written slice of texts -/
theorem w_buildSliceT {t e n : Nat} {parts : Array (Nat × Operand)} {l : List Str} (ht : elOf P t = some e) (hs : szOf P e = some 1) (hv : vparts 1 0 (evs σ parts.toList) = some (l.map enc)) (hl : l.length = n) (hn : parts.toList.length = n) (hbig : n ≤ 16777216) {zs : List V} (hz : zcells P e = some zs) (hzl : zs.length = 1) (hK : K (.tst l) M) :
    OpW P B ⟨dst, .buildSlice t n parts, ty, pos, after, guard⟩ σ M id K := by
  refine opw_on hK fun ac w F ν hok hid hm => ?_
  obtain ⟨hel, hels⟩ := vparts_len _ _ _ hv
  have heln : (l.map enc).length = n := by rw [List.length_map]; exact hl
  obtain ⟨i, z, hi, hz1, vs, hvz, rfl, h1⟩ := zcells_info hz
  rw [List.length_map] at hzl
  obtain ⟨hl', hq⟩ := parts_rel hm parts.toList
  have cells : ∃ ws : List Value, RL F ν ws (l.map enc).flatten ∧ (Instr.buildSlice t n (parts.map fun p => (p.1, ac.eval p.2))).run P w = .ok (.slice (some ⟨w.heap.size, 0, none⟩) n n) (w.alloc (.cells ws.toArray e)) := by
    by_cases h0 : n * 1 = 0
    · obtain ⟨ws, hw, hr⟩ := vfill_run (pl := fun i => some (i * 1, 1)) _ _ [] [] _ hl' hq ⟨rfl, fun j x hx => by simp at hx, fun j y x hy => by simp at hy⟩ (by
        have := vparts_fill (evs σ parts.toList) 0 (l.map enc) [] [] hv (by simp) (by rw [← hel, heln]; simpa using h0.symm)
        simpa using this)
      refine ⟨ws, by simpa using hr, ?_⟩
      have hw' : Instr.fill (fun i => some (i * 1, 1)) #[] (List.map (fun p => (p.fst, ac.eval p.snd)) parts.toList) = some ws.toArray := by simpa using hw
      simp only [Instr.buildSlice, Sem.run_bind, run_underlying (elOf_und ht), Result.andThen, szOf_run hs, h0]
      simp only [Nat.mul_one] at hw'
      simp [Array.range_zero', hw', newRow]
    · obtain ⟨zw, hzw, hzwl, hzm⟩ := rep_zero (zs := vs) (n := n) hzl h0
      obtain ⟨ws, hw, hr⟩ := vfill_run (pl := fun i => some (i * 1, 1)) _ _ (zw.map .val) zw _ hl' hq (RL.vals (F := F) (ν := ν) fun v hv => h1 v (hzm v hv)) (by
        have := vparts_fill (evs σ parts.toList) 0 (l.map enc) [] (zw.map .val) hv (by simp) (by rw [List.length_map, hzwl, ← hel, heln])
        simpa using this)
      refine ⟨ws, by simpa using hr, ?_⟩
      have hw' : Instr.fill (fun i => some (i * 1, 1)) zw.toArray (List.map (fun p => (p.fst, ac.eval p.snd)) parts.toList) = some ws.toArray := by simpa using hw
      have hbig' : ¬ (n * 1 > 2 ^ 24) := by omega
      simp only [Instr.buildSlice, Sem.run_bind, run_underlying (elOf_und ht), Result.andThen, szOf_run hs, h0, hbig', if_false, zeroValue, typeInfo]
      simp only [run_program, hi, Sem.run_pure, hz1, hvz, hzw]
      simp only [Nat.mul_one] at hw'
      simp [hw', newRow]
  obtain ⟨ws, hr, hrun⟩ := cells
  have ok1 := hok.allocs (.cells ws.toArray e)
  have ok2 := ok1.imm (b := w.heap.size) (f := fun o => ws[o]?) (hok.noF (Nat.le_refl _)) (hok.notOb (Nat.le_refl _)) (.inr hok.size) (fun o v ho => by rw [cell_at (heap_new w _)]; simpa using ho)
  have hle := addF_le (f := fun o => ws[o]?) (hok.noF (Nat.le_refl _) : ∀ x, F w.heap.size x = none)
  refine ⟨.value (.slice (some ⟨w.heap.size, 0, none⟩) n n), _, _, _, ν, ?_, .inl rfl, ok2, hle, Nu.le_refl _, fun _ _ => rfl, ?_⟩
  · simp only [execOp]
    simp [hrun]
  · refine .tst _ n l hl (by unfold maxLen; omega) fun _ => ⟨w.heap.size, 0, rfl, fun i s hs => ?_⟩
    have hi : (l.map enc)[i]? = some [tx s] := by rw [List.getElem?_map, hs]; rfl
    have hu := flat_at (l.map enc) 1 (fun i el h => hels el (List.mem_of_getElem? h)) i 0 [tx s] (tx s) hi rfl
    obtain ⟨y, hy⟩ := get_of_length hr.1 hu
    have := rel_val (hr.2.2 _ _ _ hy hu)
    subst this
    show addF F w.heap.size (fun o => ws[o]?) w.heap.size (0 + i) = some (str s)
    have e0 : 0 + i = i * 1 + 0 := by omega
    rw [e0]
    simpa [addF] using hy

/-! ### Behind a slice that has no room: a new one -/
theorem tst_flat : ∀ (l : List Str), (l.map (enc : Str → List V)).flatten = (l.map str).map .val
  | [] => rfl
  | b :: r => by
    have ih := tst_flat r
    show enc b ++ (r.map (enc : Str → List V)).flatten = _
    rw [ih]
    rfl
theorem w_appendK {t t2 e e2 by' : Nat} {x y : Operand} {zs : List V} {l1 l2 : List Str} (ht : elOf P t = some e) (ht2 : elOf P t2 = some e2) (hs : szOf P e = some 1) (hb : bytOf P e = some by') (hz : zcells P e = some zs) (hzl : zs.length = 1)
    (hx : ev σ x = .tst l1) (hy : vels M 1 (ev σ y) = some (l2.map enc)) (h0 : l2.length ≠ 0) (hbig : (l1.length + l2.length) * by' ≤ 140737488355328) (hmx : l1.length + l2.length ≤ maxLen) (hK : K (ar (l1 ++ l2)) M) :
    OpW P B ⟨dst, .call ⟨.builtin .append, #[x, y], #[t, t2]⟩, ty, pos, after, guard⟩ σ M id K := by
  refine opw_on hK fun ac w F ν hok hid hm => ?_
  obtain ⟨hl2, A2, c2, news, hv2, hc2, _, hnl, hnr, hsrc⟩ := vels_src hok (ev_rel hm y) hy
  have hsrc' : (∃ b o, A2 = some ⟨b, o, none⟩ ∧ ∀ (j : Nat) (y : Value), news[j]? = some y → w.cell? ⟨b, o + j, none⟩ = some y) ∨ (l2.map enc).length = 0 := hsrc.imp (fun h => h) els_of_nil
  have h1 := ev_rel hm x
  rw [hx] at h1
  generalize hv : ac.eval x = v at h1
  cases h1 with
  | tst A n _ hn hnm hA =>
    subst hn
    have hol : (l1.map str).length = l1.length * 1 := by simp
    have hor : RL F ν (l1.map str) (l1.map (enc : Str → List V)).flatten := by
      rw [tst_flat]
      exact RL.vals (F := F) (ν := ν) fun v hv => by
        obtain ⟨q, _, rfl⟩ := List.mem_map.1 hv
        rfl
    have hold : (∃ b o, A = some ⟨b, o, none⟩ ∧ ∀ (j : Nat) (y : Value), (l1.map str)[j]? = some y → w.cell? ⟨b, o + j, none⟩ = some y) ∨ l1.length = 0 := by
      by_cases hz0 : l1.length = 0
      · exact .inr hz0
      · obtain ⟨b, o, rfl, h⟩ := hA hz0
        refine .inl ⟨b, o, rfl, fun j y hy => ?_⟩
        obtain ⟨s, hs, rfl⟩ := map_inv hy
        exact hok.fz _ _ _ (h j s hs)
    rw [List.length_map] at hsrc' hnl
    obtain ⟨rest, hrun, hrl⟩ := append_grows (P := P) (w := w) (ty := ty) (c2 := c2) (c := l1.length) ht ht2 hs hb hz hzl hnl hsrc' hol hold (by omega) hbig hmx
    have ok1 := hok.drewOn.allocs (.cells (l1.map str ++ news ++ rest).toArray e)
    have ok2 := ok1.imm (b := w.heap.size) (f := fun o => (l1.map str ++ news ++ rest)[o]?) (hok.noF (Nat.le_refl _)) (hok.notOb (Nat.le_refl _)) (.inr hok.size) (fun o v ho => by
      have := cell_at (o := o) (heap_new w.drew (.cells (l1.map str ++ news ++ rest).toArray e))
      rw [show w.drew.heap.size = w.heap.size from rfl] at this
      rw [this]; simpa using ho)
    have hle := addF_le (f := fun o => (l1.map str ++ news ++ rest)[o]?) (hok.noF (Nat.le_refl _) : ∀ x, F w.heap.size x = none)
    have hnn : RL F ν (l1.map str ++ news) ((l1 ++ l2).map (enc : Str → List V)).flatten := by
      rw [List.map_append, List.flatten_append]
      exact hor.append hnr
    refine ⟨.value _, .slice (some ⟨w.heap.size, 0, none⟩) (l1.length + l2.length) (grownCap w (l1.length + l2.length) l1.length e), _, _, ν, ?_, .inl rfl, ok2, hle, Nu.le_refl _, fun _ _ => rfl, ?_⟩
    · simp only [execOp, resolve, invoke, builtin, hv, hv2, List.map_toArray, List.map_cons, List.map_nil, List.length_map]
      simp [hrun]
    · have hat : ∀ (i : Nat) (el : List V) (j : Nat) (u : V), ((l1 ++ l2).map (enc : Str → List V))[i]? = some el → el[j]? = some u → ∃ y, (l1.map str ++ news)[i * 1 + j]? = some y ∧ u.cell = true ∧ Rel F ν y u := fun i el j u hi hj => by
        have hu := flat_at ((l1 ++ l2).map (enc : Str → List V)) 1 (fun i el h => by obtain ⟨s, _, rfl⟩ := map_inv h; rfl) i j el u hi hj
        obtain ⟨y, hy⟩ := get_of_length hnn.1 hu
        exact ⟨y, hy, hnn.2.1 _ _ hu, hnn.2.2 _ _ _ hy hu⟩
      refine .arr _ _ _ 1 ((l1 ++ l2).map enc) (fun i j => ((l1.map str ++ news)[i * 1 + j]?).getD undef) (by simp) (grownCap_ge w _ _ _) (grownCap_le_maxLen w _ _ _ hmx) (fun i el hi => by obtain ⟨s, _, rfl⟩ := map_inv hi; rfl) (fun i el j u hi hj => (hat i el j u hi hj).choose_spec.2.1) (fun _ => ⟨w.heap.size, 0, rfl, fun i el j u hi hj => ?_⟩) (fun i el j u hi hj => ?_)
      · obtain ⟨y, hy, _⟩ := hat i el j u hi hj
        have hlt := (List.getElem?_eq_some_iff.1 hy).1
        show addF F w.heap.size (fun o => (l1.map str ++ news ++ rest)[o]?) w.heap.size (0 + i * 1 + j) = _
        rw [Nat.zero_add]
        simp only [addF, if_true]
        rw [List.getElem?_append_left hlt, hy]
        rfl
      · obtain ⟨y, hy, _, hr⟩ := hat i el j u hi hj
        rw [hy]
        exact hr.mono hle (Nu.le_refl _)
end
section
variable {G : Rg} {os : List Oper} {i : Nat} {σ σ' : Nat → V} {M M' : Hp} {u : V} {ds : List Yd}
variable {d : Option Nat} {ty : Nat} {pos : String} {aft : Array Edge} {g : Option (Nat × Bool)} {x y : Operand} {t : Nat}
theorem wkss_map {α β : Type} [Enc α] [Enc β] (f : α → β) (h : ∀ a, Wks (enc a) (enc (f a))) : ∀ (l : List α), Wkss (l.map enc) ((l.map f).map enc)
  | [] => .nil
  | a :: l => .cons (h a) (wkss_map f h l)
theorem ob_cells {β : Type} [Enc β] (l : List β) : ∀ el ∈ (ob l).els, ∀ u ∈ el, u.cell = true := fun el hel u hu => by
  obtain ⟨a, _, rfl⟩ := List.mem_map.1 hel
  exact Enc.cell a u hu
/-- A place of an object is read, and the object told weaker. -/
theorem x_ldEW {α β : Type} [Enc α] [Enc β] {n id k off : Nat} {ag : Bool} {l : List α} {a : α} (f : α → β) (hf : ∀ a, Wks (enc a) (enc (f a))) (hsz : Enc.sz β = Enc.sz α) (L : Ld G.P t ag n) (hx : ev σ x = .ptr id k off) (hm : hideL (G.h i) M id = some (ob l)) (ha : l[k]? = some a) (hu : vload ag n ((enc a).drop off) = some u)
    (c : Ck G ⟨d, .load t x, ty, pos, aft, g⟩ i σ [(id, some (ob (l.map f)))]) (r : Lx G os (i + 1) (upd σ d u) (setM M id (some (ob (l.map f)))) ds σ' M') : Lx G (⟨d, .load t x, ty, pos, aft, g⟩ :: os) i σ M (⟨u, [(id, some (ob (l.map f)))]⟩ :: ds) σ' M' :=
  lx_on c (Yl.weakOb (fun _ _ hs => w_load L.1 L.2 (by rw [(ev_see (by simp [Op.operands])).trans hx]; exact pcells_mono hs (by simp only [pcells, hm, Option.bind_some, List.getElem?_map, ha, Option.map_some])) hu ⟨rfl, rfl⟩) hm (wkss_map f hf l) hsz (ob_cells _)) r
theorem x_mk {α : Type} [Enc α] {n b e : Nat} {a : α} {z : Value} (E : elOf G.P t = some e ∧ szOf G.P e = some 1 ∧ bytOf G.P e = some b ∧ zcells G.P e = some [.val z]) (ha : enc a = [.val z]) (hn : (Nat.ble (b * n) 281474976710656 && Nat.ble n 9223372036854775807) = true) (hx : ev σ x = .val (.int .i64 n)) (hy : ev σ y = .val (.int .i64 n))
    (c : Ck G ⟨d, .makeSlice t x y, ty, pos, aft, g⟩ i σ [(G.n0 + i, some (ob (List.replicate n a)))]) (r : Lx G os (i + 1) (upd σ d (.own (G.n0 + i) 0 n)) (setM M (G.n0 + i) (some (ob (List.replicate n a)))) ds σ' M') : Lx G (⟨d, .makeSlice t x y, ty, pos, aft, g⟩ :: os) i σ M (⟨.own (G.n0 + i) 0 n, [(G.n0 + i, some (ob (List.replicate n a)))]⟩ :: ds) σ' M' := by
  simp only [Bool.and_eq_true, Nat.ble_eq] at hn
  have e1 : (ob (List.replicate n a)) = ⟨List.replicate n [.val z], 1⟩ := by
    have hs : Enc.sz α = 1 := by rw [← Enc.len a, ha]; rfl
    simp only [ob, List.map_replicate, ha, hs]
  exact lx_on c (fun _ _ _ => w_makeSlice E.1 E.2.1 E.2.2.1 E.2.2.2 hn.1 hn.2 (by rw [ev_see (by simp [Op.operands])]; exact hx) (by rw [ev_see (by simp [Op.operands])]; exact hy) ⟨rfl, by rw [e1]; rfl⟩) r
/-- A written slice of texts, with no room behind it. -/
theorem x_bsT (l : List Str) {parts : Array (Nat × Operand)} {n b : Nat} (E : El G.P t 1 b) (h : vparts 1 0 (evs σ parts.toList) = some (l.map enc)) (hn : (Nat.beq parts.toList.length n && Nat.ble n 16777216) = true) (hl : l.length = n) (c : Ck G ⟨d, .buildSlice t n parts, ty, pos, aft, g⟩ i σ []) (r : Lx G os (i + 1) (upd σ d (.tst l)) M ds σ' M') : Lx G (⟨d, .buildSlice t n parts, ty, pos, aft, g⟩ :: os) i σ M (⟨.tst l, []⟩ :: ds) σ' M' := by
  obtain ⟨e, zs, h1, h2, h3, h4, h5, _⟩ := E
  simp only [Bool.and_eq_true, Nat.beq_eq, Nat.ble_eq] at hn
  exact lx_on c (fun _ _ hs => w_buildSliceT h1 h2 (by
    have : evs (see G.ops ⟨d, .buildSlice t n parts, ty, pos, aft, g⟩ σ) parts.toList = evs σ parts.toList := List.map_congr_left fun p hp => by
      rw [ev_see (by simp only [Op.operands, List.mem_map]; exact ⟨p, hp, rfl⟩)]
    rw [this]
    exact h) hl hn.1 hn.2 h4 h5 ⟨rfl, rfl⟩) r
theorem x_apK {l1 l2 l3 : List Str} {b : Nat} (E : El G.P t 1 b) (hx : ev σ x = .tst l1) (hy : vels (hideL (G.h i) M) 1 (ev σ y) = some (l2.map enc)) (h0 : Nat.ble 1 l2.length = true) (h : appO b l1 l2 = some l3)
    (c : Ck G ⟨d, .call ⟨.builtin .append, #[x, y], #[t, t]⟩, ty, pos, aft, g⟩ i σ []) (r : Lx G os (i + 1) (upd σ d (ar l3)) M ds σ' M') : Lx G (⟨d, .call ⟨.builtin .append, #[x, y], #[t, t]⟩, ty, pos, aft, g⟩ :: os) i σ M (⟨ar l3, []⟩ :: ds) σ' M' := by
  obtain ⟨e, zs, h1, h2, h3, h4, h5, _⟩ := E
  obtain ⟨hf, rfl⟩ := okO_inv h
  have hf := fitB_iff.1 hf
  have h0 : 1 ≤ l2.length := Nat.ble_eq.mp h0
  exact lx_on c (fun _ _ hs => w_appendK h1 h1 h2 h3 h4 h5 (by rw [ev_see (by simp [Op.operands, Call.operands])]; exact hx) (by rw [ev_see (by simp [Op.operands, Call.operands])]; exact vels_mono hs hy) (by omega) hf.1 hf.2 ⟨rfl, rfl⟩) r
/-- A part of an object. -/
theorem x_slO {α : Type} [Enc α] {sz b id : Nat} {l l' : List α} {lo hi : Option Operand} {a e : Int} (E : El G.P t sz b) (hz : sz = Enc.sz α) (hx : ev σ x = .own id 0 l.length) (hm : hideL (G.h i) M id = some (ob l)) (hl : bn σ lo 0 = some a) (hh : bn σ hi (l.length : Int) = some e) (h : lsubO l a e = some l')
    (c : Ck G ⟨d, .slice t x lo hi none, ty, pos, aft, g⟩ i σ []) (r : Lx G os (i + 1) (upd σ d (.own id a.toNat (e.toNat - a.toNat))) M ds σ' M') : Lx G (⟨d, .slice t x lo hi none, ty, pos, aft, g⟩ :: os) i σ M (⟨.own id a.toNat (e.toNat - a.toNat), []⟩ :: ds) σ' M' := by
  obtain ⟨h1, rfl⟩ := okO_inv h
  have h1 : (0 ≤ a ∧ a ≤ e) ∧ e ≤ l.length := by simpa using h1
  refine x_sl (n := l.length) E (by rw [hx]; simp [vlen]) hl hh ⟨h1.1.1, by omega⟩ ?_ c r
  rw [hx]
  simp only [vcut, hm, Option.bind_some]
  rw [if_pos ⟨by omega, by omega⟩, if_pos hz.symm, Nat.zero_add]
/-- A part at an object's head, and another part behind it. -/
theorem x_apP {α : Type} [Enc α] {sz b id : Nat} {l l1 l2 l3 : List α} {a1 e1 a2 e2 : Int} (E : El G.P t sz b) (hz : sz = Enc.sz α) (hx : ev σ x = .own id a1.toNat (e1.toNat - a1.toNat)) (ha : a1 = 0) (hy : ev σ y = .own id a2.toNat (e2.toNat - a2.toNat)) (hm : hideL (G.h i) M id = some (ob l)) (h1 : lsubO l a1 e1 = some l1) (h2 : lsubO l a2 e2 = some l2) (h : appO b l1 l2 = some l3)
    (c : Ck G ⟨d, .call ⟨.builtin .append, #[x, y], #[t, t]⟩, ty, pos, aft, g⟩ i σ [(id, none), (G.n0 + i, some (ob l3))])
    (r : Lx G os (i + 1) (upd σ d (.own (G.n0 + i) 0 l3.length)) (setM (setM M id none) (G.n0 + i) (some (ob l3))) ds σ' M') :
    Lx G (⟨d, .call ⟨.builtin .append, #[x, y], #[t, t]⟩, ty, pos, aft, g⟩ :: os) i σ M (⟨.own (G.n0 + i) 0 l3.length, [(id, none), (G.n0 + i, some (ob l3))]⟩ :: ds) σ' M' := by
  subst ha
  obtain ⟨k1, rfl⟩ := okO_inv h1
  obtain ⟨k2, rfl⟩ := okO_inv h2
  obtain ⟨hf, rfl⟩ := okO_inv h
  have k1 : (True ∧ 0 ≤ e1) ∧ e1 ≤ l.length := by simpa using k1
  have k2 : (0 ≤ a2 ∧ a2 ≤ e2) ∧ e2 ≤ l.length := by simpa using k2
  have hx' : vbase (hideL (G.h i) M) sz (ev σ x) = some (((l.drop (0 : Int).toNat).take (e1.toNat - (0 : Int).toNat)).map enc, some id) := by
    rw [hx]
    have := vbase_obV (M := hideL (G.h i) M) (id := id) (k := e1.toNat) hz hm (by omega)
    simpa using this
  have hy' : vels (hideL (G.h i) M) sz (ev σ y) = some (((l.drop a2.toNat).take (e2.toNat - a2.toNat)).map enc) := by
    rw [hy]
    simp only [vels, hm, Option.bind_some]
    rw [if_pos ⟨hz.symm, by rw [List.length_map]; omega⟩, List.map_take, List.map_drop]
  have q := x_ap (G := G) (os := os) (i := i) (σ := σ) (σ' := σ') (M := M) (M' := M') (ds := ds) (d := d) (ty := ty) (pos := pos) (aft := aft) (g := g) E E hx' hy' (by simpa only [List.length_map] using hf)
  simp only [dropE, List.length_map, ← List.map_append, ← List.length_append, hz, List.cons_append, List.nil_append] at q
  exact q c r
theorem Yl.weakE {P : Program} {o : Oper} {σ : Nat → V} {M : Hp} {id i : Nat} {u : V} {q q' : Ob} (h : Yl P o σ M id u [(i, some q)]) (hw : Wkss q.els q'.els) (hs : q'.sz = q.sz) (hc : ∀ el ∈ q'.els, ∀ u ∈ el, u.cell = true) : Yl P o σ M id u [(i, some q')] := fun B M' hsub a w F ν h1 h2 h3 h4 => by
  refine Oper.wp_mono ?_ (wp_of_false (h B M' hsub a w F ν h1 h2 h3 h4))
  rintro a' w' ⟨v, u1, M1, F', ν', rfl, ⟨rfl, rfl⟩, g1, g2, g3, g4, g5⟩
  have e : app [(i, some q)] M' = setM M' i (some q) := rfl
  rw [e] at g1
  have := Ok.weakOb g1 (setM_same ..) hw hs hc
  have e2 : setM (setM M' i (some q)) i (some q') = setM M' i (some q') := by
    funext x
    simp only [setM_at]
    split <;> rfl
  rw [e2] at this
  exact ⟨v, _, _, F', ν', rfl, ⟨rfl, rfl⟩, this, g2, g3, g4, g5⟩
theorem Wkss.set {us us' : List (List V)} (h : Wkss us us') {u u' : List V} (hu : Wks u u') : ∀ (k : Nat), Wkss (us.set k u) (us'.set k u') := by
  induction h with
  | nil => intro k; exact .nil
  | cons h hs ih =>
    intro k
    cases k with
    | zero => exact .cons hu hs
    | succ k => exact .cons h (ih k)
/-- An element of an object, turned; and the object told weaker. -/
theorem x_stEW {α β : Type} [Enc α] [Enc β] (f : α → β) (hw : ∀ a, Wks (enc a) (enc (f a))) (hsz : Enc.sz β = Enc.sz α) {ag : Bool} {n id k off : Nat} {l : List α} {a : α} {b : β} {cs : List V} (L : Ld G.P t ag n) (hp : ev σ x = .ptr id k off) (hx : vcells (ev σ y) = some cs) (hm : hideL (G.h i) M id = some (ob l)) (ha : l[k]? = some a) (hs' : Wks (splice (enc a) off cs) (enc b)) (hf : (Nat.beq n cs.length && Nat.ble (off + cs.length) (Enc.sz α)) = true)
    (c : Ck G ⟨d, .store t x y, ty, pos, aft, g⟩ i σ [(id, some (ob ((l.map f).set k b)))]) (r : Lx G os (i + 1) (upd σ d .any) (setM M id (some (ob ((l.map f).set k b)))) ds σ' M') : Lx G (⟨d, .store t x y, ty, pos, aft, g⟩ :: os) i σ M (⟨.any, [(id, some (ob ((l.map f).set k b)))]⟩ :: ds) σ' M' := by
  simp only [Bool.and_eq_true, Nat.beq_eq, Nat.ble_eq] at hf
  obtain ⟨rfl, hf⟩ := hf
  have hY : Yl G.P ⟨d, .store t x y, ty, pos, aft, g⟩ (see G.ops ⟨d, .store t x y, ty, pos, aft, g⟩ σ) (hideL (G.h i) M) (G.n0 + i) .any [(id, some ⟨(l.map enc).set k (splice (enc a) off cs), Enc.sz α⟩)] :=
    fun _ _ hs => w_store L.2 ((ev_see (by simp [Op.operands])).trans hp) (by rw [ev_see (by simp [Op.operands])]; exact hx) (hs _ _ hm) (show (ob l).els[k]? = some (enc a) by simp [ob, ha]) (by rw [Enc.len]; exact hf) ⟨rfl, rfl⟩
  have hq : Wkss ((l.map enc).set k (splice (enc a) off cs)) (((l.map f).set k b).map enc) := by
    rw [List.map_set]
    exact (wkss_map f hw l).set hs' k
  exact lx_on c (hY.weakE (q' := ob ((l.map f).set k b)) hq hsz (ob_cells _)) r
theorem fzOl {i : Nat} {α : Type} [Enc α] {l : List α} {n : Nat} (h : n = l.length) : Fz2 i (ob l) (.own i 0 n) (ar l) := by
  subst h; exact fzO
theorem Yl.fz {P : Program} {o : Oper} {σ : Nat → V} {M : Hp} {id : Nat} {u u' : V} {es : Eff} {q : Ob} (h : Yl P o σ M id u (es ++ [(id, some q)])) (hf : Fz2 id q u u') : Yl P o σ M id u' (es ++ [(id, none)]) := fun B M' hsub a w F ν h1 h2 h3 h4 => by
  refine Oper.wp_mono ?_ (wp_of_false (h B M' hsub a w F ν h1 h2 h3 h4))
  rintro a' w' ⟨v, u1, M1, F', ν', rfl, ⟨rfl, rfl⟩, ok', g2, g3, g4, g5⟩
  rw [app_append] at ok'
  have e : app [(id, some q)] (app es M') = setM (app es M') id (some q) := rfl
  rw [e] at ok'
  have hm : setM (app es M') id (some q) id = some q := setM_same ..
  obtain ⟨k, hk, hat, hFk⟩ := ok'.ob id _ hm
  obtain ⟨F2, hic, ok2⟩ := hat.cellF hFk (ok'.drop id) (i := id) hk (fun hv id' o' k' a b v' => by
    have hne : id' ≠ id := fun e => by rw [e, setM_same] at a; cases a
    rw [setM_ne hne] at a
    exact ok'.inj _ _ _ _ _ _ a hm hne b hk v' hv) (fun hv => ok'.live _ _ _ hm hk hv)
  refine ⟨v, _, _, F2, ν', rfl, ⟨rfl, rfl⟩, ?_, Fz.le_trans g2 hic.le, g3, g4, hf _ _ _ _ hic g5⟩
  have e2 : setM (setM (app es M') id (some q)) id none = app (es ++ [(id, none)]) M' := by
    rw [app_append]
    funext x
    show _ = setM (app es M') id none x
    simp only [setM_at]
    split <;> rfl
  rw [← e2]
  exact ok2
theorem x_apOz {α : Type} [Enc α] {l1 l2 l3 : List α} {sz b : Nat} {id : Nat} (E : El G.P t sz b) (hz : sz = Enc.sz α) (hx : ev σ x = .own id 0 l1.length) (hm : hideL (G.h i) M id = some (ob l1)) (hy : vels (hideL (G.h i) M) sz (ev σ y) = some (l2.map enc)) (h : appO b l1 l2 = some l3)
    (c : Ck G ⟨d, .call ⟨.builtin .append, #[x, y], #[t, t]⟩, ty, pos, aft, g⟩ i σ [(id, none), (G.n0 + i, none)])
    (r : Lx G os (i + 1) (upd σ d (ar l3)) (setM (setM M id none) (G.n0 + i) none) ds σ' M') :
    Lx G (⟨d, .call ⟨.builtin .append, #[x, y], #[t, t]⟩, ty, pos, aft, g⟩ :: os) i σ M (⟨ar l3, [(id, none), (G.n0 + i, none)]⟩ :: ds) σ' M' := by
  obtain ⟨h1, rfl⟩ := okO_inv h
  obtain ⟨e, zs, h1', h2, h3, h4, h5, h6⟩ := E
  have hf := fitB_iff.1 (by simpa using h1 : fitB b ((l1.map enc).length + (l2.map enc).length) = true)
  have hx' : vbase (hideL (G.h i) M) sz (ev σ x) = some (l1.map enc, some id) := by rw [hx]; exact vbase_ob hz hm
  have q : Yl G.P ⟨d, .call ⟨.builtin .append, #[x, y], #[t, t]⟩, ty, pos, aft, g⟩ (see G.ops ⟨d, .call ⟨.builtin .append, #[x, y], #[t, t]⟩, ty, pos, aft, g⟩ σ) (hideL (G.h i) M) (G.n0 + i) (.own (G.n0 + i) 0 ((l1.map enc).length + (l2.map enc).length)) ([(id, none)] ++ [(G.n0 + i, some ⟨l1.map enc ++ l2.map enc, sz⟩)]) :=
    fun _ _ hs => w_append h1' h1' h2 h3 h4 h5 (by rw [ev_see (by simp [Op.operands, Call.operands])]; exact vbase_mono hs hx') (by rw [ev_see (by simp [Op.operands, Call.operands])]; exact vels_mono hs hy) hf.1 hf.2 h6 ⟨rfl, (app_dropE _ _ _ _).symm⟩
  have hob : (⟨l1.map enc ++ l2.map enc, sz⟩ : Ob) = ob (l1 ++ l2) := by simp [ob, hz]
  rw [hob] at q
  exact lx_on c (q.fz (fzOl (by simp))) r
theorem x_apNz {α : Type} [Enc α] {l2 l3 : List α} {sz b : Nat} (E : El G.P t sz b) (hz : sz = Enc.sz α) (hx : ev σ x = nl) (hy : vels (hideL (G.h i) M) sz (ev σ y) = some (l2.map enc)) (h : appO b [] l2 = some l3)
    (c : Ck G ⟨d, .call ⟨.builtin .append, #[x, y], #[t, t]⟩, ty, pos, aft, g⟩ i σ [(G.n0 + i, none)])
    (r : Lx G os (i + 1) (upd σ d (ar l3)) (setM M (G.n0 + i) none) ds σ' M') :
    Lx G (⟨d, .call ⟨.builtin .append, #[x, y], #[t, t]⟩, ty, pos, aft, g⟩ :: os) i σ M (⟨ar l3, [(G.n0 + i, none)]⟩ :: ds) σ' M' := by
  obtain ⟨h1, rfl⟩ := okO_inv h
  obtain ⟨e, zs, h1', h2, h3, h4, h5, h6⟩ := E
  have hf := fitB_iff.1 (by simpa using h1 : fitB b ((([] : List α).map enc).length + (l2.map enc).length) = true)
  have hx' : vbase (hideL (G.h i) M) sz (ev σ x) = some (([] : List α).map enc, none) := by rw [hx]; rfl
  have q : Yl G.P ⟨d, .call ⟨.builtin .append, #[x, y], #[t, t]⟩, ty, pos, aft, g⟩ (see G.ops ⟨d, .call ⟨.builtin .append, #[x, y], #[t, t]⟩, ty, pos, aft, g⟩ σ) (hideL (G.h i) M) (G.n0 + i) (.own (G.n0 + i) 0 ((([] : List α).map enc).length + (l2.map enc).length)) ([] ++ [(G.n0 + i, some ⟨([] : List α).map enc ++ l2.map enc, sz⟩)]) :=
    fun _ _ hs => w_append h1' h1' h2 h3 h4 h5 (by rw [ev_see (by simp [Op.operands, Call.operands])]; exact vbase_mono hs hx') (by rw [ev_see (by simp [Op.operands, Call.operands])]; exact vels_mono hs hy) hf.1 hf.2 h6 ⟨rfl, (app_dropE _ _ _ _).symm⟩
  have hob : (⟨([] : List α).map enc ++ l2.map enc, sz⟩ : Ob) = ob ([] ++ l2) := by simp [ob, hz]
  rw [hob] at q
  exact lx_on c (q.fz (fzOl (by simp))) r
theorem x_stEN {α : Type} [Enc α] {ag : Bool} {n id k off : Nat} {l : List α} {a : α} {b : α} {cs : List V} (L : Ld G.P t ag n) (hp : ev σ x = .ptr id k off) (hx : vcells (ev σ y) = some cs) (hm : hideL (G.h i) M id = some (ob l)) (ha : l[k]? = some a) (hs' : Wks (splice (enc a) off cs) (enc b)) (hf : (Nat.beq n cs.length && Nat.ble (off + cs.length) (Enc.sz α)) = true)
    (c : Ck G ⟨d, .store t x y, ty, pos, aft, g⟩ i σ [(id, some (ob (l.set k b)))]) (r : Lx G os (i + 1) (upd σ d .any) (setM M id (some (ob (l.set k b)))) ds σ' M') : Lx G (⟨d, .store t x y, ty, pos, aft, g⟩ :: os) i σ M (⟨.any, [(id, some (ob (l.set k b)))]⟩ :: ds) σ' M' := by
  have h := x_stEW (G := G) (os := os) (i := i) (σ := σ) (σ' := σ') (M := M) (M' := M') (ds := ds) (d := d) (ty := ty) (pos := pos) (aft := aft) (g := g) (l := l) (fun a : α => a) (fun _ => Wks.refl _) rfl L hp hx hm ha hs' hf
  simp only [List.map_id'] at h
  exact h c r
theorem mapO {α β : Type} {f : α → β} {l : List α} {k : Nat} {a : α} (h : l[k]? = some a) : (l.map f)[k]? = some (f a) := by rw [List.getElem?_map, h]; rfl
end
end Go.Ka
namespace Go.Ka
open Enc (enc)
open Go.RowKit
variable [Tab]

/-- A block that is nobody's turns. -/
theorem Ok.loose {B : Gd} {F : Fz} {ν : Nu} {M : Hp} {w w' : World} (h : Ok B F ν M w) (h1 : w'.os = w.os) (h2 : w'.tape = w.tape) (h3 : w'.output = w.output) (h4 : w.heap.size ≤ w'.heap.size) {b : Nat} (hF : ∀ x, F b x = none)
    (hob : ∀ id' o' k', M id' = some o' → ν id' = some k' → k'.vt = false → k'.b ≠ b) (hl : B.D b ∨ B.w.heap.size ≤ b) (h5 : ∀ b', b' < w.heap.size → b' ≠ b → w'.heap[b']? = w.heap[b']?) : Ok B F ν M w' := by
  refine ⟨fun b' o v hf => ?_, fun id1 o1 hm1 => ?_, h.inj, ⟨h1.trans h.below.os, h2.trans h.below.tape, h3.trans h.below.output, Nat.le_trans h.below.size h4, fun b' hb hD => ?_⟩, h.live, ⟨h.tab.1, fun b' o hb => by
    have hw := h.tab.2 b' o hb
    obtain ⟨x, v, hv⟩ := Tab.hd b' o hb
    rw [h5 b' (lt_of_some hw) (fun e => by have := h.tab.1 _ _ _ hv; rw [e, hF] at this; cases this)]
    exact hw⟩, h.ice⟩
  · rw [← h.fz _ _ _ hf]
    refine World.cell?_of_block (h5 b' (h.lt hf) fun e => ?_)
    rw [e, hF] at hf
    cases hf
  · obtain ⟨k1, hk1, hat1, hF1⟩ := h.ob _ _ hm1
    exact ⟨k1, hk1, hat1.mono (Fz.le_refl _) (Nu.le_refl _) (fun v1 => h5 _ (h.obLt hm1 hk1 v1) (hob _ _ _ hm1 hk1 v1)), hF1⟩
  · rw [h5 b' (Nat.lt_of_lt_of_le hb h.below.size) (fun e => by
      subst e
      rcases hl with hl | hl
      · exact hD hl
      · omega)]
    exact h.below.block b' hb hD

/-- What unsafe.SliceData hands back. -/
def sdV (id n T : Nat) : V := bif Nat.beq n 0 then .pp else .ps id T
section
variable {P : Program} {B : Gd} {σ : Nat → V} {M : Hp} {id : Nat} {K : V → Hp → Prop} {dst : Option Nat} {ty : Nat} {pos : String} {after : Array Edge} {guard : Option (Nat × Bool)}
theorem w_sd {t e i T : Nat} {x : Operand} {l : Str} (ht : P.underlying ty = some (.pointer e)) (hx : ev σ x = .owt i l.length T) (hM : M i = some (ob l)) (hK : K (sdV i l.length T) M) :
    OpW P B ⟨dst, .call ⟨.builtin .unsafeSliceData, #[x], #[t]⟩, ty, pos, after, guard⟩ σ M id K := by
  refine opw_on hK fun ac w F ν hok hid hm => ?_
  have h1 := ev_rel hm x
  rw [hx] at h1
  generalize hv : ac.eval x = v at h1
  cases h1 with
  | owt _ _ c _ A k hk hc hcm hA hB hT =>
    by_cases h0 : c = 0
    · subst h0
      have hl0 : l.length = 0 := by omega
      have e0 : sdV i l.length T = .pp := by rw [hl0]; rfl
      rcases hB with rfl | ⟨off, rfl, hvt⟩
      · refine ⟨.value (.pointer none), _, w, F, ν, ?_, .inl rfl, hok, Fz.le_refl _, Nu.le_refl _, fun _ _ => rfl, by rw [e0]; exact .pp _⟩
        simp only [execOp, resolve, invoke, builtin, hv, List.map_toArray, List.map_cons, List.map_nil]
        simp [Lib.run_unsafeSliceData_nil]
      · obtain ⟨hat, _⟩ := hok.at hM hk
        obtain ⟨cur, ty', fr, g1, _⟩ := hat.realV hvt
        have hsh : w.shape? k.b = some (ty', cur.size) := by simp [World.shape?, g1]
        have := Lib.run_unsafeSliceData_zero (P := P) (w := w) #[t] ty e ht ⟨k.b, off, none⟩ l.length _ hsh
        refine ⟨.value (.pointer (some ⟨w.heap.size, 0, none⟩)), _, _, F, ν, ?_, .inl rfl, hok.allocs (.view ⟨k.b, off, none⟩ e), Fz.le_refl _, Nu.le_refl _, fun _ _ => rfl, by rw [e0]; exact .pp _⟩
        simp only [execOp, resolve, invoke, builtin, hv, List.map_toArray, List.map_cons, List.map_nil]
        simp [this]
    · obtain ⟨rfl, hcap⟩ := hA h0
      refine ⟨.value (.pointer (some ⟨k.b, 0 * k.sz, none⟩)), _, w, F, ν, ?_, .inl rfl, hok, Fz.le_refl _, Nu.le_refl _, fun _ _ => rfl, ?_⟩
      · simp only [execOp, resolve, invoke, builtin, hv, List.map_toArray, List.map_cons, List.map_nil]
        simp [Lib.run_unsafeSliceData_row _ _ _ _ _ _ h0]
      · unfold sdV
        cases Nat.beq l.length 0 with
        | true => exact .pp _
        | false =>
          have hvt : k.vt = false := by
            rcases hB with hB | ⟨_, _, hv⟩
            · cases hB
            · exact hv
          have := Rel.ps (F := F) (ν := ν) i T k hk (hT hvt)
          simpa using this

theorem w_us {pt it e i T : Nat} {x y : Operand} {l : Str} (hp : P.underlying pt = some (.pointer e)) (hc : P.cellsOf e = 1) (hTe : T = e) (hmx : l.length ≤ 9223372036854775807) (hx : ev σ x = sdV i l.length T) (hy : ev σ y = i64 l.length) (hM : M i = some (ob l)) (hK : K (tx l) (setM M i none)) :
    OpW P B ⟨dst, .call ⟨.builtin .unsafeString, #[x, y], #[pt, it]⟩, ty, pos, after, guard⟩ σ M id K := by
  refine opw_on hK fun ac w F ν hok hid hm => ?_
  have h2 := ev_rel hm y
  rw [hy] at h2
  have e2 : ac.eval y = .int .i64 l.length := rel_val h2
  have h1 := ev_rel hm x
  rw [hx] at h1
  obtain ⟨k, hk, hat, hFk⟩ := hok.ob i _ hM
  generalize hv : ac.eval x = v at h1
  by_cases hl : l = []
  · subst hl
    have h1 : Rel F ν v .pp := h1
    cases h1 with
    | pp p =>
      refine ⟨.value (.string .empty), _, w, F, ν, ?_, .inl rfl, hok.drop i, Fz.le_refl _, Nu.le_refl _, fun _ _ => rfl, .val _ rfl⟩
      have e2 : ac.eval y = .int .i64 0 := e2
      simp only [execOp, resolve, invoke, builtin, hv, e2, List.map_toArray, List.map_cons, List.map_nil]
      simp [Lib.run_unsafeString_none]
  · have hpos : 0 < l.length := List.length_pos_iff.2 hl
    have e0 : sdV i l.length T = .ps i T := by
      unfold sdV
      cases hb : Nat.beq l.length 0 with
      | true => have := Nat.eq_of_beq_eq_true hb; omega
      | false => rfl
    rw [e0] at h1
    have hvt : k.vt = false := by
      obtain ⟨s, r, e⟩ := List.exists_cons_of_ne_nil hl
      exact (hat.real (i := 0) (el := [u8 s]) (by rw [e]; rfl)).1
    obtain ⟨cur, ty', fr, g1, ⟨g2, gty⟩, g3, g4, g5, g6, g7⟩ := hat.realV hvt
    have e1 : (ob l).els.length = l.length := by simp [ob]
    have e3 : (ob l).sz = 1 := rfl
    have hfit : l.length ≤ cur.size := by rw [g2]; rw [e1, e3] at g6; omega
    have hcell : ∀ (j : Nat) (b : UInt8), l[j]? = some b → w.cell? ((⟨k.b, 0, none⟩ : Addr).add j) = some (.int .u8 b.toNat) := fun j b hj => by
      obtain ⟨_, v, hv, hr⟩ := g7 j [u8 b] 0 (u8 b) (by simp [ob, hj]; rfl) rfl
      rw [Addr.add_lit, cell_at g1]
      rw [e3, show j * 1 + 0 = 0 + j by omega] at hv
      rw [hv, rel_val hr]
    cases h1 with
    | ps _ _ k' hk' hTk =>
      rw [hk] at hk'
      cases hk'
      have hsh : w.shape? k.b = some (e, cur.size) := by simp [World.shape?, g1, gty, hTk, hTe]
      have hrun := Lib.run_unsafeString_row (P := P) w pt it ty e hp hc k.b cur.size hsh l hl hfit hmx hcell
      refine ⟨.value (.string ⟨l.toArray⟩), _, w.freeze ⟨k.b, 0, none⟩ l.length, F, ν, ?_, .inl rfl, ?_, Fz.le_refl _, Nu.le_refl _, fun _ _ => rfl, .val _ rfl⟩
      · simp only [execOp, resolve, invoke, builtin, hv, e2, List.map_toArray, List.map_cons, List.map_nil]
        simp [hrun]
      · have hne : ¬ l.length = 0 := by omega
        unfold World.freeze
        rw [if_neg hne]
        refine (hok.drop i).loose rfl rfl rfl (by simp) (b := k.b) (hFk hvt) (fun id' o' k' a b v1 => ?_) (hok.live _ _ _ hM hk hvt) (fun b' hb' hne' => ?_)
        · by_cases e : id' = i
          · subst e; rw [setM_same] at a; cases a
          · rw [setM_ne e] at a
            exact hok.inj _ _ _ _ _ _ a hM e b hk v1 hvt
        · show (w.heap.modify k.b _)[b']? = _
          rw [Array.getElem?_modify, if_neg (Ne.symm hne')]

/-- A new builder: no bytes yet, and the address of nobody. -/
theorem w_alB {t : Nat} {cs : List V} (hz : zcells P t = some (.val (.pointer none) :: cs)) (h2 : cs.length = 1) (hK : K (.ptr id 0 0) (setM M id (some ⟨[.sp id t :: cs], cs.length + 1⟩))) :
    OpW P B ⟨dst, .alloc t, ty, pos, after, guard⟩ σ M id K := by
  refine opw_on hK fun ac w F ν hok hid hm => ?_
  obtain ⟨z, hz1, vs, hv, hcs, h1⟩ := zcells_run hz w
  have ok1 := hok.allocs (.cells vs.toArray t)
  have hlen : vs.length = cs.length + 1 := by have := congrArg List.length hcs; simpa using this.symm
  let k : Blk := ⟨w.heap.size, cs.length + 1, vs.toArray.size, false, t⟩
  have hsz : vs.toArray.size = cs.length + 1 := by simp [hlen]
  have hat : ObAt F (setN ν id k) (w.alloc (.cells vs.toArray t)) ⟨[.sp id t :: cs], cs.length + 1⟩ k := by
    refine .inl ⟨rfl, vs.toArray, t, (0, 0), heap_new w _, ⟨rfl, rfl⟩, fun x _ => by simp, rfl, fun i el hi => by cases i <;> simp at hi; subst hi; rfl, by simp [k, hsz], fun i el j u hi hj => ?_⟩
    cases i <;> simp at hi
    subst hi
    cases vs with
    | nil => simp at hlen
    | cons v vs =>
      simp at hcs
      obtain ⟨rfl, rfl⟩ := hcs
      cases j with
      | zero =>
        simp at hj
        subst hj
        exact ⟨rfl, _, by simp, .sp id t k none (by simp [setN]) ⟨rfl, by simp [k, hlen, h2]⟩ (.inl rfl)⟩
      | succ j =>
        simp only [List.getElem?_cons_succ, List.getElem?_map] at hj
        cases hy : vs[j]? with
        | none => simp [hy] at hj
        | some y =>
          simp [hy] at hj
          subst hj
          exact ⟨rfl, y, by simp [hy], .val y (h1 y (by simp [List.mem_of_getElem? hy]))⟩
  have hat0 : ObAt F ν (w.alloc (.cells vs.toArray t)) ⟨[vs.map .val], cs.length + 1⟩ k := by
    refine .inl ⟨rfl, vs.toArray, t, (0, 0), heap_new w _, ⟨rfl, rfl⟩, fun x _ => by simp, rfl, fun i el hi => by cases i <;> simp at hi; subst hi; simp [hlen], by simp [k, hsz], fun i el j u hi hj => ?_⟩
    cases i <;> simp at hi
    subst hi
    rw [List.getElem?_map] at hj
    cases hy : vs[j]? with
    | none => simp [hy] at hj
    | some y =>
      simp [hy] at hj
      subst hj
      exact ⟨rfl, y, by simpa using hy, .val y (h1 y (List.mem_of_getElem? hy))⟩
  obtain ⟨ok2, hle⟩ := ok1.new (id := id) (k := k) hid (fun _ => hok.noF (Nat.le_refl _)) (fun _ => hok.notOb (Nat.le_refl _)) (fun _ => .inr hok.size) hat0
  have ok3 := ok2.world (w' := w.alloc (.cells vs.toArray t)) rfl rfl rfl (Nat.le_refl _) (id := id) (setM_same _ _ _) (k := k) (by simp [setN]) rfl (fun _ _ _ => rfl) hat
  have eM : setM (setM M id (some ⟨[vs.map .val], cs.length + 1⟩)) id (some ⟨[.sp id t :: cs], cs.length + 1⟩) = setM M id (some ⟨[.sp id t :: cs], cs.length + 1⟩) := by
    funext x
    simp only [setM_at]
    split <;> rfl
  rw [eM] at ok3
  refine ⟨.value (.pointer (some ⟨w.heap.size, 0, none⟩)), .pointer (some ⟨w.heap.size, 0, none⟩), _, F, _, by simp [execOp, Instr.alloc, newVar, newRow, hv, hz1], .inl rfl, ok3, Fz.le_refl _, hle, setN_other, ?_⟩
  have := Rel.ptr (F := F) (ν := setN ν id k) id 0 0 k (by simp [setN])
  simpa using this
end

/-- The cells of a builder; what it holds. -/
def bO (s k n T e : Nat) : Ob := ⟨[[.sp s T, .owt k n e]], 2⟩
section
variable {G : Rg} {os : List Oper} {i : Nat} {σ σ' : Nat → V} {M M' : Hp} {u : V} {ds : List Yd}
variable {d : Option Nat} {ty : Nat} {pos : String} {aft : Array Edge} {g : Option (Nat × Bool)} {x y : Operand} {t : Nat}
theorem x_alB {cs : List V} (Z : zcells G.P t = some (.val (.pointer none) :: cs)) (h2 : cs.length = 1) (c : Ck G ⟨d, .alloc t, ty, pos, aft, g⟩ i σ [(G.n0 + i, some ⟨[.sp (G.n0 + i) t :: cs], cs.length + 1⟩)]) (r : Lx G os (i + 1) (upd σ d (.ptr (G.n0 + i) 0 0)) (setM M (G.n0 + i) (some ⟨[.sp (G.n0 + i) t :: cs], cs.length + 1⟩)) ds σ' M') : Lx G (⟨d, .alloc t, ty, pos, aft, g⟩ :: os) i σ M (⟨.ptr (G.n0 + i) 0 0, [(G.n0 + i, some ⟨[.sp (G.n0 + i) t :: cs], cs.length + 1⟩)]⟩ :: ds) σ' M' :=
  lx_on c (fun _ _ _ => w_alB Z h2 ⟨rfl, rfl⟩) r
/-- append to a builder's bytes: bytes; a text. -/
theorem x_apT {e b id T : Nat} {l1 l2 l3 : Str} (hT : elOf G.P t = some T) (hs : szOf G.P T = some 1) (hb : bytOf G.P T = some b) (hz : ∃ zs, zcells G.P T = some zs ∧ zs.length = 1) (hx : ev σ x = .owt id l1.length T) (hm : hideL (G.h i) M id = some (ob l1)) (hy : vels (hideL (G.h i) M) 1 (ev σ y) = some (l2.map enc)) (h : appO b l1 l2 = some l3) (he : T = e)
    (c : Ck G ⟨d, .call ⟨.builtin .append, #[x, y], #[t, t]⟩, ty, pos, aft, g⟩ i σ [(id, none), (G.n0 + i, some (ob l3))])
    (r : Lx G os (i + 1) (upd σ d (.owt (G.n0 + i) l3.length e)) (setM (setM M id none) (G.n0 + i) (some (ob l3))) ds σ' M') :
    Lx G (⟨d, .call ⟨.builtin .append, #[x, y], #[t, t]⟩, ty, pos, aft, g⟩ :: os) i σ M (⟨.owt (G.n0 + i) l3.length e, [(id, none), (G.n0 + i, some (ob l3))]⟩ :: ds) σ' M' := by
  obtain ⟨h1, rfl⟩ := okO_inv h
  obtain ⟨zs, hz, hzl⟩ := hz
  subst he
  have hf := fitB_iff.1 h1
  have el : (ob l1).els.length = l1.length := by simp [ob]
  refine lx_on c (fun M2 M3 hs' => w_appendT (o := ob l1) (els2 := l2.map enc) hT hT hs hb hz hzl (by rw [ev_see (by simp [Op.operands, Call.operands]), hx, el]) (hs' _ _ hm) rfl rfl (by rw [ev_see (by simp [Op.operands, Call.operands])]; exact vels_mono hs' hy) (by rw [el, List.length_map]; exact hf.1) (by rw [el, List.length_map]; exact hf.2) (by decide) ⟨by simp [ob], ?_⟩) r
  simp [dropM, ob, app]
  rfl
theorem x_apTS {e b id T t' : Nat} {l1 l2 l3 : Str} (hT : elOf G.P t = some T) (hs : szOf G.P T = some 1) (hb : bytOf G.P T = some b) (hz : ∃ zs, zcells G.P T = some zs ∧ zs.length = 1) (S : isStr G.P t' = true) (hx : ev σ x = .owt id l1.length T) (hm : hideL (G.h i) M id = some (ob l1)) (hy : ev σ y = tx l2) (h : appO b l1 l2 = some l3) (he : T = e)
    (c : Ck G ⟨d, .call ⟨.builtin .append, #[x, y], #[t, t']⟩, ty, pos, aft, g⟩ i σ [(id, none), (G.n0 + i, some (ob l3))])
    (r : Lx G os (i + 1) (upd σ d (.owt (G.n0 + i) l3.length e)) (setM (setM M id none) (G.n0 + i) (some (ob l3))) ds σ' M') :
    Lx G (⟨d, .call ⟨.builtin .append, #[x, y], #[t, t']⟩, ty, pos, aft, g⟩ :: os) i σ M (⟨.owt (G.n0 + i) l3.length e, [(id, none), (G.n0 + i, some (ob l3))]⟩ :: ds) σ' M' := by
  obtain ⟨h1, rfl⟩ := okO_inv h
  obtain ⟨zs, hz, hzl⟩ := hz
  subst he
  have hf := fitB_iff.1 h1
  have el : (ob l1).els.length = l1.length := by simp [ob]
  have sl : (⟨l2.toArray⟩ : ByteArray).size = l2.length := by simp [ByteArray.size]
  refine lx_on c (fun M2 M3 hs' => w_appendTS (o := ob l1) (s := ⟨l2.toArray⟩) hT (isStr_und S) hs hb hz hzl (by rw [ev_see (by simp [Op.operands, Call.operands]), hx, el]) (hs' _ _ hm) rfl rfl (by rw [ev_see (by simp [Op.operands, Call.operands])]; exact hy) (by rw [sl, el]; exact hf.1) (by rw [sl, el]; exact hf.2) ⟨by simp [ob, ByteArray.size], ?_⟩) r
  simp [dropM, ob, app]
  rfl
theorem x_sd {t e id T : Nat} {l : Str} (D : G.P.underlying ty = some (.pointer e)) (hx : ev σ x = .owt id l.length T) (hm : hideL (G.h i) M id = some (ob l)) (c : Ck G ⟨d, .call ⟨.builtin .unsafeSliceData, #[x], #[t]⟩, ty, pos, aft, g⟩ i σ []) (r : Lx G os (i + 1) (upd σ d (sdV id l.length T)) M ds σ' M') :
    Lx G (⟨d, .call ⟨.builtin .unsafeSliceData, #[x], #[t]⟩, ty, pos, aft, g⟩ :: os) i σ M (⟨sdV id l.length T, []⟩ :: ds) σ' M' :=
  lx_on c (fun _ _ hs => w_sd D (by rw [ev_see (by simp [Op.operands, Call.operands])]; exact hx) (hs _ _ hm) ⟨rfl, rfl⟩) r
theorem x_us {pt it e id T : Nat} {l : Str} (D : G.P.underlying pt = some (.pointer e)) (hc : G.P.cellsOf e = 1) (hTe : T = e) (hmx : Nat.ble l.length 9223372036854775807 = true) (hx : ev σ x = sdV id l.length T) (hy : ev σ y = i64 l.length) (hm : hideL (G.h i) M id = some (ob l)) (c : Ck G ⟨d, .call ⟨.builtin .unsafeString, #[x, y], #[pt, it]⟩, ty, pos, aft, g⟩ i σ [(id, none)]) (r : Lx G os (i + 1) (upd σ d (tx l)) (setM M id none) ds σ' M') :
    Lx G (⟨d, .call ⟨.builtin .unsafeString, #[x, y], #[pt, it]⟩, ty, pos, aft, g⟩ :: os) i σ M (⟨tx l, [(id, none)]⟩ :: ds) σ' M' :=
  lx_on c (fun _ _ hs => w_us D hc hTe (by simpa using hmx) (by rw [ev_see (by simp [Op.operands, Call.operands])]; exact hx) (by rw [ev_see (by simp [Op.operands, Call.operands])]; exact hy) (hs _ _ hm) ⟨rfl, rfl⟩) r
end
end Go.Ka
namespace Go.Ka
open Go.RowKit
variable [Tab]

theorem Ok.rename {w0 w : World} {F0 F : Fz} {D1 D2 : Nat → Prop} {ν1 ν2 : Nu} {M1 M2 : Hp} (h : Ok ⟨w0, F0, D1⟩ F ν1 M1 w) (hD : ∀ b, D1 b ↔ D2 b) (ρ : Nat → Nat)
    (hm : ∀ x o, M2 x = some o → ∃ o1, M1 (ρ x) = some o1 ∧ ν2 x = ν1 (ρ x) ∧ o1.sz = o.sz ∧ o1.els = o.els.map (List.map (ren ρ)) ∧ ∀ el ∈ o.els, ∀ u ∈ el, ∀ y, u.names y → ν2 y = ν1 (ρ y))
    (hinj : ∀ x y o o', M2 x = some o → M2 y = some o' → ρ x = ρ y → x = y) : Ok ⟨w0, F0, D2⟩ F ν2 M2 w := by
  refine ⟨h.fz, fun x o hx => ?_, fun x y o o' k k' hx hy hne hkx hky => ?_, ⟨h.below.os, h.below.tape, h.below.output, h.below.size, fun b hb hd => h.below.block b hb fun h1 => hd ((hD b).1 h1)⟩, fun x o k hx hkx hv => ?_, h.tab, fun b o hb hd => h.ice b o hb fun h1 => hd ((hD b).1 h1)⟩
  · obtain ⟨o1, h1, h2, h3, h4, h5⟩ := hm x o hx
    obtain ⟨k, hk, hat, hf⟩ := h.ob _ _ h1
    refine ⟨k, h2.trans hk, ?_, hf⟩
    have at1 : ∀ {i : Nat} {el : List V}, o.els[i]? = some el → o1.els[i]? = some (el.map (ren ρ)) := fun hi => by rw [h4, List.getElem?_map, hi]; rfl
    have hlen : o1.els.length = o.els.length := by rw [h4, List.length_map]
    rcases hat with ⟨hv, cur, ty, fr, g1, ⟨g2, gty⟩, g3, g4, g5, g6, g7⟩ | ⟨hv, g1, g2, g3⟩
    · refine .inl ⟨hv, cur, ty, fr, g1, ⟨g2, gty⟩, g3, g4.trans h3, fun i el hi => ?_, by rw [← hlen, ← h3]; exact g6, fun i el j u a b => ?_⟩
      · have := g5 i _ (at1 hi)
        rw [List.length_map] at this
        rw [this, h3]
      · obtain ⟨hc, v, hv, hr⟩ := g7 i _ j (ren ρ u) (at1 a) (by rw [List.getElem?_map, b]; rfl)
        rw [ren_cell] at hc
        exact ⟨hc, v, by rw [← h3]; exact hv, hr.unren u rfl fun y hy => h5 el (List.mem_of_getElem? a) u (List.mem_of_getElem? b) y hy⟩
    · exact .inr ⟨hv, g1, g2.trans h3, List.eq_nil_of_length_eq_zero (by rw [← hlen, g3]; rfl)⟩
  · obtain ⟨o1, h1, h2, _⟩ := hm x o hx
    obtain ⟨o2, g1, g2, _⟩ := hm y o' hy
    exact h.inj _ _ o1 o2 k k' h1 g1 (fun e => hne (hinj x y o o' hx hy e)) (h2 ▸ hkx) (g2 ▸ hky)
  · obtain ⟨o1, h1, h2, _⟩ := hm x o hx
    exact (h.live _ o1 k h1 (h2 ▸ hkx) hv).imp (hD _).1 id

theorem hl_two {a b x : Nat} {o p q : Ob} (h : hl [(a, o), (b, p)] x = some q) : (x = a ∧ q = o) ∨ (x ≠ a ∧ x = b ∧ q = p) := by
  rw [hl_cons] at h
  split at h
  · rename_i e; cases h; exact .inl ⟨e, rfl⟩
  · rename_i e
    obtain ⟨h1, h2⟩ := hl_one h
    exact .inr ⟨e, h1, h2⟩
theorem bO_old {s k m T e n : Nat} (hs : s < n) (hk : k < n) : OldO n (bO s k m T e) := fun el hel u hu y hy => by
  simp only [bO, List.mem_singleton] at hel
  subst hel
  simp only [List.mem_cons, List.not_mem_nil, or_false] at hu
  rcases hu with rfl | rfl
  · cases hy; exact hs
  · cases hy; exact hk
theorem nfo_old {o : Ob} (h : NFO o) (n : Nat) : OldO n o := fun el hel u hu => (h el hel u hu).old n
theorem old_ptr {n s : Nat} (h : s < n) : Old n (.ptr s 0 0) := fun y hy => by cases hy; exact h

/-- A writer's contract, by any numbers. -/
theorem fx_b {P : Program} {f T e j : Nat} {us : List V} {u : V} {l l' : Str} (hus : ∀ x ∈ us, NF x) (hu : NF u)
    (h : FS P f (.ptr 0 0 0 :: us) (hl [(0, bO 0 1 l.length T e), (1, ob l)]) 2 u [(0, some (bO 0 j l'.length T e)), (1, none), (j, some (ob l'))]) (hj : 2 ≤ j) {s k n : Nat} (hs : Nat.blt s n = true) (hk : Nat.blt k n = true) (hne : Nat.beq s k = false) :
    Fx P f (.ptr s 0 0 :: us) (hl [(s, bO s k l.length T e), (k, ob l)]) n u [(s, some (bO s n l'.length T e)), (k, none), (n, some (ob l'))] := by
  have hs : s < n := by simpa using hs
  have hk : k < n := by simpa using hk
  have hne : s ≠ k := fun e => by subst e; simp at hne
  have es_at : ∀ x o, app [(s, some (bO s n l'.length T e)), (k, none), (n, some (ob l'))] (hl [(s, bO s k l.length T e), (k, ob l)]) x = some o → (x = n ∧ o = ob l') ∨ (x = s ∧ o = bO s n l'.length T e) := fun x o hx => by
    simp only [app, setM_at] at hx
    split at hx
    · cases hx; rename_i h; exact .inl ⟨h, rfl⟩
    · split at hx
      · cases hx
      · split at hx
        · cases hx; rename_i h; exact .inr ⟨h, rfl⟩
        · rcases hl_two hx with ⟨h1, h2⟩ | ⟨_, h1, h2⟩ <;> contradiction
  refine ⟨fun x hx => ?_, fun x o hx => ?_, fun q hq => ?_, fun x o hx => ?_, hu.old _, fun w F ν args hok hn hlen hr => ?_⟩
  · rcases List.mem_cons.1 hx with rfl | hx
    · exact old_ptr hs
    · exact (hus x hx).old n
  · rcases hl_two hx with ⟨rfl, rfl⟩ | ⟨_, rfl, rfl⟩
    · exact ⟨hs, bO_old hs hk⟩
    · exact ⟨hk, nfo_old nfob n⟩
  · simp only [List.mem_cons, List.not_mem_nil, or_false] at hq
    rcases hq with rfl | rfl | rfl
    · exact .inl ⟨hs, by simp [hl_cons]⟩
    · exact .inl ⟨hk, by simp [hl_cons, hne.symm]⟩
    · exact .inr rfl
  · rcases es_at x o hx with ⟨rfl, rfl⟩ | ⟨rfl, rfl⟩
    · exact nfo_old nfob _
    · exact bO_old (by omega) (by omega)
  · let ρ : Nat → Nat := fun y => if y = 0 then s else k
    let νc : Nu := fun y => if y = 0 then ν s else if y = 1 then ν k else none
    let Mc : Hp := hl [(0, bO 0 1 l.length T e), (1, ob l)]
    have c0 : νc 0 = ν s := rfl
    have c1 : νc 1 = ν k := rfl
    have hDD : ∀ b, own0 ν (hl [(s, bO s k l.length T e), (k, ob l)]) b ↔ own0 νc Mc b := fun b => by
      constructor
      · rintro ⟨x, o, kb, h1, h2, h3, h4⟩
        rcases hl_two h1 with ⟨rfl, rfl⟩ | ⟨_, rfl, rfl⟩
        · exact ⟨0, _, kb, by simp [Mc, hl_cons]; rfl, h2, h3, h4⟩
        · exact ⟨1, _, kb, by simp [Mc, hl_cons]; rfl, h2, h3, h4⟩
      · rintro ⟨x, o, kb, h1, h2, h3, h4⟩
        rcases hl_two h1 with ⟨rfl, rfl⟩ | ⟨_, rfl, rfl⟩
        · exact ⟨s, _, kb, by simp [hl_cons]; rfl, h2, h3, h4⟩
        · exact ⟨k, _, kb, by simp [hl_cons, hne.symm]; rfl, h2, h3, h4⟩
    have okc : Ok ⟨w, F, own0 νc Mc⟩ F νc Mc w := hok.rename hDD ρ (fun x o hx => by
      rcases hl_two hx with ⟨rfl, rfl⟩ | ⟨_, rfl, rfl⟩
      · refine ⟨bO s k l.length T e, by simp [ρ, hl_cons], rfl, rfl, by simp [bO, ren, ρ], fun el hel u hu y hy => ?_⟩
        simp only [bO, List.mem_singleton] at hel
        subst hel
        simp only [List.mem_cons, List.not_mem_nil, or_false] at hu
        rcases hu with rfl | rfl <;> cases hy
        · rfl
        · rfl
      · refine ⟨ob l, by simp [ρ, hl_cons, hne.symm], rfl, rfl, ?_, fun el hel u hu y hy => absurd hy (nfob el hel u hu y)⟩
        simp only [ob, List.map_map]
        refine List.map_congr_left fun a _ => ?_
        rfl) (fun x y o o' hx hy h => by
      rcases hl_two hx with ⟨rfl, _⟩ | ⟨_, rfl, _⟩ <;> rcases hl_two hy with ⟨rfl, _⟩ | ⟨_, rfl, _⟩ <;> simp [ρ] at h ⊢
      · exact hne h
      · exact hne h.symm)
    refine (h w F νc args okc (fun y hy => by show (if y = 0 then _ else if y = 1 then _ else _) = _; rw [if_neg (by omega), if_neg (by omega)]) (by simpa using hlen) (fun j v u hv hu => ?_)).mono fun e' w' hx => ?_
    · cases j with
      | zero =>
        simp at hu
        subst hu
        exact (hr 0 v (.ptr s 0 0) hv rfl).unren (ρ := ρ) _ (by simp [ren, ρ]) fun y hy => by cases hy; rfl
      | succ j =>
        have hu' : us[j]? = some u := by simpa using hu
        exact (hr (j + 1) v u hv (by simpa using hu')).nf (hus u (List.mem_of_getElem? hu'))
    · obtain ⟨v, F', ν', rfl, ok', hF, hold, hrel⟩ := hx
      let ν2 : Nu := fun x => if x = n then ν' j else ν x
      have n2 : ν2 n = ν' j := if_pos rfl
      have s2 : ν2 s = ν' 0 := by
        show (if s = n then _ else _) = _
        rw [if_neg (by omega), hold 0 (by omega)]
        rfl
      refine ⟨v, F', ν2, rfl, ?_, hF, fun x hx => if_neg (by omega), hrel.nf hu⟩
      have hj0 : j ≠ 0 := by omega
      have hj1 : j ≠ 1 := by omega
      refine Ok.rename ok' (fun b => (hDD b).symm) (fun x => if x = n then j else 0) (fun x o hx => ?_) (fun x y o o' hx hy h => ?_)
      · rcases es_at x o hx with ⟨rfl, rfl⟩ | ⟨rfl, rfl⟩
        · refine ⟨ob l', by simp [app, setM_at], by simp [n2], rfl, ?_, fun el hel u hu y hy => absurd hy (nfob el hel u hu y)⟩
          simp only [ob, List.map_map]
          refine List.map_congr_left fun a _ => ?_
          rfl
        · have hxn : x ≠ n := by omega
          refine ⟨bO 0 j l'.length T e, by simp [app, setM_at, hxn, hj0.symm], by simp [hxn, s2], rfl, by simp [bO, ren, hxn], fun el hel u hu y hy => ?_⟩
          simp only [bO, List.mem_singleton] at hel
          subst hel
          simp only [List.mem_cons, List.not_mem_nil, or_false] at hu
          rcases hu with rfl | rfl <;> cases hy
          · simp [hxn, s2]
          · simp [n2]
      · rcases es_at x o hx with ⟨rfl, _⟩ | ⟨rfl, _⟩ <;> rcases es_at y o' hy with ⟨rfl, _⟩ | ⟨rfl, _⟩ <;> simp at h ⊢
        · have : y ≠ x := by omega
          simp [this] at h
          omega
        · have : x ≠ y := by omega
          simp [this] at h
          omega

/-- copyCheck: a builder knows its own address from then on. -/
theorem fx_cc {P : Program} {f T e : Nat} (h0 : ∀ (b : Nat) (w : World), w.cell? ⟨b, 0, none⟩ = some (.pointer (some ⟨b, 0, none⟩)) → Calls P f #[.pointer (some ⟨b, 0, none⟩)] w fun e w' => e = .returned (.tuple #[]) ∧ w' = w)
    (h1 : ∀ (b : Nat) (w : World), w.cell? ⟨b, 0, none⟩ = some (.pointer none) → w.shape? b = some (T, 2) → w.frozen? ⟨b, 0, none⟩ = false → Calls P f #[.pointer (some ⟨b, 0, none⟩)] w fun e w' => e = .returned (.tuple #[]) ∧ w' = w.setCell ⟨b, 0, none⟩ (.pointer (some ⟨b, 0, none⟩)))
    {s k m n : Nat} (hs : Nat.blt s n = true) (hk : Nat.blt k n = true) : Fx P f [.ptr s 0 0] (hl [(s, bO s k m T e)]) n (.tup []) [(s, some (bO s k m T e))] := by
  have hs : s < n := by simpa using hs
  have hk : k < n := by simpa using hk
  refine ⟨fun x hx => by rw [List.mem_singleton.1 hx]; exact old_ptr hs, fun x o hx => ?_, fun q hq => ?_, fun x o hx => ?_, (NF.tup nfn).old _, fun w F ν args hok hn hlen hr => ?_⟩
  · obtain ⟨rfl, rfl⟩ := hl_one hx
    exact ⟨hs, bO_old hs hk⟩
  · rw [List.mem_singleton.1 hq]
    exact .inl ⟨hs, by simp [hl_cons]⟩
  · simp only [app, setM_at] at hx
    split at hx
    · cases hx; exact bO_old (by omega) (by omega)
    · obtain ⟨rfl, rfl⟩ := hl_one hx
      exact bO_old (by omega) (by omega)
  · obtain ⟨K, hK, hat, hFk⟩ := hok.ob s _ hl_at
    match args, hlen with
    | [a], _ =>
      have ha := hr 0 a (.ptr s 0 0) rfl rfl
      cases ha with
      | ptr _ _ _ K' hK' =>
        rw [hK] at hK'
        cases hK'
        have hv : K.vt = false := (hat.real (i := 0) (el := [.sp s T, .owt k m e]) rfl).1
        obtain ⟨cur, ty, fr, g1, ⟨g2, gty⟩, g3, g4, g5, g6, g7⟩ := hat.realV hv
        obtain ⟨_, v0, hv0, hr0⟩ := g7 0 [.sp s T, .owt k m e] 0 (.sp s T) rfl rfl
        obtain ⟨_, v1, hv1, hr1⟩ := g7 0 [.sp s T, .owt k m e] 1 (.owt k m e) rfl rfl
        have hv0 : cur[0]? = some v0 := by simpa using hv0
        have hv1 : cur[1]? = some v1 := by simpa [bO] using hv1
        have hz : 0 * K.sz + 0 = 0 := by omega
        rw [hz]
        have c0 : w.cell? ⟨K.b, 0, none⟩ = some v0 := by rw [cell_at g1]; exact hv0
        have eM : app [(s, some (bO s k m T e))] (hl [(s, bO s k m T e)]) = setM (hl [(s, bO s k m T e)]) s (some (bO s k m T e)) := rfl
        cases hr0 with
        | sp _ _ K2 p hK2 hT hp =>
          rw [hK] at hK2
          cases hK2
          rcases hp with rfl | rfl
          · refine (h1 K.b w c0 (by simp [World.shape?, g1, gty, hT.1, g2, hT.2]) ?_).mono fun e' w' hx => ?_
            · simp only [World.frozen?, g1]
              have := g3 0 (by rw [hT.2]; omega)
              simp only [Bool.and_eq_false_iff, decide_eq_false_iff_not]
              omega
            · obtain ⟨rfl, rfl⟩ := hx
              have hb' : (w.setCell ⟨K.b, 0, none⟩ (.pointer (some ⟨K.b, 0, none⟩))).heap[K.b]? = some (.cells (cur.setIfInBounds 0 (.pointer (some ⟨K.b, 0, none⟩))) ty fr) := by
                show (w.heap.modify K.b _)[K.b]? = _
                rw [Array.getElem?_modify, if_pos rfl, g1]
                rfl
              refine ⟨_, F, ν, rfl, ?_, Fz.le_refl _, fun _ _ => rfl, .tup [] [] rfl (fun j v u h => by simp at h)⟩
              rw [eM]
              refine hok.world (w' := w.setCell ⟨K.b, 0, none⟩ (.pointer (some ⟨K.b, 0, none⟩))) rfl rfl rfl (by show _ ≤ (w.heap.modify K.b _).size; simp) hl_at hK hv (fun b hb hne => ?_) (.inl ⟨hv, _, ty, fr, hb', ⟨by simp [g2], gty⟩, g3, g4, g5, g6, fun i el j u hi hj => ?_⟩)
              · show (w.heap.modify K.b _)[b]? = _
                rw [Array.getElem?_modify, if_neg (Ne.symm hne)]
              · obtain ⟨hc, v, hv', hr'⟩ := g7 i el j u hi hj
                cases i with
                | succ i => simp [bO] at hi
                | zero =>
                  have hi : el = [.sp s T, .owt k m e] := by simpa [bO] using hi.symm
                  subst hi
                  have hsz0 : 0 < cur.size := (Array.getElem?_eq_some_iff.1 hv0).1
                  cases j with
                  | zero =>
                    have hj : u = .sp s T := by simpa using hj.symm
                    subst hj
                    exact ⟨rfl, _, by simp [hsz0], .sp s T K _ hK hT (.inr rfl)⟩
                  | succ j =>
                    refine ⟨hc, v, ?_, hr'⟩
                    rw [Array.getElem?_setIfInBounds, if_neg (by omega)]
                    exact hv'
          · refine (h0 K.b w c0).mono fun e' w' hx => ?_
            obtain ⟨rfl, rfl⟩ := hx
            refine ⟨_, F, ν, rfl, ?_, Fz.le_refl _, fun _ _ => rfl, .tup [] [] rfl (fun j v u h => by simp at h)⟩
            rw [eM]
            exact hok.world rfl rfl rfl (Nat.le_refl _) hl_at hK hv (fun _ _ _ => rfl) hat
theorem subB {M : Hp} {a a' b b' : Ob} {j : Nat} (h0 : M 0 = some a) (hj : M j = some b) : Sub (app [(0, some a), (1, none), (j, some b)] (hl [(0, a'), (1, b')])) M := fun x o hx => by
  simp only [app, setM_at] at hx
  split at hx
  · rename_i e; subst e; cases hx; exact hj
  · split at hx
    · cases hx
    · split at hx
      · rename_i e; subst e; cases hx; exact h0
      · rcases hl_two hx with ⟨h1, h2⟩ | ⟨_, h1, h2⟩ <;> contradiction
theorem subR {M : Hp} {a' b' : Ob} : Sub (app [(0, none), (1, none)] (hl [(0, a'), (1, b')])) M := fun x o hx => by
  simp only [app, setM_at] at hx
  split at hx
  · cases hx
  · split at hx
    · cases hx
    · rcases hl_two hx with ⟨h1, h2⟩ | ⟨_, h1, h2⟩ <;> contradiction
theorem fx_bs {P : Program} {f T e : Nat} {us : List V} {u : V} {l : Str} (hus : ∀ x ∈ us, NF x) (hu : NF u)
    (h : FS P f (.ptr 0 0 0 :: us) (hl [(0, bO 0 1 l.length T e), (1, ob l)]) 2 u [(0, none), (1, none)]) {s k n : Nat} (hs : Nat.blt s n = true) (hk : Nat.blt k n = true) (hne : Nat.beq s k = false) :
    Fx P f (.ptr s 0 0 :: us) (hl [(s, bO s k l.length T e), (k, ob l)]) n u [(s, none), (k, none)] := by
  have hs : s < n := by simpa using hs
  have hk : k < n := by simpa using hk
  have hne : s ≠ k := fun e => by subst e; simp at hne
  have es_at : ∀ x o, app [(s, none), (k, none)] (hl [(s, bO s k l.length T e), (k, ob l)]) x = some o → False := fun x o hx => by
    simp only [app, setM_at] at hx
    split at hx
    · cases hx
    · split at hx
      · cases hx
      · rcases hl_two hx with ⟨h1, h2⟩ | ⟨_, h1, h2⟩ <;> contradiction
  refine ⟨fun x hx => ?_, fun x o hx => ?_, fun q hq => ?_, fun x o hx => (es_at x o hx).elim, hu.old _, fun w F ν args hok hn hlen hr => ?_⟩
  · rcases List.mem_cons.1 hx with rfl | hx
    · exact old_ptr hs
    · exact (hus x hx).old n
  · rcases hl_two hx with ⟨rfl, rfl⟩ | ⟨_, rfl, rfl⟩
    · exact ⟨hs, bO_old hs hk⟩
    · exact ⟨hk, nfo_old nfob n⟩
  · simp only [List.mem_cons, List.not_mem_nil, or_false] at hq
    rcases hq with rfl | rfl
    · exact .inl ⟨hs, by simp [hl_cons]⟩
    · exact .inl ⟨hk, by simp [hl_cons, hne.symm]⟩
  · let ρ : Nat → Nat := fun y => if y = 0 then s else k
    let νc : Nu := fun y => if y = 0 then ν s else if y = 1 then ν k else none
    let Mc : Hp := hl [(0, bO 0 1 l.length T e), (1, ob l)]
    have c0 : νc 0 = ν s := rfl
    have c1 : νc 1 = ν k := rfl
    have hDD : ∀ b, own0 ν (hl [(s, bO s k l.length T e), (k, ob l)]) b ↔ own0 νc Mc b := fun b => by
      constructor
      · rintro ⟨x, o, kb, h1, h2, h3, h4⟩
        rcases hl_two h1 with ⟨rfl, rfl⟩ | ⟨_, rfl, rfl⟩
        · exact ⟨0, _, kb, by simp [Mc, hl_cons]; rfl, h2, h3, h4⟩
        · exact ⟨1, _, kb, by simp [Mc, hl_cons]; rfl, h2, h3, h4⟩
      · rintro ⟨x, o, kb, h1, h2, h3, h4⟩
        rcases hl_two h1 with ⟨rfl, rfl⟩ | ⟨_, rfl, rfl⟩
        · exact ⟨s, _, kb, by simp [hl_cons]; rfl, h2, h3, h4⟩
        · exact ⟨k, _, kb, by simp [hl_cons, hne.symm]; rfl, h2, h3, h4⟩
    have okc : Ok ⟨w, F, own0 νc Mc⟩ F νc Mc w := hok.rename hDD ρ (fun x o hx => by
      rcases hl_two hx with ⟨rfl, rfl⟩ | ⟨_, rfl, rfl⟩
      · refine ⟨bO s k l.length T e, by simp [ρ, hl_cons], rfl, rfl, by simp [bO, ren, ρ], fun el hel u hu y hy => ?_⟩
        simp only [bO, List.mem_singleton] at hel
        subst hel
        simp only [List.mem_cons, List.not_mem_nil, or_false] at hu
        rcases hu with rfl | rfl <;> cases hy
        · rfl
        · rfl
      · refine ⟨ob l, by simp [ρ, hl_cons, hne.symm], rfl, rfl, ?_, fun el hel u hu y hy => absurd hy (nfob el hel u hu y)⟩
        simp only [ob, List.map_map]
        refine List.map_congr_left fun a _ => ?_
        rfl) (fun x y o o' hx hy h => by
      rcases hl_two hx with ⟨rfl, _⟩ | ⟨_, rfl, _⟩ <;> rcases hl_two hy with ⟨rfl, _⟩ | ⟨_, rfl, _⟩ <;> simp [ρ] at h ⊢
      · exact hne h
      · exact hne h.symm)
    refine (h w F νc args okc (fun y hy => by show (if y = 0 then _ else if y = 1 then _ else _) = _; rw [if_neg (by omega), if_neg (by omega)]) (by simpa using hlen) (fun j v u hv hu => ?_)).mono fun e' w' hx => ?_
    · cases j with
      | zero =>
        simp at hu
        subst hu
        exact (hr 0 v (.ptr s 0 0) hv rfl).unren (ρ := ρ) _ (by simp [ren, ρ]) fun y hy => by cases hy; rfl
      | succ j =>
        have hu' : us[j]? = some u := by simpa using hu
        exact (hr (j + 1) v u hv (by simpa using hu')).nf (hus u (List.mem_of_getElem? hu'))
    · obtain ⟨v, F', ν', rfl, ok', hF, hold, hrel⟩ := hx
      exact ⟨v, F', ν, rfl, Ok.rename ok' (fun b => (hDD b).symm) (fun x => x) (fun x o hx => (es_at x o hx).elim) (fun x y o o' hx => (es_at x o hx).elim), hF, fun _ _ => rfl, hrel.nf hu⟩
theorem lenO_le {l : Str} {u : Unit} (h : lenO l = some u) : Nat.ble l.length 9223372036854775807 = true := by
  obtain ⟨h1, _⟩ := okO_inv h
  simpa using h1
end Go.Ka
namespace Go.Ka
open Go.RowKit

theorem tab_of_reads {P : Program} {W : World} {name : String} {k : IntKind} {zs : List Int} {g : Nat} {t e : TypeId} {n : Nat}
    (hg : P.globalNamed name = some g) (hty : (P.globals[g]?).map (·.type) = some t) (ht : P.underlying t = some (.array n e)) (he : P.underlying e = some (.int k)) (hce : P.cellsOf e = 1) (hct : P.cellsOf t = n)
    (h : Lib.VarReads P W name (Lib.tabData k zs)) : Lib.TabIs P W name k zs := by
  obtain ⟨g', t', cs, fuel, p, hg', ht', hvar, hd⟩ := h
  obtain rfl := Option.some.inj (hg.symm.trans hg')
  obtain rfl := Option.some.inj (hty.symm.trans ht')
  unfold Lib.TabIs
  rw [hvar, ← Lib.cells_of_tab ht he hce hct hd]
theorem iface_of_reads {P : Program} {W : World} {name nm : String} {d : DataW Unit} {g : Nat} {t : TypeId} {ms : Array (String × TypeId)}
    (hg : P.globalNamed name = some g) (hty : (P.globals[g]?).map (·.type) = some t) (hi : P.underlying t = some (.interface ms)) (h : Lib.VarReads P W name (.iface nm d)) : ∃ u v, W.cell? ⟨g, 0, none⟩ = some (.iface u v) := by
  obtain ⟨g', t', cs, fuel, p, hg', ht', hvar, hd⟩ := h
  obtain rfl := Option.some.inj (hg.symm.trans hg')
  obtain rfl := Option.some.inj (hty.symm.trans ht')
  obtain ⟨f1, u, v, hcs, _⟩ := iface_of_trod hi hd
  refine ⟨u, v, ?_⟩
  have := World.var?_cell hg hvar 0
  rw [this]
  have e : cs[0]? = cs.toList[0]? := by simp
  rw [e, hcs]
  rfl

/-- The tables of a world: these cells, these blocks. -/
@[reducible] def tabOf (W : World) (cs bs : List Nat) : Tab where
  T := fun b o => if b ∈ cs ∨ b ∈ bs then W.cell? ⟨b, o, none⟩ else none
  H := fun b => if b ∈ bs then (match W.heap[b]? with
    | some (.cells c t f) => if 0 < c.size then some (.cells c t f) else none
    | _ => none) else none
  hd := fun b o h => by
    split at h
    · rename_i hb
      split at h
      · rename_i c t f hh
        split at h
        · rename_i hc
          refine ⟨0, c[0], ?_⟩
          rw [if_pos (.inr hb)]
          simp [World.cell?, hh, hc]
        · cases h
      · cases h
    · cases h
theorem tabOf_cell {W w : World} {cs bs : List Nat} {b : Nat} (hb : b ∈ cs) (h : @TabOn (tabOf W cs bs) w) {o : Nat} {v : Value} (hv : W.cell? ⟨b, o, none⟩ = some v) : w.cell? ⟨b, o, none⟩ = some v :=
  h.1 b o v (by show (if b ∈ cs ∨ b ∈ bs then _ else _) = _; rw [if_pos (.inl hb)]; exact hv)
theorem tabOf_var {W w : World} {P : Program} {cs bs : List Nat} {name : String} {k : IntKind} {zs : List Int} {b : Nat} (hg : P.globalNamed name = some b) (hb : b ∈ bs) (hz : zs ≠ []) (h : @TabOn (tabOf W cs bs) w) (hv : Lib.TabIs P W name k zs) : Lib.TabIs P w name k zs := by
  unfold Lib.TabIs at hv ⊢
  simp only [World.var?, hg, Option.bind_some] at hv ⊢
  split at hv
  · rename_i c t f hh
    have hc : 0 < c.size := by
      cases hv
      cases zs with
      | nil => exact absurd rfl hz
      | cons z r => simp
    rw [h.2 b (.cells c t f) (by show (if b ∈ bs then _ else _) = _; rw [if_pos hb, hh]; simp [hc])]
    exact hv
  · cases hv
/-- Where a call from outside begins. -/
theorem ok_start (W : World) (cs bs : List Nat) : @Ok (tabOf W cs bs) ⟨W, (tabOf W cs bs).T, own0 ν0 M0⟩ (tabOf W cs bs).T ν0 M0 W := by
  letI := tabOf W cs bs
  refine ⟨fun b o v h => ?_, fun _ _ h => by simp [M0] at h, fun _ _ _ _ _ _ h => by simp [M0] at h, ⟨rfl, rfl, rfl, Nat.le_refl _, fun _ _ _ => rfl⟩, fun _ _ _ h => by simp [M0] at h, ⟨Fz.le_refl _, fun b o h => ?_⟩, fun _ _ _ _ => rfl⟩
  · have h : (if b ∈ cs ∨ b ∈ bs then W.cell? ⟨b, o, none⟩ else none) = some v := h
    split at h
    · exact h
    · cases h
  · have h : (if b ∈ bs then (match W.heap[b]? with
      | some (.cells c t f) => if 0 < c.size then some (.cells c t f) else none
      | _ => none) else none) = some o := h
    split at h
    · split at h
      · rename_i c t f hh
        split at h
        · show W.heap[b]? = _
          rw [hh]; exact h
        · cases h
      · cases h
    · cases h
/-- What a law's contract says of a call from outside, the arguments plain values. -/
theorem pu_calls {P : Program} {f : Nat} {W : World} {cs bs : List Nat} {vs : List Value} {v : Value} (h : @Pu (tabOf W cs bs) P f (vs.map .val) (.val v)) (hv : ∀ x ∈ vs, x.oneCell' = true) :
    Calls P f vs.toArray W fun e w' => e = .returned v ∧ Below W.heap.size W w' :=
  letI := tabOf W cs bs
  (h.run W (tabOf W cs bs).T ν0 vs (ok_start W cs bs) (fun _ _ => rfl) (by simp) (fun j x u hx hu => by
    simp only [List.getElem?_map] at hu
    rw [hx] at hu
    simp at hu
    subst hu
    exact .val x (hv x (List.mem_of_getElem? hx)))).mono fun e w' hx => by
  obtain ⟨x, F', ν', rfl, ok', _, _, hr⟩ := hx
  rw [rel_val hr]
  exact ⟨rfl, ok'.below.os, ok'.below.tape, ok'.below.output, ok'.below.size, fun b hb => ok'.below.block b hb (fun ⟨_, _, _, h, _⟩ => by cases h)⟩
end Go.Ka
namespace Go.Ka
open Go.RowKit
open Enc (enc)
variable [Tab]

/-- All cells of a world. -/
def FW (W : World) : Fz := fun b o => W.cell? ⟨b, o, none⟩
def RelL (F : Fz) (cs : List Value) (us : List V) : Prop := cs.length = us.length ∧ ∀ (j : Nat) (v : Value) (u : V), cs[j]? = some v → us[j]? = some u → Rel F ν0 v u
theorem relL_one {F : Fz} {v : Value} {u : V} (h : Rel F ν0 v u) : RelL F [v] [u] := ⟨rfl, fun j v' u' hv hu => by
  cases j with
  | zero => simp at hv hu; subst hv; subst hu; exact h
  | succ j => simp at hv⟩
theorem relL_app {F : Fz} {cs ds : List Value} {us vs : List V} (h : RelL F cs us) (h' : RelL F ds vs) : RelL F (cs ++ ds) (us ++ vs) := by
  refine ⟨by simp [h.1, h'.1], fun j v u hv hu => ?_⟩
  by_cases hj : j < cs.length
  · rw [List.getElem?_append_left hj] at hv
    rw [List.getElem?_append_left (by rw [← h.1]; exact hj)] at hu
    exact h.2 j v u hv hu
  · rw [List.getElem?_append_right (by omega)] at hv
    rw [List.getElem?_append_right (by rw [← h.1]; omega), ← h.1] at hu
    exact h'.2 _ v u hv hu
/-- A type's cells read as a kind of plain values. -/
structure Rd (P : Program) (t : TypeId) (α : Type) (eA : α → List V) : Prop where
  rd : ∀ {H : Type} (ec : TypeId × Value → H) (W : World) (n : Nat) (cs : List Value) (x : DataW H × List MemPlace), DataW.trod ec P W 0 (fun _ => true) true n t cs = some x → ∃ a : α, RelL (FW W) cs (eA a)
section
variable {P : Program} {t e : TypeId}
theorem rd_str (ht : P.underlying t = some .string) : Rd P t Str enc := ⟨fun ec W n cs x h => by
  obtain ⟨s, rfl, _, _⟩ := DataW.trod_string ht h
  refine ⟨s.data.toList, relL_one ?_⟩
  have : (Value.string s) = str s.data.toList := by cases s; simp [str]
  rw [this]
  exact .val _ rfl⟩
theorem rd_bool (ht : P.underlying t = some .bool) : Rd P t Bool enc := ⟨fun ec W n cs x h => by
  obtain ⟨b, rfl, _⟩ := DataW.trod_bool ht h
  exact ⟨b, relL_one (.val _ rfl)⟩⟩
theorem rd_i64 (ht : P.underlying t = some (.int .i64)) : Rd P t Int enc := ⟨fun ec W n cs x h => by
  obtain ⟨z, rfl, _, _⟩ := DataW.trod_int ht h
  exact ⟨z, relL_one (.val _ rfl)⟩⟩
theorem rd_u8 (ht : P.underlying t = some (.int .u8)) : Rd P t UInt8 enc := ⟨fun ec W n cs x h => by
  obtain ⟨z, rfl, _, hw⟩ := DataW.trod_int ht h
  have h : 0 ≤ z ∧ z ≤ 255 := by simpa [Lit.wf, IntKind.min, IntKind.max, IntKind.signed, IntKind.bits] using hw
  refine ⟨UInt8.ofNat z.toNat, relL_one ?_⟩
  have : z = ((UInt8.ofNat z.toNat).toNat : Int) := by simp; omega
  conv => arg 3; rw [this]
  exact .val _ rfl⟩
theorem list_of {α : Type} (p : Nat → α → Prop) : ∀ (n : Nat), (∀ i, i < n → ∃ a, p i a) → ∃ l : List α, l.length = n ∧ ∀ i a, l[i]? = some a → p i a
  | 0, _ => ⟨[], rfl, fun i a h => by simp at h⟩
  | n + 1, h => by
    obtain ⟨l, hl, hp⟩ := list_of p n fun i hi => h i (by omega)
    obtain ⟨a, ha⟩ := h n (by omega)
    refine ⟨l ++ [a], by simp [hl], fun i b hb => ?_⟩
    by_cases hi : i < n
    · rw [List.getElem?_append_left (by omega)] at hb
      exact hp i b hb
    · rw [List.getElem?_append_right (by omega)] at hb
      have : i = n := by
        have := (List.getElem?_eq_some_iff.1 hb).1
        simp at this; omega
      subst this
      rw [hl, Nat.sub_self] at hb
      simp at hb
      subst hb
      exact ha
theorem addr_add (b o m : Nat) : (⟨b, o, none⟩ : Addr).add m = ⟨b, o + m, none⟩ := by
  unfold Addr.add
  split
  · rename_i h; subst h; rfl
  · rfl
theorem rd_list {α : Type} [Enc α] (ht : P.underlying t = some (.slice e)) (hc : P.cellsOf e = Enc.sz α) (h0 : 0 < Enc.sz α) (he : Rd P e α enc) : Rd P t (List α) (fun l => [ar l]) := ⟨fun ec W n cs x h => by
  rcases DataW.trod_slice ht h with ⟨rfl, _⟩ | ⟨a, len, cap, elems, rest, m, _, rfl, _, _, hlc, hm, hlen, hel, _, _⟩
  · exact ⟨[], relL_one (.arr none 0 0 (Enc.sz α) [] (fun _ _ => default) rfl (Nat.le_refl _) (by decide) (fun _ _ h => by simp at h) (fun _ _ _ _ h => by simp at h) (fun h => absurd rfl h) (fun _ _ _ _ h => by simp at h))⟩
  · obtain ⟨l, hl, hp⟩ := list_of (fun (i : Nat) (y : α) => ∃ ds, W.cells? 0 (a.add (i * P.cellsOf e)) (P.cellsOf e) = some ds ∧ RelL (FW W) ds (enc y)) len fun i hi => by
      have hx := hel i hi
      rw [List.getElem?_eq_getElem (by omega), Option.bind_eq_some_iff] at hx
      obtain ⟨ds, h1, h2⟩ := hx
      obtain ⟨y, hy⟩ := he.rd ec W m ds _ h2
      exact ⟨y, ds, h1, hy⟩
    obtain ⟨b, o, sp⟩ := a
    have hsp : len ≠ 0 → sp = none := fun hn => by
      obtain ⟨y, hy⟩ : ∃ y, l[0]? = some y := ⟨l[0], List.getElem?_eq_getElem (by omega)⟩
      obtain ⟨ds, h1, _⟩ := hp 0 y hy
      have h2 := (World.cells?_some h1)
      have h3 := h2.2.2 0 (by omega)
      rw [List.getElem?_eq_getElem (by omega)] at h3
      have := World.cell?_spot h3
      simpa [Addr.add] using this
    have key : ∀ (i : Nat) (y : α) (j : Nat) (u : V), l[i]? = some y → (enc y)[j]? = some u → ∃ v, W.cell? ⟨b, o + i * Enc.sz α + j, none⟩ = some v ∧ Rel (FW W) ν0 v u := fun i y j u hi hu => by
      obtain ⟨ds, h1, h2⟩ := hp i y hi
      have hn : len ≠ 0 := by have := (List.getElem?_eq_some_iff.1 hi).1; omega
      rw [hsp hn, hc, addr_add] at h1
      have h3 := World.cells?_some h1
      have hj : j < ds.length := by rw [h2.1]; exact (List.getElem?_eq_some_iff.1 hu).1
      have h4 := h3.2.2 j (by omega)
      rw [addr_add, List.getElem?_eq_getElem hj] at h4
      exact ⟨ds[j], h4, h2.2 j _ u (List.getElem?_eq_getElem hj) hu⟩
    have at_ : ∀ (i : Nat) (el : List V), (l.map enc)[i]? = some el → ∃ y, l[i]? = some y ∧ el = enc y := fun i el hi => by
      rw [List.getElem?_map] at hi
      cases hy : l[i]? with
      | none => rw [hy] at hi; cases hi
      | some y => rw [hy] at hi; cases hi; exact ⟨y, rfl, rfl⟩
    refine ⟨l, relL_one (.arr (some ⟨b, o, sp⟩) len cap (Enc.sz α) (l.map enc) (fun i j => (W.cell? ⟨b, o + i * Enc.sz α + j, none⟩).getD default) (by simpa using hl) hlc hm (fun i el hi => ?_) (fun i el j u hi hj => ?_) (fun hn => ⟨b, o, by rw [hsp hn], fun i el j u hi hj => ?_⟩) (fun i el j u hi hj => ?_))⟩
    · obtain ⟨y, _, rfl⟩ := at_ i el hi; exact Enc.len y
    · obtain ⟨y, _, rfl⟩ := at_ i el hi; exact Enc.cell y u (List.mem_of_getElem? hj)
    · obtain ⟨y, hy, rfl⟩ := at_ i el hi
      obtain ⟨v, hv, _⟩ := key i y j u hy hj
      show W.cell? _ = _
      rw [hv]; rfl
    · obtain ⟨y, hy, rfl⟩ := at_ i el hi
      obtain ⟨v, hv, hr⟩ := key i y j u hy hj
      rw [hv]; exact hr⟩
/-- The fields of a struct from one on. -/
structure RdF (P : Program) (tot : Nat) (fs : List Field) (off : Nat) (τ : Type) (eT : τ → List V) : Prop where
  rd : ∀ {H : Type} (ec : TypeId × Value → H) (W : World) (n : Nat) (cs : List Value), cs.length = tot → (∀ f ∈ fs, ∃ y, DataW.trod ec P W 0 (fun _ => true) true n f.type ((cs.drop f.offset).take (P.cellsOf f.type)) = some y) → ∃ a : τ, RelL (FW W) (cs.drop off) (eT a)
theorem rdF_nil {tot : Nat} : RdF P tot [] tot Unit fun _ => [] := ⟨fun {_} ec W n cs hl _ => ⟨(), by rw [List.drop_of_length_le (by omega)]; exact ⟨rfl, fun j v u h => by simp at h⟩⟩⟩
theorem rdF_cons {tot : Nat} {f : Field} {fs : List Field} {off off' s : Nat} {α τ : Type} {eA : α → List V} {eT : τ → List V} (ho : f.offset = off) (hc : P.cellsOf f.type = s) (hoff : off' = off + s) (h : Rd P f.type α eA) (h' : RdF P tot fs off' τ eT) :
    RdF P tot (f :: fs) off (α × τ) fun p => eA p.1 ++ eT p.2 := ⟨fun {_} ec W n cs hl hf => by
  obtain ⟨y, hy⟩ := hf f (by simp)
  obtain ⟨a, ha⟩ := h.rd ec W n _ y hy
  obtain ⟨b, hb⟩ := h'.rd ec W n cs hl fun g hg => hf g (by simp [hg])
  refine ⟨(a, b), ?_⟩
  rw [ho, hc] at ha
  have e : cs.drop off = (cs.drop off).take s ++ cs.drop off' := by rw [hoff, ← List.drop_drop, List.take_append_drop]
  rw [e]
  exact relL_app ha hb⟩
theorem rd_struct {l : List Field} {tot : Nat} {τ γ : Type} [Enc γ] {eT : τ → List V} (ht : P.underlying t = some (.struct l.toArray)) (hc : P.cellsOf t = tot) (hf : RdF P tot l 0 τ eT) (mk : τ → γ) (hmk : ∀ x, enc (mk x) = eT x) : Rd P t γ enc := ⟨fun ec W n cs x h => by
  obtain ⟨xs, m, _, _, hcs, hxs, hx⟩ := DataW.trod_struct ht h
  obtain ⟨a, ha⟩ := hf.rd ec W m cs (hcs.trans hc) fun f hf => by
    obtain ⟨i, hi⟩ := List.getElem?_of_mem hf
    have hi' : l.toArray[i]? = some f := by simpa using hi
    have := hx i f hi'
    have hlt : i < xs.length := by rw [hxs]; exact (Array.getElem?_eq_some_iff.1 hi').1
    rw [List.getElem?_eq_getElem hlt] at this
    exact ⟨_, this⟩
  exact ⟨mk a, by rw [hmk]; exact ha⟩⟩
end
section
variable {H : Type} {ec : TypeId × Value → H} {P : Program} {W : World} {t : TypeId} {v : Value} {d : DataW H} {ps : List MemPlace}
/-- An argument of one cell. -/
theorem arg_cell {α : Type} {u : α → V} (h : Rd P t α fun a => [u a]) (hc : v.cells.toList = [v]) (hd : DataW.Trod ec P W 0 (fun _ => true) true t v d ps) : ∃ a : α, Rel (FW W) ν0 v (u a) := by
  obtain ⟨n, hn⟩ := hd
  obtain ⟨a, ha⟩ := h.rd ec W n _ _ hn
  rw [hc] at ha
  exact ⟨a, ha.2 0 v (u a) rfl rfl⟩
/-- An argument that is a struct. -/
theorem arg_agg {α : Type} [Enc α] (h : Rd P t α enc) {cs : Array Value} (hv : v = .agg cs) (hd : DataW.Trod ec P W 0 (fun _ => true) true t v d ps) : ∃ a : α, Rel (FW W) ν0 v (.agg (enc a)) := by
  obtain ⟨n, hn⟩ := hd
  obtain ⟨a, ha⟩ := h.rd ec W n _ _ hn
  subst hv
  have e : (Value.agg cs).cells.toList = cs.toList := rfl
  rw [e] at ha
  refine ⟨a, ?_⟩
  have := Rel.agg (F := FW W) (ν := ν0) cs.toList (enc a) ha.1 (fun j u hu => Enc.cell a u (List.mem_of_getElem? hu)) ha.2
  simpa using this
end
/-- A string is its bytes. -/
theorem rel_str {F : Fz} {ν : Nu} (s : ByteArray) : Rel F ν (.string s) (tx s.data.toList) := by
  have : (Value.string s) = str s.data.toList := by cases s; simp [str]
  rw [this]
  exact .val _ rfl
/-- A slice is one cell. -/
theorem cells_slice {P : Program} {W : World} {t e : TypeId} {v : Value} (ht : P.underlying t = some (.slice e)) (h : Value.okWide P W .any 0 t v) : v.cells.toList = [v] := by
  unfold Value.okWide at h
  rw [ht] at h
  simp only [Cell.okWide, ht] at h
  cases v <;> first | rfl | (simp [Cell.ok, ht] at h)
theorem agg_struct {P : Program} {W : World} {t : TypeId} {fs : Array Field} {v : Value} (ht : P.underlying t = some (.struct fs)) (h : Value.okWide P W .any 0 t v) : ∃ cs, v = .agg cs := by
  unfold Value.okWide at h
  rw [ht] at h
  exact ⟨h.choose, h.choose_spec.1⟩
/-- Where a call from outside begins: nothing of what is there turns. -/
theorem ok_startW (W : World) (cs bs : List Nat) : @Ok (tabOf W cs bs) ⟨W, FW W, own0 ν0 M0⟩ (FW W) ν0 M0 W := by
  letI := tabOf W cs bs
  refine ⟨fun b o v h => h, fun _ _ h => by simp [M0] at h, fun _ _ _ _ _ _ h => by simp [M0] at h, ⟨rfl, rfl, rfl, Nat.le_refl _, fun _ _ _ => rfl⟩, fun _ _ _ h => by simp [M0] at h, ⟨fun b o v h => ?_, fun b o h => ?_⟩, fun _ _ _ _ => rfl⟩
  · have h : (if b ∈ cs ∨ b ∈ bs then W.cell? ⟨b, o, none⟩ else none) = some v := h
    split at h
    · exact h
    · cases h
  · have h : (if b ∈ bs then (match W.heap[b]? with
      | some (.cells c t f) => if 0 < c.size then some (.cells c t f) else none
      | _ => none) else none) = some o := h
    split at h
    · split at h
      · rename_i c t f hh
        split at h
        · show W.heap[b]? = _
          rw [hh]; exact h
        · cases h
      · cases h
    · cases h
/-- What a law's contract says of a call from outside. -/
theorem pu_callsW {P : Program} {f : Nat} {W : World} {cs bs : List Nat} {vs : List Value} {us : List V} {v : Value} (h : @Pu (tabOf W cs bs) P f us (.val v)) (hl : vs.length = us.length)
    (hr : ∀ (j : Nat) (x : Value) (u : V), vs[j]? = some x → us[j]? = some u → Rel (FW W) ν0 x u) :
    Calls P f vs.toArray W fun e w' => e = .returned v ∧ Below W.heap.size W w' :=
  letI := tabOf W cs bs
  (h.run W (FW W) ν0 vs (ok_startW W cs bs) (fun _ _ => rfl) hl hr).mono fun e w' hx => by
  obtain ⟨x, F', ν', rfl, ok', _, _, hr⟩ := hx
  rw [rel_val hr]
  exact ⟨rfl, ok'.below.os, ok'.below.tape, ok'.below.output, ok'.below.size, fun b hb => ok'.below.block b hb (fun ⟨_, _, _, h, _⟩ => by cases h)⟩
end Go.Ka
