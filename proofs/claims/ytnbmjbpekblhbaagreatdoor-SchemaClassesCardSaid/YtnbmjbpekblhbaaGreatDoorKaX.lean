/- Operations on values of known kinds: each a step of the text's order. -/
import Derived.Test.YtnbmjbpekblhbaaGreatDoorKaEnd
import Derived.Test.YtnbmjbpekblhbaaGreatDoorKaPure
set_option linter.all false
namespace Go.Ka
open Go.RowKit
variable [Tab]

/-- What a kind of plain values looks like in cells. -/
class Enc (α : Type) where
  sz : Nat
  enc : α → List V
  len : ∀ a, (enc a).length = sz
  cell : ∀ a, ∀ u ∈ enc a, u.cell = true
  nf : ∀ a, ∀ u ∈ enc a, NF u
open Enc (enc)

abbrev tx (s : Str) : V := .val (str s)
abbrev i64 (i : Int) : V := .val (.int .i64 i)
abbrev u8 (c : UInt8) : V := .val (.int .u8 (c.toNat : Int))
abbrev bo (b : Bool) : V := .val (.bool b)
abbrev nl : V := .val (.slice none 0 0)
abbrev ar {α : Type} [Enc α] (l : List α) : V := .arr (l.map enc)
abbrev ob {α : Type} [Enc α] (l : List α) : Ob := ⟨l.map enc, Enc.sz α⟩

theorem NF.val (v : Value) : NF (.val v) := fun _ h => by cases h
theorem NF.nz : NF .nz := fun _ h => by cases h
theorem NF.arr {els : List (List V)} (h : ∀ el ∈ els, ∀ u ∈ el, NF u) : NF (.arr els) := fun y hy => by
  cases hy with
  | arr h1 h2 h3 => exact h _ (List.mem_of_getElem? h1) _ (List.mem_of_getElem? h2) y h3
theorem NF.agg {cs : List V} (h : ∀ u ∈ cs, NF u) : NF (.agg cs) := fun y hy => by
  cases hy with
  | agg h2 h3 => exact h _ (List.mem_of_getElem? h2) y h3
theorem NF.iptr {cs : List V} (h : ∀ u ∈ cs, NF u) : NF (.iptr cs) := fun y hy => by
  cases hy with
  | iptr h2 h3 => exact h _ (List.mem_of_getElem? h2) y h3
theorem NF.tup {cs : List V} (h : ∀ u ∈ cs, NF u) : NF (.tup cs) := fun y hy => by
  cases hy with
  | tup h2 h3 => exact h _ (List.mem_of_getElem? h2) y h3
theorem NF.fn {f : Nat} {cs : List V} (h : ∀ u ∈ cs, NF u) : NF (.fn f cs) := fun y hy => by
  cases hy with
  | fn h2 h3 => exact h _ (List.mem_of_getElem? h2) y h3
theorem NF.ar {α : Type} [Enc α] (l : List α) : NF (ar l) := NF.arr fun el hel u hu => by
  obtain ⟨a, _, rfl⟩ := List.mem_map.1 hel
  exact Enc.nf a u hu

instance : Enc Str := ⟨1, fun s => [tx s], fun _ => rfl, fun _ u h => by rw [List.mem_singleton.1 h]; rfl, fun _ u h => by rw [List.mem_singleton.1 h]; exact NF.val _⟩
instance : Enc Int := ⟨1, fun i => [i64 i], fun _ => rfl, fun _ u h => by rw [List.mem_singleton.1 h]; rfl, fun _ u h => by rw [List.mem_singleton.1 h]; exact NF.val _⟩
instance : Enc UInt8 := ⟨1, fun c => [u8 c], fun _ => rfl, fun _ u h => by rw [List.mem_singleton.1 h]; rfl, fun _ u h => by rw [List.mem_singleton.1 h]; exact NF.val _⟩
instance : Enc Bool := ⟨1, fun b => [bo b], fun _ => rfl, fun _ u h => by rw [List.mem_singleton.1 h]; rfl, fun _ u h => by rw [List.mem_singleton.1 h]; exact NF.val _⟩

theorem nfn : ∀ u ∈ ([] : List V), NF u := fun _ h => by cases h
theorem nfc {a : V} {l : List V} (h : NF a) (r : ∀ u ∈ l, NF u) : ∀ u ∈ a :: l, NF u := fun u hu => by
  rcases List.mem_cons.1 hu with rfl | hu
  · exact h
  · exact r u hu
theorem cellL {l : List V} (h : l.all V.cell = true) : ∀ u ∈ l, u.cell = true := fun u hu => List.all_eq_true.1 h u hu
theorem nfv {v : Value} : NF (.val v) := NF.val v
theorem nfa {α : Type} [Enc α] {l : List α} : NF (ar l) := NF.ar l
theorem nfe {α : Type} [Enc α] {a : α} : NF (.agg (enc a)) := NF.agg (Enc.nf a)
theorem sub0 {M : Hp} : Sub (app [] M0) M := fun _ _ h => by cases h
section
variable {ρ : Nat → Nat} {D Z : List Nat} {α : Type} [Enc α]
theorem trv {v : Value} : Tr ρ D Z (.val v) (.val v) := Tr.nf nfv
theorem tra {l : List α} : Tr ρ D Z (ar l) (ar l) := Tr.nf nfa
theorem tro {l : List α} : TrO ρ D Z (ob l) (ob l) := TrO.nf fun el hel u hu => by
  obtain ⟨a, _, rfl⟩ := List.mem_map.1 hel
  exact ⟨Enc.nf a u hu, Enc.cell a u hu⟩
end
/-- Looked at, and of its kind. -/
theorem eI {x : V} {i : Int} (h : x = i64 i) : x = i64 i := h
theorem eU {x : V} (c : UInt8) (h : x = u8 c) : x = u8 c := h
theorem eB {x : V} {b : Bool} (h : x = bo b) : x = bo b := h
theorem eT {x : V} {s : Str} (h : x = tx s) : x = tx s := h
theorem eZ {x : V} {k : IntKind} {i : Int} (h : x = .val (.int k i)) : x = .val (.int k i) := h
theorem eV {x : V} {v : Value} (h : x = .val v) : x = .val v := h
theorem eA {x : V} {els : List (List V)} (h : x = .arr els) : x = .arr els := h
theorem eO {x : V} {i a n : Nat} (h : x = .own i a n) : x = .own i a n := h
theorem eP {x : V} {i a n : Nat} (h : x = .ptr i a n) : x = .ptr i a n := h
theorem eQ {x : V} {cs : List V} (h : x = .iptr cs) : x = .iptr cs := h
theorem eG {x : V} {cs : List V} (h : x = .agg cs) : x = .agg cs := h
theorem eW {x : V} {cs : List V} (h : x = .tup cs) : x = .tup cs := h
theorem eF {x : V} {f : Nat} {cs : List V} (h : x = .fn f cs) : x = .fn f cs := h
theorem eX {x : V} (u : V) (h : x = u) : x = u := h
theorem sX {x : Option V} (u : V) (h : x = some u) : x = some u := h
theorem sV {x : Option V} {v : Value} (h : x = some (.val v)) : x = some (.val v) := h
theorem sA {x : Option V} {els : List (List V)} (h : x = some (.arr els)) : x = some (.arr els) := h
theorem sO {x : Option V} {i a n : Nat} (h : x = some (.own i a n)) : x = some (.own i a n) := h
theorem sG {x : Option V} {cs : List V} (h : x = some (.agg cs)) : x = some (.agg cs) := h
theorem sP {x : Option V} {i a n : Nat} (h : x = some (.ptr i a n)) : x = some (.ptr i a n) := h

/-! ### What types say -/
def El (P : Program) (t sz b : Nat) : Prop := ∃ e zs, elOf P t = some e ∧ szOf P e = some sz ∧ bytOf P e = some b ∧ zcells P e = some zs ∧ zs.length = sz ∧ sz ≠ 0
def Ld (P : Program) (t : Nat) (ag : Bool) (n : Nat) : Prop := isAg P t = some ag ∧ szOf P t = some n
def Fa (P : Program) (s f d : Nat) : Prop := ∃ ft n, fOf P s f = some (d, ft) ∧ szOf P ft = some n ∧ n ≠ 0
def Fe (P : Program) (s f d : Nat) (ag : Bool) (n : Nat) : Prop := ∃ ft, fOf P s f = some (d, ft) ∧ szOf P ft = some n ∧ isAg P ft = some ag
def Bd (P : Program) (t : Nat) (zs : List V) (pl : List (Nat × Nat)) : Prop := zcells P t = some zs ∧ plOf P t = some pl

def cmpI (op : BinOp) (a b : Int) : Option Bool := match op with
  | .eql => some (a == b)
  | .neq => some (a != b)
  | .lss => some (decide (a < b))
  | .leq => some (decide (a ≤ b))
  | .gtr => some (decide (a > b))
  | .geq => some (decide (a ≥ b))
  | _ => none
theorem cmpI_run {op : BinOp} {k : IntKind} {a b : Int} {c : Bool} (h : cmpI op a b = some c) : pbin op (.int k a) (.int k b) = some (.bool c) := by
  cases op <;> simp [cmpI] at h <;> (subst h; simp [pbin, pint])
def cmpU (op : BinOp) (a b : UInt8) : Option Bool := match op with
  | .eql => some (a == b)
  | .neq => some (a != b)
  | .lss => some (decide (a < b))
  | .leq => some (decide (a ≤ b))
  | .gtr => some (decide (b < a))
  | .geq => some (decide (b ≤ a))
  | _ => none
theorem cmpU_run {op : BinOp} {a b : UInt8} {c : Bool} (h : cmpU op a b = some c) : pbin op (.int .u8 (a.toNat : Int)) (.int .u8 (b.toNat : Int)) = some (.bool c) := by
  have e : ((a.toNat : Int) == (b.toNat : Int)) = (a == b) := by
    rw [Bool.eq_iff_iff]; simp only [beq_iff_eq, ← UInt8.toNat_inj]; omega
  cases op <;> simp [cmpU] at h <;> subst h
  · simp [pbin, pint, e]
  · simp [pbin, pint, bne, e]
  · simp [pbin, pint, UInt8.lt_iff_toNat_lt]
  · simp [pbin, pint, UInt8.le_iff_toNat_le]
  · simp [pbin, pint, UInt8.lt_iff_toNat_lt]
  · simp [pbin, pint, UInt8.le_iff_toNat_le]
def cmpT (op : BinOp) (a b : Str) : Option Bool := match op with
  | .eql => some (a == b)
  | .neq => some (!(a == b))
  | .lss => some (Op.bytesLess a b)
  | .leq => some (Op.bytesLess a b || a == b)
  | .gtr => some (!(Op.bytesLess a b || a == b))
  | .geq => some (!Op.bytesLess a b)
  | _ => none
theorem cmpT_run {op : BinOp} {a b : Str} {c : Bool} (h : cmpT op a b = some c) : pbin op (str a) (str b) = some (.bool c) := by
  cases op <;> simp only [cmpT, Option.some.injEq, reduceCtorEq] at h <;> (subst h; simp [pbin, pstr, str])

theorem wrap_i64 {z : Int} (h1 : -9223372036854775808 ≤ z) (h2 : z < 9223372036854775808) : IntKind.i64.wrap z = z := by
  have e : IntKind.i64.wrap z = if z % 18446744073709551616 ≥ 9223372036854775808 then z % 18446744073709551616 - 18446744073709551616 else z % 18446744073709551616 := by
    simp [IntKind.wrap, IntKind.bits, IntKind.signed]
  rw [e]
  split <;> omega
def arI (op : BinOp) (a b : Int) : Option Int := match op with
  | .add => addO a b
  | .sub => subO a b
  | .mul => mulO a b
  | .quo => quoO a b
  | .rem => remO a b
  | .and => some (pbits .and .i64 a b)
  | .or => some (pbits .or .i64 a b)
  | .xor => some (pbits .xor .i64 a b)
  | _ => none
theorem arI_run {op : BinOp} {a b c : Int} (h : arI op a b = some c) : pbin op (.int .i64 a) (.int .i64 b) = some (.int .i64 c) := by
  cases op <;> simp only [arI] at h
  · obtain ⟨h1, rfl⟩ := okO_inv h; have := inR_iff.1 h1; simp [pbin, pint, wrap_i64 this.1 this.2]
  · obtain ⟨h1, rfl⟩ := okO_inv h; have := inR_iff.1 h1; simp [pbin, pint, wrap_i64 this.1 this.2]
  · obtain ⟨h1, rfl⟩ := okO_inv h; have := inR_iff.1 h1; simp [pbin, pint, wrap_i64 this.1 this.2]
  · obtain ⟨h1, rfl⟩ := okO_inv h
    simp only [Bool.and_eq_true, Bool.not_eq_true', decide_eq_false_iff_not] at h1
    have := inR_iff.1 h1.2; simp [pbin, pint, wrap_i64 this.1 this.2, h1.1]
  · obtain ⟨h1, rfl⟩ := okO_inv h
    simp only [Bool.not_eq_true', decide_eq_false_iff_not] at h1
    simp [pbin, pint, h1]
  · cases h; simp [pbin, pint]
  · cases h; simp [pbin, pint]
  · cases h; simp [pbin, pint]
  all_goals cases h
/-- Words that wrap round. -/
def arZ (op : BinOp) (k : IntKind) (a b : Int) : Option Int := match op with
  | .add => some (k.wrap (a + b))
  | .sub => some (k.wrap (a - b))
  | .mul => some (k.wrap (a * b))
  | .quo => okO (!decide (b = 0)) (k.wrap (a.tdiv b))
  | .rem => remO a b
  | .and => some (pbits .and k a b)
  | .or => some (pbits .or k a b)
  | .xor => some (pbits .xor k a b)
  | _ => none
theorem arZ_run {op : BinOp} {k : IntKind} {a b c : Int} (h : arZ op k a b = some c) : pbin op (.int k a) (.int k b) = some (.int k c) := by
  cases op <;> simp only [arZ] at h
  · cases h; simp [pbin, pint]
  · cases h; simp [pbin, pint]
  · cases h; simp [pbin, pint]
  · obtain ⟨h1, rfl⟩ := okO_inv h
    simp only [Bool.not_eq_true', decide_eq_false_iff_not] at h1
    simp [pbin, pint, h1]
  · obtain ⟨h1, rfl⟩ := okO_inv h
    simp only [Bool.not_eq_true', decide_eq_false_iff_not] at h1
    simp [pbin, pint, h1]
  · cases h; simp [pbin, pint]
  · cases h; simp [pbin, pint]
  · cases h; simp [pbin, pint]
  all_goals cases h
theorem wrap_u8 (z : Int) : IntKind.u8.wrap z = z % 256 := by
  simp [IntKind.wrap, IntKind.bits, IntKind.signed]
theorem toU8_val (z : Int) : ((toU8 z).toNat : Int) = z % 256 := by
  unfold toU8
  simp
  omega
/-- Bytes that wrap round. -/
def arU (op : BinOp) (a b : UInt8) : Option UInt8 := match op with
  | .add => some (a + b)
  | .sub => some (a - b)
  | .quo => okO (!decide (b = 0)) (a / b)
  | .rem => okO (!decide (b = 0)) (a % b)
  | .and => some (a &&& b)
  | .or => some (a ||| b)
  | _ => none
theorem u8_zero {b : UInt8} : ((b.toNat : Int) = 0) ↔ b = 0 := by
  rw [← UInt8.toNat_inj]; simp
theorem bits_u8 (a : UInt8) : BitVec.ofInt IntKind.u8.bits (a.toNat : Int) = a.toBitVec := by
  apply BitVec.eq_of_toNat_eq
  show (BitVec.ofInt 8 _).toNat = _
  rw [BitVec.toNat_ofInt]
  have := a.toNat_lt
  show ((a.toNat : Int) % ((2 ^ 8 : Nat) : Int)).toNat = a.toNat
  omega
theorem arU_run {op : BinOp} {a b c : UInt8} (h : arU op a b = some c) : pbin op (.int .u8 (a.toNat : Int)) (.int .u8 (b.toNat : Int)) = some (.int .u8 (c.toNat : Int)) := by
  have ha := a.toNat_lt
  have hb := b.toNat_lt
  cases op <;> simp only [arU] at h
  · cases h; simp [pbin, pint, wrap_u8, UInt8.toNat_add]
  · cases h; simp [pbin, pint, wrap_u8, UInt8.toNat_sub]; omega
  · cases h
  · obtain ⟨h1, rfl⟩ := okO_inv h
    simp only [Bool.not_eq_true', decide_eq_false_iff_not] at h1
    have h0 : ¬ (b.toNat : Int) = 0 := fun e => h1 (u8_zero.1 e)
    have e : ((a.toNat : Int).tdiv (b.toNat : Int)) = ((a.toNat / b.toNat : Nat) : Int) := by
      rw [Int.tdiv_eq_ediv_of_nonneg (by omega)]; simp
    have h2 : a.toNat / b.toNat < 256 := Nat.lt_of_le_of_lt (Nat.div_le_self _ _) ha
    simp only [pbin, pint]
    rw [if_neg (by simp), if_pos trivial, if_neg h0, e, wrap_u8, UInt8.toNat_div]
    generalize a.toNat / b.toNat = q at h2
    congr 2
    omega
  · obtain ⟨h1, rfl⟩ := okO_inv h
    simp only [Bool.not_eq_true', decide_eq_false_iff_not] at h1
    have h0 : ¬ (b.toNat : Int) = 0 := fun e => h1 (u8_zero.1 e)
    have e : ((a.toNat : Int).tmod (b.toNat : Int)) = ((a.toNat % b.toNat : Nat) : Int) := by
      rw [Int.tmod_eq_emod_of_nonneg (by omega)]; simp
    simp only [pbin, pint]
    rw [if_neg (by simp), if_pos trivial, if_neg h0, e, UInt8.toNat_mod]
  · cases h
    simp only [pbin, pint, pbits]
    rw [if_neg (by simp), if_pos trivial, bits_u8, bits_u8, wrap_u8]
    have : (a &&& b).toNat < 256 := (a &&& b).toNat_lt
    show some (Value.int .u8 (((a &&& b).toNat : Int) % 256)) = _
    congr 2
    omega
  · cases h
    simp only [pbin, pint, pbits]
    rw [if_neg (by simp), if_pos trivial, bits_u8, bits_u8, wrap_u8]
    have : (a ||| b).toNat < 256 := (a ||| b).toNat_lt
    show some (Value.int .u8 (((a ||| b).toNat : Int) % 256)) = _
    congr 2
    omega
  all_goals cases h
/-- A byte, shifted. -/
def shU (op : BinOp) (a : UInt8) (n : Int) : Option UInt8 := match op with
  | .shr => okO (decide (0 ≤ n)) (UInt8.ofNat (a.toNat / 2 ^ min n.toNat 8))
  | .shl => okO (decide (0 ≤ n)) (toU8 ((a.toNat : Int) * 2 ^ min n.toNat 8))
  | _ => none
theorem shU_run {op : BinOp} {a c : UInt8} {k : IntKind} {n : Int} (h : shU op a n = some c) : pbin op (.int .u8 (a.toNat : Int)) (.int k n) = some (.int .u8 (c.toNat : Int)) := by
  have ha := a.toNat_lt
  cases op <;> simp only [shU] at h
  case shr =>
    obtain ⟨h1, rfl⟩ := okO_inv h
    have h1 : 0 ≤ n := by simpa using h1
    have e : ((a.toNat : Int).fdiv (2 ^ min n.toNat 8)) = ((a.toNat / 2 ^ min n.toNat 8 : Nat) : Int) := by
      rw [Int.fdiv_eq_ediv_of_nonneg _ (Int.pow_nonneg (by omega))]; simp
    have h2 : a.toNat / 2 ^ min n.toNat 8 < 256 := Nat.lt_of_le_of_lt (Nat.div_le_self _ _) ha
    have h3 : (UInt8.ofNat (a.toNat / 2 ^ min n.toNat 8)).toNat = a.toNat / 2 ^ min n.toNat 8 := by
      rw [UInt8.toNat_ofNat']; exact Nat.mod_eq_of_lt h2
    simp only [pbin, pshift, IntKind.bits]
    rw [if_pos (.inr trivial), if_pos h1, e, h3]
  case shl =>
    obtain ⟨h1, rfl⟩ := okO_inv h
    have h1 : 0 ≤ n := by simpa using h1
    simp only [pbin, pshift, IntKind.bits]
    rw [if_pos (.inl trivial), if_pos h1, wrap_u8, toU8_val]
  all_goals cases h
def shZ (op : BinOp) (k : IntKind) (a n : Int) : Option Int := match op with
  | .shr => okO (decide (0 ≤ n)) (a.fdiv (2 ^ min n.toNat k.bits))
  | .shl => okO (decide (0 ≤ n)) (k.wrap (a * 2 ^ min n.toNat k.bits))
  | _ => none
theorem shZ_run {op : BinOp} {k k' : IntKind} {a c n : Int} (h : shZ op k a n = some c) : pbin op (.int k a) (.int k' n) = some (.int k c) := by
  cases op <;> simp only [shZ] at h
  case shr =>
    obtain ⟨h1, rfl⟩ := okO_inv h
    have h1 : 0 ≤ n := by simpa using h1
    simp only [pbin, pshift]
    rw [if_pos (.inr trivial), if_pos h1]
  case shl =>
    obtain ⟨h1, rfl⟩ := okO_inv h
    have h1 : 0 ≤ n := by simpa using h1
    simp only [pbin, pshift]
    rw [if_pos (.inl trivial), if_pos h1]
  all_goals cases h

/-- A cut's bound. -/
def bn (σ : Nat → V) : Option Operand → Int → Option Int
  | none, d => some d
  | some x, _ => match ev σ x with
    | .val (.int _ i) => some i
    | _ => none
theorem bn_vbd {σ : Nat → V} {lo : Option Operand} {d : Nat} {a : Int} (h : bn σ lo d = some a) (h0 : 0 ≤ a) : vbd σ lo d = some a.toNat := by
  cases lo with
  | none => simp only [bn, Option.some.injEq] at h; subst h; simp [vbd]
  | some x =>
    simp only [bn] at h
    split at h
    · rename_i k i hx
      cases h
      simp [vbd, hx, h0]
    · cases h

section
variable {G : Rg} {os : List Oper} {i : Nat} {σ σ' : Nat → V} {M M' : Hp} {u : V} {ds : List Yd}
variable {d : Option Nat} {ty : Nat} {pos : String} {aft : Array Edge} {g : Option (Nat × Bool)} {x y : Operand} {t : Nat}

theorem x_mv (hx : ev σ x = u) (c : Ck G ⟨d, .move x, ty, pos, aft, g⟩ i σ []) (r : Lx G os (i + 1) (upd σ d u) M ds σ' M') : Lx G (⟨d, .move x, ty, pos, aft, g⟩ :: os) i σ M (⟨u, []⟩ :: ds) σ' M' :=
  lx_on c (fun _ _ _ => w_move ⟨(ev_see (by simp [Op.operands])).trans hx, rfl⟩) r
theorem x_as (hx : ev σ x = u) (c : Ck G ⟨d, .assign x, ty, pos, aft, g⟩ i σ []) (r : Lx G os (i + 1) (upd σ d u) M ds σ' M') : Lx G (⟨d, .assign x, ty, pos, aft, g⟩ :: os) i σ M (⟨u, []⟩ :: ds) σ' M' :=
  lx_on c (fun _ _ _ => w_assign ⟨(ev_see (by simp [Op.operands])).trans hx, rfl⟩) r
theorem x_pt {z : Operand} {b : Bool} (hz : ev σ z = bo b) (hb : b = true) (hx : ev σ x = u) (c : Ck G ⟨d, .pick z x y, ty, pos, aft, g⟩ i σ []) (r : Lx G os (i + 1) (upd σ d u) M ds σ' M') : Lx G (⟨d, .pick z x y, ty, pos, aft, g⟩ :: os) i σ M (⟨u, []⟩ :: ds) σ' M' :=
  lx_on c (fun _ _ _ => w_pick ((ev_see (by simp [Op.operands])).trans hz) (by subst hb; exact ⟨(ev_see (by simp [Op.operands])).trans hx, rfl⟩)) r
theorem x_pf {z : Operand} {b : Bool} (hz : ev σ z = bo b) (hb : b = false) (hy : ev σ y = u) (c : Ck G ⟨d, .pick z x y, ty, pos, aft, g⟩ i σ []) (r : Lx G os (i + 1) (upd σ d u) M ds σ' M') : Lx G (⟨d, .pick z x y, ty, pos, aft, g⟩ :: os) i σ M (⟨u, []⟩ :: ds) σ' M' :=
  lx_on c (fun _ _ _ => w_pick ((ev_see (by simp [Op.operands])).trans hz) (by subst hb; exact ⟨(ev_see (by simp [Op.operands])).trans hy, rfl⟩)) r
theorem x_ex {vs : List V} {k : Nat} (hx : ev σ x = .tup vs) (hu : vs[k]? = some u) (c : Ck G ⟨d, .extract x k, ty, pos, aft, g⟩ i σ []) (r : Lx G os (i + 1) (upd σ d u) M ds σ' M') : Lx G (⟨d, .extract x k, ty, pos, aft, g⟩ :: os) i σ M (⟨u, []⟩ :: ds) σ' M' :=
  lx_on c (fun _ _ _ => w_extract ((ev_see (by simp [Op.operands])).trans hx) hu ⟨rfl, rfl⟩) r
theorem x_ld {n : Nat} {ag : Bool} {p : V} {cs : List V} (L : Ld G.P t ag n) (hx : ev σ x = p) (hc : pcells (hideL (G.h i) M) p = some cs) (hu : vload ag n cs = some u) (c : Ck G ⟨d, .load t x, ty, pos, aft, g⟩ i σ []) (r : Lx G os (i + 1) (upd σ d u) M ds σ' M') : Lx G (⟨d, .load t x, ty, pos, aft, g⟩ :: os) i σ M (⟨u, []⟩ :: ds) σ' M' :=
  lx_on c (fun _ _ hs => w_load L.1 L.2 (by rw [(ev_see (by simp [Op.operands])).trans hx]; exact pcells_mono hs hc) hu ⟨rfl, rfl⟩) r
/-- A place in an object of its own kind of elements. -/
theorem x_ldE {α : Type} [Enc α] {n id k off : Nat} {ag : Bool} {l : List α} {a : α} (L : Ld G.P t ag n) (hx : ev σ x = .ptr id k off) (hm : hideL (G.h i) M id = some (ob l)) (ha : l[k]? = some a) (hu : vload ag n ((enc a).drop off) = some u) (c : Ck G ⟨d, .load t x, ty, pos, aft, g⟩ i σ []) (r : Lx G os (i + 1) (upd σ d u) M ds σ' M') : Lx G (⟨d, .load t x, ty, pos, aft, g⟩ :: os) i σ M (⟨u, []⟩ :: ds) σ' M' :=
  x_ld L hx (by simp only [pcells, hm, Option.bind_some, List.getElem?_map, ha, Option.map_some]) hu c r
theorem x_ci {op : BinOp} {t' : Nat} {k : IntKind} {a b : Int} {e : Bool} (hx : ev σ x = .val (.int k a)) (hy : ev σ y = .val (.int k b)) (h : cmpI op a b = some e) (c : Ck G ⟨d, .binOp op t x y t', ty, pos, aft, g⟩ i σ []) (r : Lx G os (i + 1) (upd σ d (bo e)) M ds σ' M') : Lx G (⟨d, .binOp op t x y t', ty, pos, aft, g⟩ :: os) i σ M (⟨bo e, []⟩ :: ds) σ' M' :=
  lx_on c (fun _ _ _ => w_binOp ((ev_see (by simp [Op.operands])).trans hx) ((ev_see (by simp [Op.operands])).trans hy) (cmpI_run h) ⟨rfl, rfl⟩) r
theorem x_cu {op : BinOp} {t' : Nat} {a b : UInt8} {e : Bool} (hx : ev σ x = u8 a) (hy : ev σ y = u8 b) (h : cmpU op a b = some e) (c : Ck G ⟨d, .binOp op t x y t', ty, pos, aft, g⟩ i σ []) (r : Lx G os (i + 1) (upd σ d (bo e)) M ds σ' M') : Lx G (⟨d, .binOp op t x y t', ty, pos, aft, g⟩ :: os) i σ M (⟨bo e, []⟩ :: ds) σ' M' :=
  lx_on c (fun _ _ _ => w_binOp ((ev_see (by simp [Op.operands])).trans hx) ((ev_see (by simp [Op.operands])).trans hy) (cmpU_run h) ⟨rfl, rfl⟩) r
theorem x_ct {op : BinOp} {t' : Nat} {a b : Str} {e : Bool} (hx : ev σ x = tx a) (hy : ev σ y = tx b) (h : cmpT op a b = some e) (c : Ck G ⟨d, .binOp op t x y t', ty, pos, aft, g⟩ i σ []) (r : Lx G os (i + 1) (upd σ d (bo e)) M ds σ' M') : Lx G (⟨d, .binOp op t x y t', ty, pos, aft, g⟩ :: os) i σ M (⟨bo e, []⟩ :: ds) σ' M' :=
  lx_on c (fun _ _ _ => w_binOp ((ev_see (by simp [Op.operands])).trans hx) ((ev_see (by simp [Op.operands])).trans hy) (cmpT_run h) ⟨rfl, rfl⟩) r
theorem x_ai {op : BinOp} {t' : Nat} {a b e : Int} (hx : ev σ x = i64 a) (hy : ev σ y = i64 b) (h : arI op a b = some e) (c : Ck G ⟨d, .binOp op t x y t', ty, pos, aft, g⟩ i σ []) (r : Lx G os (i + 1) (upd σ d (i64 e)) M ds σ' M') : Lx G (⟨d, .binOp op t x y t', ty, pos, aft, g⟩ :: os) i σ M (⟨i64 e, []⟩ :: ds) σ' M' :=
  lx_on c (fun _ _ _ => w_binOp ((ev_see (by simp [Op.operands])).trans hx) ((ev_see (by simp [Op.operands])).trans hy) (arI_run h) ⟨rfl, rfl⟩) r
theorem x_az {op : BinOp} {t' : Nat} {k : IntKind} {a b e : Int} (hx : ev σ x = .val (.int k a)) (hy : ev σ y = .val (.int k b)) (h : arZ op k a b = some e) (c : Ck G ⟨d, .binOp op t x y t', ty, pos, aft, g⟩ i σ []) (r : Lx G os (i + 1) (upd σ d (.val (.int k e))) M ds σ' M') : Lx G (⟨d, .binOp op t x y t', ty, pos, aft, g⟩ :: os) i σ M (⟨.val (.int k e), []⟩ :: ds) σ' M' :=
  lx_on c (fun _ _ _ => w_binOp ((ev_see (by simp [Op.operands])).trans hx) ((ev_see (by simp [Op.operands])).trans hy) (arZ_run h) ⟨rfl, rfl⟩) r
theorem x_au {op : BinOp} {t' : Nat} {a b e : UInt8} (hx : ev σ x = u8 a) (hy : ev σ y = u8 b) (h : arU op a b = some e) (c : Ck G ⟨d, .binOp op t x y t', ty, pos, aft, g⟩ i σ []) (r : Lx G os (i + 1) (upd σ d (u8 e)) M ds σ' M') : Lx G (⟨d, .binOp op t x y t', ty, pos, aft, g⟩ :: os) i σ M (⟨u8 e, []⟩ :: ds) σ' M' :=
  lx_on c (fun _ _ _ => w_binOp ((ev_see (by simp [Op.operands])).trans hx) ((ev_see (by simp [Op.operands])).trans hy) (arU_run h) ⟨rfl, rfl⟩) r
theorem x_su {op : BinOp} {t' : Nat} {k : IntKind} {a e : UInt8} {b : Int} (hx : ev σ x = u8 a) (hy : ev σ y = .val (.int k b)) (h : shU op a b = some e) (c : Ck G ⟨d, .binOp op t x y t', ty, pos, aft, g⟩ i σ []) (r : Lx G os (i + 1) (upd σ d (u8 e)) M ds σ' M') : Lx G (⟨d, .binOp op t x y t', ty, pos, aft, g⟩ :: os) i σ M (⟨u8 e, []⟩ :: ds) σ' M' :=
  lx_on c (fun _ _ _ => w_binOp ((ev_see (by simp [Op.operands])).trans hx) ((ev_see (by simp [Op.operands])).trans hy) (shU_run h) ⟨rfl, rfl⟩) r
theorem x_sz {op : BinOp} {t' : Nat} {k k' : IntKind} {a b e : Int} (hx : ev σ x = .val (.int k a)) (hy : ev σ y = .val (.int k' b)) (h : shZ op k a b = some e) (c : Ck G ⟨d, .binOp op t x y t', ty, pos, aft, g⟩ i σ []) (r : Lx G os (i + 1) (upd σ d (.val (.int k e))) M ds σ' M') : Lx G (⟨d, .binOp op t x y t', ty, pos, aft, g⟩ :: os) i σ M (⟨.val (.int k e), []⟩ :: ds) σ' M' :=
  lx_on c (fun _ _ _ => w_binOp ((ev_see (by simp [Op.operands])).trans hx) ((ev_see (by simp [Op.operands])).trans hy) (shZ_run h) ⟨rfl, rfl⟩) r
theorem cat_run {a b e : Str} (h : catO a b = some e) : pbin .add (str a) (str b) = some (str e) := by
  obtain ⟨h1, rfl⟩ := okO_inv h
  have h1 : a.length + b.length ≤ 9223372036854775807 := by simpa using h1
  simp [pbin, pstr, str, h1]
theorem x_cat {t' : Nat} {a b e : Str} (hx : ev σ x = tx a) (hy : ev σ y = tx b) (h : catO a b = some e) (c : Ck G ⟨d, .binOp .add t x y t', ty, pos, aft, g⟩ i σ []) (r : Lx G os (i + 1) (upd σ d (tx e)) M ds σ' M') : Lx G (⟨d, .binOp .add t x y t', ty, pos, aft, g⟩ :: os) i σ M (⟨tx e, []⟩ :: ds) σ' M' :=
  lx_on c (fun _ _ _ => w_binOp ((ev_see (by simp [Op.operands])).trans hx) ((ev_see (by simp [Op.operands])).trans hy) (cat_run h) ⟨rfl, rfl⟩) r
theorem x_not {b : Bool} (hx : ev σ x = bo b) (c : Ck G ⟨d, .unOp .not t x, ty, pos, aft, g⟩ i σ []) (r : Lx G os (i + 1) (upd σ d (bo (!b))) M ds σ' M') : Lx G (⟨d, .unOp .not t x, ty, pos, aft, g⟩ :: os) i σ M (⟨bo (!b), []⟩ :: ds) σ' M' :=
  lx_on c (fun _ _ _ => w_unOp ((ev_see (by simp [Op.operands])).trans hx) rfl ⟨rfl, rfl⟩) r
theorem x_neg {k : IntKind} {a : Int} (hx : ev σ x = .val (.int k a)) (c : Ck G ⟨d, .unOp .neg t x, ty, pos, aft, g⟩ i σ []) (r : Lx G os (i + 1) (upd σ d (.val (.int k (k.wrap (0 - a))))) M ds σ' M') : Lx G (⟨d, .unOp .neg t x, ty, pos, aft, g⟩ :: os) i σ M (⟨.val (.int k (k.wrap (0 - a))), []⟩ :: ds) σ' M' :=
  lx_on c (fun _ _ _ => w_unOp ((ev_see (by simp [Op.operands])).trans hx) rfl ⟨rfl, rfl⟩) r
theorem x_fp {s f dd id j off : Nat} (F : Fa G.P s f dd) (hx : ev σ x = .ptr id j off) (c : Ck G ⟨d, .fieldAddr s x f, ty, pos, aft, g⟩ i σ []) (r : Lx G os (i + 1) (upd σ d (.ptr id j (off + dd))) M ds σ' M') : Lx G (⟨d, .fieldAddr s x f, ty, pos, aft, g⟩ :: os) i σ M (⟨.ptr id j (off + dd), []⟩ :: ds) σ' M' := by
  obtain ⟨ft, n, h1, h2, h3⟩ := F
  exact lx_on c (fun _ _ _ => w_fieldAddr h1 h2 h3 (.inr ⟨_, _, _, (ev_see (by simp [Op.operands])).trans hx, rfl⟩) ⟨rfl, rfl⟩) r
theorem x_fq {s f dd : Nat} {cs : List V} (F : Fa G.P s f dd) (hx : ev σ x = .iptr cs) (c : Ck G ⟨d, .fieldAddr s x f, ty, pos, aft, g⟩ i σ []) (r : Lx G os (i + 1) (upd σ d (.iptr (cs.drop dd))) M ds σ' M') : Lx G (⟨d, .fieldAddr s x f, ty, pos, aft, g⟩ :: os) i σ M (⟨.iptr (cs.drop dd), []⟩ :: ds) σ' M' := by
  obtain ⟨ft, n, h1, h2, h3⟩ := F
  exact lx_on c (fun _ _ _ => w_fieldAddr h1 h2 h3 (.inl ⟨_, (ev_see (by simp [Op.operands])).trans hx, rfl⟩) ⟨rfl, rfl⟩) r
theorem x_fd {s f dd n : Nat} {ag : Bool} {cs : List V} (F : Fe G.P s f dd ag n) (hx : ev σ x = .agg cs) (hu : vload ag n (cs.drop dd) = some u) (c : Ck G ⟨d, .field s x f, ty, pos, aft, g⟩ i σ []) (r : Lx G os (i + 1) (upd σ d u) M ds σ' M') : Lx G (⟨d, .field s x f, ty, pos, aft, g⟩ :: os) i σ M (⟨u, []⟩ :: ds) σ' M' := by
  obtain ⟨ft, h1, h2, h3⟩ := F
  exact lx_on c (fun _ _ _ => w_field h1 h2 h3 ((ev_see (by simp [Op.operands])).trans hx) hu ⟨rfl, rfl⟩) r
theorem x_lnT {s : Str} (T : isStr G.P t = true) (hx : ev σ x = tx s) (c : Ck G ⟨d, .call ⟨.builtin .len, #[x], #[t]⟩, ty, pos, aft, g⟩ i σ []) (r : Lx G os (i + 1) (upd σ d (i64 (s.length : Int))) M ds σ' M') : Lx G (⟨d, .call ⟨.builtin .len, #[x], #[t]⟩, ty, pos, aft, g⟩ :: os) i σ M (⟨i64 (s.length : Int), []⟩ :: ds) σ' M' :=
  lx_on c (fun _ _ _ => w_lenStr (isStr_und T) ((ev_see (by simp [Op.operands, Call.operands])).trans hx) ⟨by simp, rfl⟩) r
theorem x_ln {sz b n : Nat} (E : El G.P t sz b) (hx : vlen (ev σ x) = some n) (c : Ck G ⟨d, .call ⟨.builtin .len, #[x], #[t]⟩, ty, pos, aft, g⟩ i σ []) (r : Lx G os (i + 1) (upd σ d (i64 (n : Int))) M ds σ' M') : Lx G (⟨d, .call ⟨.builtin .len, #[x], #[t]⟩, ty, pos, aft, g⟩ :: os) i σ M (⟨i64 (n : Int), []⟩ :: ds) σ' M' := by
  obtain ⟨e, zs, h1, _⟩ := E
  exact lx_on c (fun _ _ _ => w_len h1 (by rw [ev_see (by simp [Op.operands, Call.operands])]; exact hx) ⟨rfl, rfl⟩) r
/-- The length of a list that nobody writes. -/
theorem x_lnA {α : Type} [Enc α] {sz b : Nat} {l : List α} (E : El G.P t sz b) (hx : ev σ x = ar l) (c : Ck G ⟨d, .call ⟨.builtin .len, #[x], #[t]⟩, ty, pos, aft, g⟩ i σ []) (r : Lx G os (i + 1) (upd σ d (i64 (l.length : Int))) M ds σ' M') : Lx G (⟨d, .call ⟨.builtin .len, #[x], #[t]⟩, ty, pos, aft, g⟩ :: os) i σ M (⟨i64 (l.length : Int), []⟩ :: ds) σ' M' :=
  x_ln E (by rw [hx]; simp [vlen]) c r
theorem x_ixT {s : Str} {k : IntKind} {j : Int} {b : UInt8} (T : isStr G.P t = true) (hx : ev σ x = tx s) (hy : ev σ y = .val (.int k j)) (h : lgetO s j = some b) (c : Ck G ⟨d, .index t x y, ty, pos, aft, g⟩ i σ []) (r : Lx G os (i + 1) (upd σ d (u8 b)) M ds σ' M') : Lx G (⟨d, .index t x y, ty, pos, aft, g⟩ :: os) i σ M (⟨u8 b, []⟩ :: ds) σ' M' := by
  obtain ⟨h0, h1, h2⟩ := lgetO_some h
  exact lx_on c (fun _ _ _ => w_index (s := ⟨s.toArray⟩) (isStr_und T) ((ev_see (by simp [Op.operands])).trans hx) ((ev_see (by simp [Op.operands])).trans hy) h0 (by simpa using h2) ⟨by simp [List.getD_eq_getElem?_getD, h1], rfl⟩) r
theorem x_slT {s e : Str} {lo hi : Option Operand} {a b : Int} (T : isStr G.P t = true) (hx : ev σ x = tx s) (hl : bn σ lo 0 = some a) (hh : bn σ hi (s.length : Int) = some b) (h : lsubO s a b = some e) (c : Ck G ⟨d, .slice t x lo hi none, ty, pos, aft, g⟩ i σ []) (r : Lx G os (i + 1) (upd σ d (tx e)) M ds σ' M') : Lx G (⟨d, .slice t x lo hi none, ty, pos, aft, g⟩ :: os) i σ M (⟨tx e, []⟩ :: ds) σ' M' := by
  obtain ⟨h1, rfl⟩ := okO_inv h
  have h1 : (0 ≤ a ∧ a ≤ b) ∧ b ≤ s.length := by simpa using h1
  have hb : bn σ lo (0 : Nat) = some a := hl
  refine lx_on c (fun _ _ _ => w_sliceStr (s := ⟨s.toArray⟩) (l := a.toNat) (h := b.toNat) (isStr_und T) ((ev_see (by simp [Op.operands])).trans hx) ?_ ?_ (by omega) (by simp; omega) ⟨by simp, rfl⟩) r
  · rw [vbd_congr (σ' := σ) fun y hy => ev_see (by simp [Op.operands] at hy ⊢; simp [hy])]; exact bn_vbd hb h1.1.1
  · rw [vbd_congr (σ' := σ) fun y hy => ev_see (by simp [Op.operands] at hy ⊢; simp [hy])]; simp only [List.toList_toArray]; exact bn_vbd hh (by omega)
theorem x_ia {α : Type} [Enc α] {sz b : Nat} {l : List α} {k : IntKind} {j : Int} {a : α} (E : El G.P t sz b) (hz : sz = Enc.sz α) (hx : ev σ x = ar l) (hy : ev σ y = .val (.int k j)) (h : lgetO l j = some a) (c : Ck G ⟨d, .indexAddr t x y, ty, pos, aft, g⟩ i σ []) (r : Lx G os (i + 1) (upd σ d (.iptr (enc a))) M ds σ' M') : Lx G (⟨d, .indexAddr t x y, ty, pos, aft, g⟩ :: os) i σ M (⟨.iptr (enc a), []⟩ :: ds) σ' M' := by
  obtain ⟨e, zs, h1, h2, _⟩ := E
  obtain ⟨g0, g1, g2⟩ := lgetO_some h
  exact lx_on c (fun _ _ _ => w_indexAddr h1 h2 ((ev_see (by simp [Op.operands])).trans hy) g0 (u := .iptr (enc a)) (by rw [(ev_see (by simp [Op.operands])).trans hx]; simp [vidx, g1, Enc.len, hz]) ⟨rfl, rfl⟩) r
/-- A place in an object of the walk's own. -/
theorem x_io {α : Type} [Enc α] {sz b id n : Nat} {l : List α} {k : IntKind} {j : Int} (E : El G.P t sz b) (hz : sz = Enc.sz α) (hx : ev σ x = .own id 0 n) (hm : hideL (G.h i) M id = some (ob l)) (hy : ev σ y = .val (.int k j)) (h : (decide (0 ≤ j) && decide (j < n)) = true) (c : Ck G ⟨d, .indexAddr t x y, ty, pos, aft, g⟩ i σ []) (r : Lx G os (i + 1) (upd σ d (.ptr id j.toNat 0)) M ds σ' M') : Lx G (⟨d, .indexAddr t x y, ty, pos, aft, g⟩ :: os) i σ M (⟨.ptr id j.toNat 0, []⟩ :: ds) σ' M' := by
  obtain ⟨e, zs, h1, h2, _⟩ := E
  have h : 0 ≤ j ∧ j < n := by simpa using h
  exact lx_on c (fun _ _ hs => w_indexAddr h1 h2 ((ev_see (by simp [Op.operands])).trans hy) h.1 (u := .ptr id j.toNat 0) (by
    rw [(ev_see (by simp [Op.operands])).trans hx]
    refine vidx_mono hs ?_
    simp only [vidx, hm]
    rw [if_pos (by omega)]
    simp [hz]) ⟨rfl, rfl⟩) r
theorem x_sl {sz b n : Nat} {lo hi : Option Operand} {a e : Int} (E : El G.P t sz b) (hn : vlen (ev σ x) = some n) (hl : bn σ lo 0 = some a) (hh : bn σ hi (n : Int) = some e) (h0 : 0 ≤ a ∧ 0 ≤ e) (hu : vcut (hideL (G.h i) M) sz (ev σ x) a.toNat e.toNat = some u) (c : Ck G ⟨d, .slice t x lo hi none, ty, pos, aft, g⟩ i σ []) (r : Lx G os (i + 1) (upd σ d u) M ds σ' M') : Lx G (⟨d, .slice t x lo hi none, ty, pos, aft, g⟩ :: os) i σ M (⟨u, []⟩ :: ds) σ' M' := by
  obtain ⟨q, zs, h1, h2, _⟩ := E
  have hb : bn σ lo (0 : Nat) = some a := hl
  refine lx_on c (fun _ _ hs => w_slice (n := n) (l := a.toNat) (h := e.toNat) h1 h2 (by rw [ev_see (by simp [Op.operands])]; exact hn) ?_ ?_ (by rw [ev_see (by simp [Op.operands])]; exact vcut_mono hs hu) ⟨rfl, rfl⟩) r
  · rw [vbd_congr (σ' := σ) fun y hy => ev_see (by simp [Op.operands] at hy ⊢; simp [hy])]; exact bn_vbd hb h0.1
  · rw [vbd_congr (σ' := σ) fun y hy => ev_see (by simp [Op.operands] at hy ⊢; simp [hy])]; exact bn_vbd hh h0.2
theorem x_slA {α : Type} [Enc α] {sz b : Nat} {l l' : List α} {lo hi : Option Operand} {a e : Int} (E : El G.P t sz b) (hz : sz = Enc.sz α) (hx : ev σ x = ar l) (hl : bn σ lo 0 = some a) (hh : bn σ hi (l.length : Int) = some e) (h : lsubO l a e = some l') (c : Ck G ⟨d, .slice t x lo hi none, ty, pos, aft, g⟩ i σ []) (r : Lx G os (i + 1) (upd σ d (ar l')) M ds σ' M') : Lx G (⟨d, .slice t x lo hi none, ty, pos, aft, g⟩ :: os) i σ M (⟨ar l', []⟩ :: ds) σ' M' := by
  obtain ⟨h1, rfl⟩ := okO_inv h
  have h1 : (0 ≤ a ∧ a ≤ e) ∧ e ≤ l.length := by simpa using h1
  refine x_sl (n := l.length) E (by rw [hx]; simp [vlen]) hl hh ⟨h1.1.1, by omega⟩ ?_ c r
  rw [hx]
  simp only [vcut, ar]
  rw [if_pos ⟨by omega, by rw [List.length_map]; omega, fun el hel => by
    obtain ⟨q, _, rfl⟩ := List.mem_map.1 hel
    rw [Enc.len, hz]⟩]
  simp [List.map_take, List.map_drop]
theorem x_bx {cs : List V} (hx : vcells (ev σ x) = some cs) (c : Ck G ⟨d, .box t x, ty, pos, aft, g⟩ i σ [(G.n0 + i, some ⟨[cs], cs.length⟩)]) (r : Lx G os (i + 1) (upd σ d (.ptr (G.n0 + i) 0 0)) (setM M (G.n0 + i) (some ⟨[cs], cs.length⟩)) ds σ' M') : Lx G (⟨d, .box t x, ty, pos, aft, g⟩ :: os) i σ M (⟨.ptr (G.n0 + i) 0 0, [(G.n0 + i, some ⟨[cs], cs.length⟩)]⟩ :: ds) σ' M' :=
  lx_on c (fun _ _ _ => w_box (by rw [ev_see (by simp [Op.operands])]; exact hx) ⟨rfl, rfl⟩) r
theorem x_al {cs : List V} (Z : zcells G.P t = some cs) (c : Ck G ⟨d, .alloc t, ty, pos, aft, g⟩ i σ [(G.n0 + i, some ⟨[cs], cs.length⟩)]) (r : Lx G os (i + 1) (upd σ d (.ptr (G.n0 + i) 0 0)) (setM M (G.n0 + i) (some ⟨[cs], cs.length⟩)) ds σ' M') : Lx G (⟨d, .alloc t, ty, pos, aft, g⟩ :: os) i σ M (⟨.ptr (G.n0 + i) 0 0, [(G.n0 + i, some ⟨[cs], cs.length⟩)]⟩ :: ds) σ' M' :=
  lx_on c (fun _ _ _ => w_alloc Z ⟨rfl, rfl⟩) r
theorem x_st {ag : Bool} {n id j off : Nat} {o : Ob} {el cs : List V} (L : Ld G.P t ag n) (hp : ev σ x = .ptr id j off) (hx : vcells (ev σ y) = some cs) (hm : hideL (G.h i) M id = some o) (he : o.els[j]? = some el) (hf : (Nat.beq n cs.length && Nat.ble (off + cs.length) el.length) = true)
    (c : Ck G ⟨d, .store t x y, ty, pos, aft, g⟩ i σ [(id, some ⟨o.els.set j (splice el off cs), o.sz⟩)]) (r : Lx G os (i + 1) (upd σ d .any) (setM M id (some ⟨o.els.set j (splice el off cs), o.sz⟩)) ds σ' M') : Lx G (⟨d, .store t x y, ty, pos, aft, g⟩ :: os) i σ M (⟨.any, [(id, some ⟨o.els.set j (splice el off cs), o.sz⟩)]⟩ :: ds) σ' M' := by
  simp only [Bool.and_eq_true, Nat.beq_eq, Nat.ble_eq] at hf
  obtain ⟨rfl, hf⟩ := hf
  exact lx_on c (fun _ _ hs => w_store L.2 ((ev_see (by simp [Op.operands])).trans hp) (by rw [ev_see (by simp [Op.operands])]; exact hx) (hs _ _ hm) he hf ⟨rfl, rfl⟩) r
/-- An element of an object, turned. -/
theorem x_stE {α : Type} [Enc α] {ag : Bool} {n id k off : Nat} {l : List α} {a a' : α} {cs : List V} (L : Ld G.P t ag n) (hp : ev σ x = .ptr id k off) (hx : vcells (ev σ y) = some cs) (hm : hideL (G.h i) M id = some (ob l)) (ha : l[k]? = some a) (hs' : splice (enc a) off cs = enc a') (hf : (Nat.beq n cs.length && Nat.ble (off + cs.length) (Enc.sz α)) = true)
    (c : Ck G ⟨d, .store t x y, ty, pos, aft, g⟩ i σ [(id, some (ob (l.set k a')))]) (r : Lx G os (i + 1) (upd σ d .any) (setM M id (some (ob (l.set k a')))) ds σ' M') : Lx G (⟨d, .store t x y, ty, pos, aft, g⟩ :: os) i σ M (⟨.any, [(id, some (ob (l.set k a')))]⟩ :: ds) σ' M' := by
  have e : (l.map enc).set k (splice (enc a) off cs) = (l.set k a').map enc := by rw [hs', List.map_set]
  have h := x_st (G := G) (os := os) (i := i) (σ := σ) (σ' := σ') (M := M) (M' := M') (ds := ds) (d := d) (ty := ty) (pos := pos) (aft := aft) (g := g) (o := ob l) (el := enc a) L hp hx hm (by simp [ha]) (by rw [Enc.len]; exact hf)
  simp only [ob, e] at h
  exact h c r
theorem x_bd {parts : Array (Nat × Operand)} {zs cs : List V} {pl : List (Nat × Nat)} (B : Bd G.P t zs pl) (h : vfill (pl[·]?) (evs σ parts.toList) zs = some cs) (c : Ck G ⟨d, .build t parts, ty, pos, aft, g⟩ i σ []) (r : Lx G os (i + 1) (upd σ d (.agg cs)) M ds σ' M') : Lx G (⟨d, .build t parts, ty, pos, aft, g⟩ :: os) i σ M (⟨.agg cs, []⟩ :: ds) σ' M' :=
  lx_on c (fun _ _ _ => w_build B.1 B.2 (by
    have : evs (see G.ops ⟨d, .build t parts, ty, pos, aft, g⟩ σ) parts.toList = evs σ parts.toList := List.map_congr_left fun p hp => by
      rw [ev_see (by simp only [Op.operands, List.mem_map]; exact ⟨p, hp, rfl⟩)]
    rw [this]
    exact h) ⟨rfl, rfl⟩) r
/-- A list that is written out, and that nobody writes. -/
theorem x_bs {parts : Array (Nat × Operand)} {n sz b : Nat} {els : List (List V)} (E : El G.P t sz b) (h : vparts sz 0 (evs σ parts.toList) = some els) (hn : (Nat.beq parts.toList.length n && Nat.ble (n * sz) 16777216 && Nat.ble n 16777216) = true) (c : Ck G ⟨d, .buildSlice t n parts, ty, pos, aft, g⟩ i σ []) (r : Lx G os (i + 1) (upd σ d (.arr els)) M ds σ' M') : Lx G (⟨d, .buildSlice t n parts, ty, pos, aft, g⟩ :: os) i σ M (⟨.arr els, []⟩ :: ds) σ' M' := by
  obtain ⟨e, zs, h1, h2, h3, h4, h5, _⟩ := E
  simp only [Bool.and_eq_true, Nat.beq_eq, Nat.ble_eq] at hn
  exact lx_on c (fun _ _ _ => w_buildSlice h1 h2 h4 h5 hn.1.1 (by
    have : evs (see G.ops ⟨d, .buildSlice t n parts, ty, pos, aft, g⟩ σ) parts.toList = evs σ parts.toList := List.map_congr_left fun p hp => by
      rw [ev_see (by simp only [Op.operands, List.mem_map]; exact ⟨p, hp, rfl⟩)]
    rw [this]
    exact h) hn.1.2 hn.2 ⟨rfl, rfl⟩) r
theorem x_mf {f : Nat} {caps : Array Operand} {us : List V} (h : caps.toList.map (ev σ) = us) (c : Ck G ⟨d, .makeFunc (.func f) #[] caps, ty, pos, aft, g⟩ i σ []) (r : Lx G os (i + 1) (upd σ d (.fn f us)) M ds σ' M') : Lx G (⟨d, .makeFunc (.func f) #[] caps, ty, pos, aft, g⟩ :: os) i σ M (⟨.fn f us, []⟩ :: ds) σ' M' :=
  lx_on c (fun _ _ _ => w_makeFunc ⟨by rw [evl_congr (σ' := σ) fun y hy => ev_see (by simp [Op.operands] at hy ⊢; simp [hy]), h], rfl⟩) r
theorem x_cvI {t' : Nat} {k k' : IntKind} {n : Int} (U : (G.P.underlying t).isSome = true) (W : wordOf G.P t' = some k') (hx : ev σ x = .val (.int k n)) (c : Ck G ⟨d, .convert t t' x, ty, pos, aft, g⟩ i σ []) (r : Lx G os (i + 1) (upd σ d (.val (.int k' (k'.wrap n)))) M ds σ' M') : Lx G (⟨d, .convert t t' x, ty, pos, aft, g⟩ :: os) i σ M (⟨.val (.int k' (k'.wrap n)), []⟩ :: ds) σ' M' :=
  lx_on c (fun _ _ _ => w_convInt U W ((ev_see (by simp [Op.operands])).trans hx) ⟨rfl, rfl⟩) r
/-- A byte as a number, a number as a byte. -/
theorem x_cvUI {t' : Nat} {b : UInt8} (U : (G.P.underlying t).isSome = true) (W : wordOf G.P t' = some .i64) (hx : ev σ x = u8 b) (c : Ck G ⟨d, .convert t t' x, ty, pos, aft, g⟩ i σ []) (r : Lx G os (i + 1) (upd σ d (i64 (b.toNat : Int))) M ds σ' M') : Lx G (⟨d, .convert t t' x, ty, pos, aft, g⟩ :: os) i σ M (⟨i64 (b.toNat : Int), []⟩ :: ds) σ' M' :=
  lx_on c (fun _ _ _ => w_convInt U W ((ev_see (by simp [Op.operands])).trans hx) ⟨by have := b.toNat_lt; rw [wrap_i64 (by omega) (by omega)], rfl⟩) r
theorem x_cvZU {t' : Nat} {k : IntKind} {n : Int} (U : (G.P.underlying t).isSome = true) (W : wordOf G.P t' = some .u8) (hx : ev σ x = .val (.int k n)) (c : Ck G ⟨d, .convert t t' x, ty, pos, aft, g⟩ i σ []) (r : Lx G os (i + 1) (upd σ d (u8 (toU8 n))) M ds σ' M') : Lx G (⟨d, .convert t t' x, ty, pos, aft, g⟩ :: os) i σ M (⟨u8 (toU8 n), []⟩ :: ds) σ' M' :=
  lx_on c (fun _ _ _ => w_convInt U W ((ev_see (by simp [Op.operands])).trans hx) ⟨by unfold u8; rw [toU8_val, wrap_u8], rfl⟩) r
theorem x_cvT {t' : Nat} {s : Str} (T : isStr G.P t = true) (T' : isStr G.P t' = true) (hx : ev σ x = tx s) (c : Ck G ⟨d, .convert t t' x, ty, pos, aft, g⟩ i σ []) (r : Lx G os (i + 1) (upd σ d (tx s)) M ds σ' M') : Lx G (⟨d, .convert t t' x, ty, pos, aft, g⟩ :: os) i σ M (⟨tx s, []⟩ :: ds) σ' M' :=
  lx_on c (fun _ _ _ => w_convStr T T' ((ev_see (by simp [Op.operands])).trans hx) ⟨rfl, rfl⟩) r
def Eb (P : Program) (t : Nat) : Prop := ∃ e, elOf P t = some e ∧ wordOf P e = some .u8
theorem x_tob {t' : Nat} {s s' : Str} (T : isStr G.P t = true) (E : Eb G.P t') (hx : ev σ x = tx s) (h : bytO s = some s') (c : Ck G ⟨d, .convert t t' x, ty, pos, aft, g⟩ i σ [(G.n0 + i, some (ob s'))]) (r : Lx G os (i + 1) (upd σ d (.own (G.n0 + i) 0 s'.length)) (setM M (G.n0 + i) (some (ob s'))) ds σ' M') : Lx G (⟨d, .convert t t' x, ty, pos, aft, g⟩ :: os) i σ M (⟨.own (G.n0 + i) 0 s'.length, [(G.n0 + i, some (ob s'))]⟩ :: ds) σ' M' := by
  obtain ⟨h1, rfl⟩ := okO_inv h
  obtain ⟨e, g1, g2⟩ := E
  exact lx_on c (fun _ _ _ => w_toBytes (s := ⟨s.toArray⟩) T g1 g2 ((ev_see (by simp [Op.operands])).trans hx) (by unfold maxLen; simpa using h1) ⟨by simp, by simp [app]; rfl⟩) r
theorem x_tos {t' id : Nat} {s : Str} (E : Eb G.P t) (T : isStr G.P t' = true) (hx : ev σ x = .own id 0 s.length) (hm : hideL (G.h i) M id = some (ob s)) (c : Ck G ⟨d, .convert t t' x, ty, pos, aft, g⟩ i σ []) (r : Lx G os (i + 1) (upd σ d (tx s)) M ds σ' M') : Lx G (⟨d, .convert t t' x, ty, pos, aft, g⟩ :: os) i σ M (⟨tx s, []⟩ :: ds) σ' M' := by
  obtain ⟨e, g1, g2⟩ := E
  exact lx_on c (fun _ _ hs => w_toStr g1 g2 T (els := s.map byteEl) (by
    rw [(ev_see (by simp [Op.operands])).trans hx]
    refine vels_mono hs ?_
    have e1 : (ob s) = ⟨s.map byteEl, 1⟩ := rfl
    simp only [vels, hm, Option.bind_some, e1]
    rw [if_pos ⟨trivial, by simp⟩, List.drop_zero, List.take_of_length_le (by simp)]) (vbytes_map s) ⟨rfl, rfl⟩) r
theorem x_tosA {t' : Nat} {s : Str} (E : Eb G.P t) (T : isStr G.P t' = true) (hx : ev σ x = ar s) (c : Ck G ⟨d, .convert t t' x, ty, pos, aft, g⟩ i σ []) (r : Lx G os (i + 1) (upd σ d (tx s)) M ds σ' M') : Lx G (⟨d, .convert t t' x, ty, pos, aft, g⟩ :: os) i σ M (⟨tx s, []⟩ :: ds) σ' M' := by
  obtain ⟨e, g1, g2⟩ := E
  exact lx_on c (fun _ _ hs => w_toStr g1 g2 T (els := s.map byteEl) (by
    rw [(ev_see (by simp [Op.operands])).trans hx]
    have e1 : ar s = .arr (s.map byteEl) := rfl
    rw [e1]
    simp only [vels]
    rw [if_pos]
    intro el hel
    obtain ⟨q, _, rfl⟩ := List.mem_map.1 hel
    rfl) (vbytes_map s) ⟨rfl, rfl⟩) r

/-- append: what is appended to and what is appended, as lists of cells. -/
theorem x_ap {t' sz b sz' b' : Nat} {els1 els2 : List (List V)} {oi : Option Nat} (E : El G.P t sz b) (E' : El G.P t' sz' b') (hx : vbase (hideL (G.h i) M) sz (ev σ x) = some (els1, oi)) (hy : vels (hideL (G.h i) M) sz (ev σ y) = some els2) (hf : fitB b (els1.length + els2.length) = true)
    (c : Ck G ⟨d, .call ⟨.builtin .append, #[x, y], #[t, t']⟩, ty, pos, aft, g⟩ i σ (dropE oi ++ [(G.n0 + i, some ⟨els1 ++ els2, sz⟩)]))
    (r : Lx G os (i + 1) (upd σ d (.own (G.n0 + i) 0 (els1.length + els2.length))) (app (dropE oi ++ [(G.n0 + i, some ⟨els1 ++ els2, sz⟩)]) M) ds σ' M') :
    Lx G (⟨d, .call ⟨.builtin .append, #[x, y], #[t, t']⟩, ty, pos, aft, g⟩ :: os) i σ M (⟨.own (G.n0 + i) 0 (els1.length + els2.length), dropE oi ++ [(G.n0 + i, some ⟨els1 ++ els2, sz⟩)]⟩ :: ds) σ' M' := by
  obtain ⟨e, zs, h1, h2, h3, h4, h5, h6⟩ := E
  obtain ⟨e', zs', g1, _⟩ := E'
  have hf := fitB_iff.1 hf
  exact lx_on c (fun _ _ hs => w_append h1 g1 h2 h3 h4 h5 (by rw [ev_see (by simp [Op.operands, Call.operands])]; exact vbase_mono hs hx) (by rw [ev_see (by simp [Op.operands, Call.operands])]; exact vels_mono hs hy) hf.1 hf.2 h6 ⟨rfl, (app_dropE _ _ _ _).symm⟩) r

section
variable {α : Type} [Enc α] {l1 l2 l3 : List α} {t' sz b : Nat}
theorem vels_ar {M : Hp} (hz : sz = Enc.sz α) : vels M sz (ar l2) = some (l2.map enc) := by
  simp only [vels]
  rw [if_pos]
  intro el hel
  obtain ⟨q, _, rfl⟩ := List.mem_map.1 hel
  rw [Enc.len, hz]
theorem vels_ob {M : Hp} {id : Nat} (hz : sz = Enc.sz α) (hm : M id = some (ob l2)) : vels M sz (.own id 0 l2.length) = some (l2.map enc) := by
  simp only [vels, hm, Option.bind_some]
  rw [if_pos ⟨hz.symm, by simp⟩, List.drop_zero, List.take_of_length_le (by simp)]
theorem vels_nl {M : Hp} : vels M sz nl = some (([] : List α).map enc) := rfl
theorem vbase_ob {M : Hp} {id : Nat} (hz : sz = Enc.sz α) (hm : M id = some (ob l1)) : vbase M sz (.own id 0 l1.length) = some (l1.map enc, some id) := by
  simp only [vbase, hm, Option.bind_some]
  rw [if_pos ⟨hz.symm, by simp⟩]
/-- append to an object of the walk's own; to nothing. -/
theorem x_apO {id : Nat} (E : El G.P t sz b) (hz : sz = Enc.sz α) (hx : ev σ x = .own id 0 l1.length) (hm : hideL (G.h i) M id = some (ob l1)) (hy : vels (hideL (G.h i) M) sz (ev σ y) = some (l2.map enc)) (h : appO b l1 l2 = some l3)
    (c : Ck G ⟨d, .call ⟨.builtin .append, #[x, y], #[t, t]⟩, ty, pos, aft, g⟩ i σ [(id, none), (G.n0 + i, some (ob l3))])
    (r : Lx G os (i + 1) (upd σ d (.own (G.n0 + i) 0 l3.length)) (setM (setM M id none) (G.n0 + i) (some (ob l3))) ds σ' M') :
    Lx G (⟨d, .call ⟨.builtin .append, #[x, y], #[t, t]⟩, ty, pos, aft, g⟩ :: os) i σ M (⟨.own (G.n0 + i) 0 l3.length, [(id, none), (G.n0 + i, some (ob l3))]⟩ :: ds) σ' M' := by
  obtain ⟨h1, rfl⟩ := okO_inv h
  have hx' : vbase (hideL (G.h i) M) sz (ev σ x) = some (l1.map enc, some id) := by rw [hx]; exact vbase_ob hz hm
  have q := x_ap (G := G) (os := os) (i := i) (σ := σ) (σ' := σ') (M := M) (M' := M') (ds := ds) (d := d) (ty := ty) (pos := pos) (aft := aft) (g := g) E E hx' hy (by simpa using h1)
  simp only [dropE, List.length_map, ← List.map_append, ← List.length_append, hz, List.cons_append, List.nil_append] at q
  exact q c r
theorem x_apN (E : El G.P t sz b) (hz : sz = Enc.sz α) (hx : ev σ x = nl) (hy : vels (hideL (G.h i) M) sz (ev σ y) = some (l2.map enc)) (h : appO b [] l2 = some l3)
    (c : Ck G ⟨d, .call ⟨.builtin .append, #[x, y], #[t, t]⟩, ty, pos, aft, g⟩ i σ [(G.n0 + i, some (ob l3))])
    (r : Lx G os (i + 1) (upd σ d (.own (G.n0 + i) 0 l3.length)) (setM M (G.n0 + i) (some (ob l3))) ds σ' M') :
    Lx G (⟨d, .call ⟨.builtin .append, #[x, y], #[t, t]⟩, ty, pos, aft, g⟩ :: os) i σ M (⟨.own (G.n0 + i) 0 l3.length, [(G.n0 + i, some (ob l3))]⟩ :: ds) σ' M' := by
  obtain ⟨h1, rfl⟩ := okO_inv h
  have hx' : vbase (hideL (G.h i) M) sz (ev σ x) = some (([] : List α).map enc, none) := by rw [hx]; rfl
  have q := x_ap (G := G) (os := os) (i := i) (σ := σ) (σ' := σ') (M := M) (M' := M') (ds := ds) (d := d) (ty := ty) (pos := pos) (aft := aft) (g := g) E E hx' hy (by simpa using h1)
  simp only [dropE, List.length_map, ← List.map_append, ← List.length_append, hz, List.cons_append, List.nil_append] at q
  exact q c r
end

/-! ### Calls -/
variable {cal : Operand} {args : Array Operand} {ts : Array TypeId} {f : Nat} {caps us : List V}
theorem x_pu (hc : ev σ cal = .fn f caps) (hp : plain G.P f = true) (h : Pu G.P f us u) (he : args.toList.map (ev σ) ++ caps = us) (c : Ck G ⟨d, .call ⟨.value cal, args, ts⟩, ty, pos, aft, g⟩ i σ []) (r : Lx G os (i + 1) (upd σ d u) M ds σ' M') : Lx G (⟨d, .call ⟨.value cal, args, ts⟩, ty, pos, aft, g⟩ :: os) i σ M (⟨u, []⟩ :: ds) σ' M' :=
  lx_on c (yl_pu ((ev_see (by simp [Op.operands, Call.operands])).trans hc) hp (by
    rw [evl_congr (σ' := σ) fun y hy => ev_see (by simp [Op.operands, Call.operands] at hy ⊢; simp [hy]), he]
    exact h)) r
theorem x_fx {es : Eff} {Mc : Hp} (hc : ev σ cal = .fn f caps) (hp : plain G.P f = true) (h : Fx G.P f us Mc (G.n0 + i) u es) (hM : Sub Mc (hideL (G.h i) M)) (he : args.toList.map (ev σ) ++ caps = us) (c : Ck G ⟨d, .call ⟨.value cal, args, ts⟩, ty, pos, aft, g⟩ i σ es) (r : Lx G os (i + 1) (upd σ d u) (app es M) ds σ' M') : Lx G (⟨d, .call ⟨.value cal, args, ts⟩, ty, pos, aft, g⟩ :: os) i σ M (⟨u, es⟩ :: ds) σ' M' :=
  lx_on c (yl_fx ((ev_see (by simp [Op.operands, Call.operands])).trans hc) hp hM (by
    rw [evl_congr (σ' := σ) fun y hy => ev_see (by simp [Op.operands, Call.operands] at hy ⊢; simp [hy]), he]
    exact h)) r
theorem x_bo {id : Nat} {o : Ob} {us' : List V} (hc : ev σ cal = .fn f caps) (hp : plain G.P f = true) (h : Pu G.P f us' u) (hM : hideL (G.h i) M id = some o) (he : args.toList.map (ev σ) ++ caps = us) (hus : Fzs id o us us') (hu : Pl u) (c : Ck G ⟨d, .call ⟨.value cal, args, ts⟩, ty, pos, aft, g⟩ i σ []) (r : Lx G os (i + 1) (upd σ d u) M ds σ' M') : Lx G (⟨d, .call ⟨.value cal, args, ts⟩, ty, pos, aft, g⟩ :: os) i σ M (⟨u, []⟩ :: ds) σ' M' :=
  lx_on c (yl_bo (us' := us') ((ev_see (by simp [Op.operands, Call.operands])).trans hc) hp hM (by
    rw [evl_congr (σ' := σ) fun y hy => ev_see (by simp [Op.operands, Call.operands] at hy ⊢; simp [hy]), he]
    exact hus) h hu) r
end
end Go.Ka
